/-
  Texts of this claim, one behind the other: EngN EngO CdWk CdTel SymU CdTelFin EngP CdtEnd. Each says its own conditions.
-/
import Derived.Test.YtaloolcabmfjbaaCdtM17
import Derived.RecoverIn
import Derived.Test.YtaloolcabmfjbaaCdtM6
import Derived.Test.YtaloolcabmfjbaaProg
import Derived.KernelRfl
import Derived.Test.YtaloolcabmfjbaaCdtM15
import Derived.Test.YtaloolcabmfjbaaCdtM5
import Derived.Deep.Slices
import Derived.ChangeArms
import Derived.WideShapes
import Derived.OpenShut
import Derived.Below
import Derived.ChangeSame
import Derived.WalkKit
import Derived.ProofKit

set_option linter.unusedVariables false
set_option linter.unusedSimpArgs false
set_option linter.unusedSectionVars false
section
namespace Go.Eng
open Go.RowKit (Below)
set_option linter.unusedSimpArgs false
set_option linter.unusedVariables false

section
variable {P : Program} {self : ESelf} {ro r : Option Nat} {n : Nat}

theorem range_sound (hs : SelfOK P self) (f : Operand) (ps : Array Tmp) (assign body : Code) : CodeOK P ro r n (.rangeFunc f ps assign body) (rangeE P self ro f ps assign body) := by
 intro c e c' h base ρ0 w0 ρ A w h0 h1 h2 hr
 unfold rangeE at h
 split at h
 ·cases h
 rename_i s1 d marks hopen
 -- the statement is entered
 have hent : ∃ ρ1 w1 MARKS D, ρ.le ρ1 ∧ SRel base ρ1 s1 w1 ∧ Below base w w1 ∧ ρ1 d = some D ∧ DRel ρ1 marks MARKS ∧
   (∀ fn, (Instr.enterLoop fn A.tmps ps assign body r).run P w = .ok (w1.heap.size, MARKS) (w1.alloc (.loop { state := .ready, pending := none, fn, tmps := A.tmps, params := ps, assign, body, defers := D.B }))) := by
  cases ro with
  | none =>
   have h0 : r = none := h0
   subst h0
   cases hopen
   have hle := Env.le_put ⟨w.heap.size, 0, 0⟩ hr.s.fresh
   refine ⟨_, w.alloc (.deferred (some [])), [{ target := .collected w.heap.size, args := #[] }], ⟨w.heap.size, 0, 0⟩, hle, hr.s.new (.dfr false) (.deferred (some [])) 0 rfl rfl, below_new hr.s.le rfl, Env.put_same, ⟨_, _, Env.put_same, rfl, rfl⟩, fun fn => ?_⟩
   have := run_enterLoop_outer (P := P) (w := w) fn A.tmps ps assign body
   rw [World.size_alloc]
   exact this
  | some l0 =>
   obtain ⟨x, hx, rfl⟩ := h0
   have hopen : (match c.st.heap.get l0 with
     | some (.loop r) => some (c.st, r.defers, [])
     | _ => none : Option (St × Nat × List EDef)) = some (s1, d, marks) := hopen
   split at hopen
   ·rename_i rl hg
    cases hopen
    obtain ⟨y, hy, _, L, D, l1, l2, l3, l4, l5, l6, l7, l8, l9⟩ := hr.s.obj' hg (h1.sub _ _ hx)
    rw [h1.sub _ _ hx] at hy; cases hy
    refine ⟨ρ, w, [], D, ρ.le_refl, hr.s, Below.refl _ _, l8, rfl, fun fn => ?_⟩
    rw [← l9]
    exact run_enterLoop_inner l1 fn A.tmps ps assign body
   ·cases hopen
 obtain ⟨ρ1, w1, MARKS, D, g1, g2, g3, g4, g5, g6⟩ := hent
 split at h
 ·rename_i g first cap hf
  cases hbo : bodyOK P g with
  | false => simp [hbo] at h
  | true =>
  simp only [hbo, cond_true] at h
  -- the record
  have hle2 := Env.le_put ⟨w1.heap.size, 0, 0⟩ g2.fresh
  have hf' := evF_rel hr.f f _ hf
  have hf2 := VRel.mono (Env.le_trans g1 hle2) _ _ hf'
  simp only [VRel] at hf2
  obtain ⟨A1, C1, e1, e2, e3⟩ := hf2
  refine wpIn_rangeFunc fun fn _ => ?_
  let L : Loop := { state := .ready, pending := none, fn, tmps := A.tmps, params := ps, assign, body, defers := D.B }
  let w2 : World := w1.alloc (.loop L)
  have hS2 : SRel base (ρ1.put s1.next ⟨w1.heap.size, 0, 0⟩) (s1.new (.loop ⟨.ready, none, c.tmps, ps.toList, assign, body, d⟩)) w2 :=
   g2.new _ (.loop L) 0 rfl ⟨L, D, rfl, rfl, rfl, (hr.f.mono g1).mono hle2, rfl, rfl, rfl, hle2.sub _ _ g4, rfl⟩
  have hB2 : Below base w1 w2 := below_new g2.le rfl
  have hargs : LRel (ρ1.put s1.next ⟨w1.heap.size, 0, 0⟩) (lapp (lapp first [.yld s1.next]) cap) (A1 ++ #[Value.func (.yield w1.heap.size) #[] #[]] ++ C1).toList := by
   rw [lapp_eq, lapp_eq]
   simp only [Array.toList_append]
   exact (e2.append (LRel.cons (by simp only [VRel]; exact ⟨_, _, _, Env.put_same, rfl⟩) LRel.nil)).append e3
  have hself : ∃ ee s2, self (.fn g (lapp (lapp first [.yld s1.next]) cap)) (s1.new (.loop ⟨.ready, none, c.tmps, ps.toList, assign, body, d⟩)) = some (ee, s2) := by
   cases hh : self (.fn g (lapp (lapp first [.yld s1.next]) cap)) (s1.new (.loop ⟨.ready, none, c.tmps, ps.toList, assign, body, d⟩)) with
   | none => rw [hh] at h; cases h
   | some p => exact ⟨p.1, p.2, rfl⟩
  obtain ⟨ee, s2, hself⟩ := hself
  rw [hself] at h
  refine ⟨w1.heap.size, MARKS, w2, { target := .fn (.func g) C1, args := A1 ++ #[Value.func (.yield w1.heap.size) #[] #[]] }, w2, g, _, w2, g6 fn, ?_, fun _ _ => RF_fn _ _, ?_, fun hh => by simp [RF_depth] at hh, callsIn_RF ((hs _ _ _ _ hself base _ w2 hS2 (n - 1) _ hargs).mono ?_)⟩
  ·have em : Array.map A.eval #[Operand.const (Value.func (.yield w1.heap.size) #[] #[])] = #[Value.func (.yield w1.heap.size) #[] #[]] := by simp [Act.eval]
   simp only [resolve, rangeCall, e1, Deferred.ofValue, Sem.run_pure, em]
  ·simp only [invoke]
   exact run_callFunc hbo _
  ·rintro E w3 ⟨ρ3, k1, k2, k3, k4⟩
   have hle3 : ρ.le ρ3 := Env.le_trans g1 (Env.le_trans hle2 k1)
   have hB3 : Below base w w3 := (g3.trans hB2).trans k4
   have hmarks : DRel ρ3 (marks ++ c.defers) (MARKS ++ A.defers) := by
    have m1 := g5.mono (Env.le_trans hle2 k1)
    have m2 := hr.d.mono hle3
    clear h hopen
    revert m1
    generalize marks = ms
    generalize MARKS = MS
    induction ms generalizing MS with
    | nil => intro m1; have m1 : MS = [] := m1; subst m1; exact m2
    | cons a ms ih =>
     intro m1
     cases a with
     | mark k => obtain ⟨x, Y, q1, rfl, q2⟩ := m1; exact ⟨x, Y ++ A.defers, q1, rfl, ih Y q2⟩
     | call k a b => obtain ⟨A', C', Y, rfl, q1, q2, q3⟩ := m1; exact ⟨A', C', Y ++ A.defers, rfl, q1, q2, ih Y q3⟩
   cases ee with
   | pan v =>
    obtain ⟨X, rfl, k5⟩ := k2
    simp only at h
    cases h
    exact CPost.mk (Env.le_trans h1 hle3) (h2.trans hB3) ⟨hr.f.mono hle3, hmarks, k3⟩ ⟨X, rfl, k5⟩
   | ret v =>
    obtain ⟨X, rfl, k5⟩ := k2
    simp only at h
    split at h
    ·rename_i rl hg
     have hnb : rl.state ≠ .busy := by intro e; rw [e] at h; cases h
     have h : (match jumpE rl.pending with
         | some e => some (e, (⟨c.tmps, marks ++ c.defers, s2.upd s1.next (.loop { rl with state := .exhausted })⟩ : Cfg))
         | none => none) = some (e, c') := by
      cases hst : rl.state <;> rw [hst] at h <;> first | exact absurd hst hnb | exact h
     have hy2 : ρ3 s1.next = some ⟨w1.heap.size, 0, 0⟩ := k1.sub _ _ Env.put_same
     obtain ⟨y, hy, _, L3, D3, l1, l2, l3, l4, l5, l6, l7, l8, l9⟩ := k3.obj' hg hy2
     rw [hy2] at hy; cases hy
     simp only at l1
     have hend := run_endLoop (P := P) l1 (by rw [l2]; exact hnb)
     have hS4 : SRel base ρ3 (s2.upd s1.next (.loop { rl with state := .exhausted })) (w3.putObj w1.heap.size (.loop { L3 with state := .exhausted })) :=
      k3.upd hg hy2 _ (.loop { L3 with state := .exhausted }) rfl ⟨_, D3, rfl, rfl, l3, l4, l5, l6, l7, l8, l9⟩
     have hB4 : Below base w (w3.putObj w1.heap.size (.loop { L3 with state := .exhausted })) := hB3.trans (below_set g2.le rfl)
     have hrel : Rel base ρ3 ⟨c.tmps, marks ++ c.defers, s2.upd s1.next (.loop { rl with state := .exhausted })⟩ { A with defers := MARKS ++ A.defers } (w3.putObj w1.heap.size (.loop { L3 with state := .exhausted })) :=
      ⟨hr.f.mono hle3, hmarks, hS4⟩
     generalize (⟨c.tmps, marks ++ c.defers, s2.upd s1.next (.loop { rl with state := .exhausted })⟩ : Cfg) = c4 at h hrel
     refine ⟨_, _, hend, ?_⟩
     split
     ·rename_i hj
      rw [← l3, hj] at h
      simp only [jumpE] at h
      cases h
      exact CPost.mk (Env.le_trans h1 hle3) (h2.trans hB4) hrel rfl
     ·rename_i j hj
      rw [← l3, hj] at h
      cases j <;> simp only [jumpE, reduceCtorEq] at h
      ·cases h
       exact wpIn_exit (CPost.mk (Env.le_trans h1 hle3) (h2.trans hB4) hrel rfl)
      ·cases h
       exact wpIn_ret (CPost.mk (Env.le_trans h1 hle3) (h2.trans hB4) hrel rfl)
    ·cases h
 ·cases h

theorem code_sound (hs : SelfOK P self) (fuel : Nat) : ∀ x : Code, CodeOK P ro r n x (runF (compC P self fuel ro x))
 | .skip => fun c e c' h base ρ0 w0 ρ A w h0 h1 h2 hr => by
  have h : some (EExit.normal, c) = some (e, c') := h
  cases h
  exact wpIn_skip (CPost.mk h1 h2 hr rfl)
 | .label l => fun c e c' h base ρ0 w0 ρ A w h0 h1 h2 hr => by
  have h : some (EExit.normal, c) = some (e, c') := h
  cases h
  exact wpIn_label (CPost.mk h1 h2 hr rfl)
 | .ret => fun c e c' h base ρ0 w0 ρ A w h0 h1 h2 hr => by
  have h : some (EExit.ret, c) = some (e, c') := h
  cases h
  exact wpIn_ret (CPost.mk h1 h2 hr rfl)
 | .exit id => fun c e c' h base ρ0 w0 ρ A w h0 h1 h2 hr => by
  have h : some (EExit.exit id, c) = some (e, c') := h
  cases h
  exact wpIn_exit (CPost.mk h1 h2 hr rfl)
 | .goto l => fun c e c' h base ρ0 w0 ρ A w h0 h1 h2 hr => by
  have h : none = some (e, c') := h
  cases h
 | .scope b => scope_sound (code_sound hs fuel b)
 | .refuse why => fun c e c' h base ρ0 w0 ρ A w h0 h1 h2 hr => by
  have h : none = some (e, c') := h
  cases h
 | .region id ops draw => region_sound hs id ops draw
 | .seq a b => seq_sound (code_sound hs fuel a) (code_sound hs fuel b)
 | .cond x a b => cond_sound (code_sound hs fuel a) (code_sound hs fuel b)
 | .block id b => block_sound (code_sound hs fuel b)
 | .loop b => loop_sound (code_sound hs fuel b) fuel
 | .rangeFunc f ps assign body => range_sound hs f ps assign body

theorem params_rel {ρ : Env} : ∀ (ps : List Tmp) {vs : List V} {As : List Value}, LRel ρ vs As → ∀ {f : Frm} {T : Array Value}, FRel ρ f T →
  FRel ρ (setParams f ps vs) ((ps.zip As).foldl (fun (tmps : Array Value) (x : Tmp × Value) => tmps.setIfInBounds x.1 x.2) T)
 | [], vs, As, h, f, T, hf => by simpa [setParams] using hf
 | p :: ps, [], As, h, f, T, hf => by have h : As = [] := h; subst h; simpa [setParams] using hf
 | p :: ps, v :: vs, As, h, f, T, hf => by
  obtain ⟨X, Y, rfl, h1, h2⟩ := h
  simp only [setParams, List.zip_cons_cons, List.foldl_cons]
  exact params_rel ps h2 (hf.set h1 p)

theorem round_sound (hs : SelfOK P self) (fuel l : Nat) (args : List V) (s : St) (e : EEnd) (s' : St) (h : runRound P self fuel l args s = some (e, s')) (base : Nat) (ρ : Env) (w : World) (hS : SRel base ρ s w) (n : Nat)
  (x : Blk) (L : Loop) (A : Array Value) (hx : ρ l = some x) (hL : w.heap[x.B]? = some (.loop L)) (hA : LRel ρ args A.toList) :
  RoundIn Fence.wide n P x.B L.fn ((L.params.zip A).foldl (fun tmps (t, a) => tmps.setIfInBounds t a) L.tmps) L.assign L.body w (Post base ρ w e s') := by
 unfold runRound at h
 split at h
 ·rename_i rl hg
  obtain ⟨y, hy, hbase, L', D, l1, l2, l3, l4, l5, l6, l7, l8, l9⟩ := hS.obj' hg hx
  rw [hx] at hy; cases hy
  rw [hL] at l1
  cases l1
  have hfr : FRel ρ (setParams rl.tmps rl.params args) ((L.params.zip A).foldl (fun tmps (t, a) => tmps.setIfInBounds t a) L.tmps) := by
   have := params_rel rl.params hA l4
   rw [← l5] at this ⊢
   rw [← Array.foldl_toList, Array.toList_zip]
   exact this
  split at h
  ·rename_i c1 hc1
   split at h
   ·rename_i r1 hg1
    split at h
    ·rename_i hst
     refine roundIn_of_wpIn trivial ?_
     have hrr : RR ρ (some l) (some x.B) := ⟨x, hx, rfl⟩
     rw [l6, l7]
     refine wpIn_mono (F := RF (some x.B)) (code_sound hs fuel rl.assign _ _ _ hc1 base ρ w ρ { tmps := _, defers := [] } w hrr ρ.le_refl (Below.refl _ _) ⟨hfr, rfl, hS⟩) ?_
     rintro E A1 w1 ⟨ρ1, g1, g2, g3, g4, g5, g6⟩
     have g2 : E = .normal := g2
     subst g2
     have hx1 : ρ1 l = some x := g1.sub _ _ hx
     obtain ⟨y1, hy1, hb1, L1, D1, q1, q2, q3, q4, q5, q6, q7, q8, q9⟩ := g5.obj' hg1 hx1
     rw [hx1] at hy1; cases hy1
     refine ⟨_, run_beginRound q1 (by rw [q2]; exact hst), ?_⟩
     have hS2 : SRel base ρ1 (c1.st.upd l (.loop { r1 with state := .busy })) (w1.putObj x.B (.loop { L1 with state := .busy })) :=
      g5.upd hg1 hx1 _ (.loop { L1 with state := .busy }) rfl ⟨_, D1, rfl, rfl, q3, q4, q5, q6, q7, q8, q9⟩
     have hB2 : Below base w (w1.putObj x.B (.loop { L1 with state := .busy })) := g6.trans (below_set hbase rfl)
     split at h
     ·rename_i e2 c2 hc2
      refine wpIn_mono (F := RF (some x.B)) (code_sound hs fuel rl.body _ _ _ hc2 base ρ w ρ1 A1 _ hrr g1 hB2 ⟨g3, g4, hS2⟩) ?_
      rintro E2 A2 w2 ⟨ρ2, k1, k2, k3, k4, k5, k6⟩
      split at h
      ·rename_i r2 hg2
       have hx2 : ρ2 l = some x := k1.sub _ _ hx
       obtain ⟨y2, hy2, hb2, L2, D2, t1, t2, t3, t4, t5, t6, t7, t8, t9⟩ := k5.obj' hg2 hx2
       rw [hx2] at hy2; cases hy2
       cases e2 with
       | normal =>
        have k2 : E2 = .normal := k2
        subst k2
        simp only at h
        cases h
        refine ⟨_, _, run_endRound none t1, ρ2, k1, ⟨_, rfl, by simp only [VRel]; rfl⟩, ?_, k6.trans (below_set hbase rfl)⟩
        exact k5.upd hg2 hx2 _ (.loop _) rfl ⟨_, D2, rfl, rfl, rfl, t4, t5, t6, t7, t8, t9⟩
       | ret =>
        have k2 : E2 = .ret := k2
        subst k2
        simp only at h
        cases h
        refine ⟨_, _, run_endRound (some .ret) t1, ρ2, k1, ⟨_, rfl, by simp only [VRel]; rfl⟩, ?_, k6.trans (below_set hbase rfl)⟩
        exact k5.upd hg2 hx2 _ (.loop _) rfl ⟨_, D2, rfl, rfl, rfl, t4, t5, t6, t7, t8, t9⟩
       | exit id =>
        have k2 : E2 = .exit id := k2
        subst k2
        simp only at h
        cases h
        refine ⟨_, _, run_endRound (some (.exit id)) t1, ρ2, k1, ⟨_, rfl, by simp only [VRel]; rfl⟩, ?_, k6.trans (below_set hbase rfl)⟩
        exact k5.upd hg2 hx2 _ (.loop _) rfl ⟨_, D2, rfl, rfl, rfl, t4, t5, t6, t7, t8, t9⟩
       | pan v => simp only at h; cases h
      ·cases h
     ·cases h
    ·cases h
   ·cases h
  ·cases h
 ·cases h


def resVar (T : Array Value) : ResultVar → Sem Value
 | .tmp t => pure (T.getD t undef)
 | .cell a t => do loadVar t (← asAddr (T.getD a undef))
theorem FRelA.get {ρ : Env} {f : Frm} {A : Array Value} (h : FRelA ρ f A) (k : Nat) (hk : f.get k ≠ .any) : VRel ρ (f.get k) (A.getD k undef) := by
 obtain ⟨h1, d, h2, h3, h4⟩ := h
 rw [Frm.get_eq, blt_iff] at hk ⊢
 rw [Array.getD_eq_getD_getElem?]
 by_cases hl : k < f.n
 ·rw [decide_eq_true hl] at hk ⊢
  have hk' : k < A.size := by omega
  have := h4 k A[k] (Array.getElem?_eq_getElem hk')
  rw [Array.getElem?_eq_getElem hk']
  exact this.resolve_left hk
 ·rw [decide_eq_false hl]
  have hk' : A.size ≤ k := by omega
  rw [Array.getElem?_eq_none hk']
  show VRel ρ .undef (.tuple #[])
  simp only [VRel]
theorem results_rel {base : Nat} {ρ : Env} {s : St} {w : World} (h : SRel base ρ s w) {f : Frm} {T : Array Value} (hf : FRelA ρ f T) : ∀ {rs : List ResultVar} {l : List V}, resultsE P s f rs = some l →
  ∃ L : List Value, (rs.mapM (resVar T)).run P w = .ok L w ∧ LRel ρ l L
 | [], l, hq => by simp only [resultsE] at hq; cases hq; exact ⟨[], by simp, LRel.nil⟩
 | .tmp t :: rs, l, hq => by
  simp only [resultsE] at hq
  split at hq
  ·rename_i l' hl
   split at hq
   ·cases hq
   rename_i hne
   cases hq
   obtain ⟨L, h1, h2⟩ := results_rel h hf hl
   exact ⟨T.getD t undef :: L, by simp only [List.mapM_cons, resVar, Sem.run_bind, Sem.run_pure, Result.andThen_ok, h1], LRel.cons (hf.get t hne) h2⟩
  ·cases hq
 | .cell a t :: rs, l, hq => by
  simp only [resultsE] at hq
  split at hq
  ·rename_i v hv
   split at hq
   ·rename_i l' hl
    cases hq
    obtain ⟨L, h1, h2⟩ := results_rel h hf hl
    have ha := hf.get a (fun e => by rw [e] at hv; cases hv)
    obtain ⟨X, h3, h4⟩ := qLoad_rel (P := P) h hv ha
    have hp : ∃ ad, T.getD a undef = .pointer (some ad) := by
     unfold qLoad at hv
     split at hv
     ·rename_i e
      rw [e] at ha
      simp only [VRel] at ha
      obtain ⟨B, O, S, _, e2⟩ := ha
      exact ⟨_, e2⟩
     ·cases hv
    obtain ⟨ad, hp⟩ := hp
    rw [hp] at h3
    have h5 : (loadVar t ad).run P w = .ok X w := h3
    refine ⟨X :: L, ?_, LRel.cons h4 h2⟩
    simp only [List.mapM_cons, resVar, Sem.run_bind, Sem.run_pure, Result.andThen_ok, h1, hp, asAddr, h5]
   ·cases hq
  ·cases hq

theorem result_rel {base : Nat} {ρ : Env} {s : St} {w : World} (h : SRel base ρ s w) {f : Frm} {T : Array Value} (hf : FRelA ρ f T) {fn : Func} {v : V} (hq : resultE P s f fn.results.toList = some v) :
  ∃ X, (results fn T).run P w = .ok X w ∧ VRel ρ v X := by
 unfold resultE at hq
 have key : ∀ l, resultsE P s f fn.results.toList = some l → ∃ L : List Value, LRel ρ l L ∧ (results fn T).run P w = .ok (if h : L.toArray.size = 1 then L.toArray[0] else .tuple L.toArray) w := by
  intro l hl
  obtain ⟨L, h1, h2⟩ := results_rel (P := P) h hf hl
  refine ⟨L, h2, ?_⟩
  have e : results fn T = (do
      let vs ← fn.results.mapM (resVar T)
      pure (if h : vs.size = 1 then vs[0] else .tuple vs)) := by
   unfold results
   congr 1
  rw [e]
  simp only [Sem.run_bind, Array.mapM_eq_mapM_toList, Sem.run_map, h1, Result.andThen_ok, Sem.run_pure]
 split at hq
 ·rename_i v' hl
  cases hq
  obtain ⟨L, h1, h2⟩ := key _ hl
  obtain ⟨X, Y, rfl, h3, h4⟩ := h1
  have h4 : Y = [] := h4
  subst h4
  exact ⟨X, by simpa using h2, h3⟩
 ·rename_i l hne hl
  cases hq
  obtain ⟨L, h1, h2⟩ := key _ hl
  have hlen := h1.length
  have hne1 : ¬ L.toArray.size = 1 := by
   intro e
   simp only [List.size_toArray] at e
   rw [e] at hlen
   obtain ⟨a, rfl⟩ := List.length_eq_one_iff.1 hlen
   exact hne a rfl
  refine ⟨.tuple L.toArray, by rw [h2, dif_neg hne1], ?_⟩
  cases l with
  | nil =>
   have h1 : L = [] := h1
   subst h1
   simp only [VRel]
  | cons a l => simp only [VRel]; exact ⟨_, rfl, by simpa using h1⟩
 ·cases hq

def DMRel (ρ : Env) : DM → FrameMode → Prop
 | none, u => u = .returning
 | some (v, b), u => ∃ X, u = .panicking [{ v := X, recovered := b }] ∧ VRel ρ v X
theorem DMRel.mono {ρ ρ' : Env} (h : ρ.le ρ') : ∀ {m : DM} {u : FrameMode}, DMRel ρ m u → DMRel ρ' m u
 | none, _, r => r
 | some _, _, ⟨X, h1, h2⟩ => ⟨X, h1, VRel.mono h _ _ h2⟩
theorem DMRel.settle {ρ : Env} : ∀ {m : DM} {u : FrameMode}, DMRel ρ m u → DMRel ρ (settleE m) (settle u)
 | none, _, r => by have r : _ = _ := r; subst r; rfl
 | some (v, false), _, ⟨X, h1, h2⟩ => by subst h1; exact ⟨X, rfl, h2⟩
 | some (v, true), _, ⟨X, h1, h2⟩ => by subst h1; rfl
theorem DMRel.run {ρ : Env} : ∀ {m : DM} {u : FrameMode}, DMRel ρ m u → u ≠ .run
 | none, _, r => by have r : _ = _ := r; subst r; simp
 | some (v, b), _, ⟨X, h1, h2⟩ => by subst h1; simp
def DPost (base : Nat) (ρ : Env) (w : World) (e : EExit) (c' : Cfg) (m' : DM) (c₀ : Frame) (cs : List Frame) : Exit → Act → List Frame → World → Prop :=
 fun E A' cs' w' => ∃ ρ' u', ρ.le ρ' ∧ XRel ρ' e E ∧ Rel base ρ' c' A' w' ∧ Below base w w' ∧ cs' = { c₀ with mode := u' } :: cs ∧ DMRel ρ' m' u'
def CodeDOK (P : Program) (n : Nat) (x : Code) (f : Cfg → DM → Option (EExit × Cfg × DM)) : Prop :=
 ∀ c m e c' m', f c m = some (e, c', m') → ∀ base ρ0 w0 ρ A w (c₀ : Frame) (cs : List Frame), ρ0.le ρ → Below base w0 w → Rel base ρ c A w → DMRel ρ m c₀.mode →
  x.wpSIn Fence.wide n P (DPost base ρ0 w0 e c' m' c₀ cs) A (c₀ :: cs) w
theorem wpSIn_mono {F : Fence} {c : Code} {Q Q' : Exit → Act → List Frame → World → Prop} {a : Act} {cs : List Frame} {w : World} (h : c.wpSIn F n P Q a cs w) (hq : ∀ e a cs w, Q e a cs w → Q' e a cs w) : c.wpSIn F n P Q' a cs w :=
 fun b k hb hr hF hroom => let ⟨e, a', cs', w', l, q, r⟩ := h b k hb hr hF hroom; ⟨e, a', cs', w', l, hq _ _ _ _ q, r⟩
theorem plain_sound {x : Code} {f : Cfg → Option (EExit × Cfg)} (hx : CodeOK P none none n x f) : CodeDOK P n x fun c m => withD m (f c) := by
 intro c m e c' m' h base ρ0 w0 ρ A w c₀ cs h1 h2 hr hm
 cases hf : f c with
 | none => simp [hf, withD] at h
 | some p =>
  obtain ⟨e1, c1⟩ := p
  have hnp : ∀ v, e1 ≠ .pan v := fun v ev => by subst ev; simp [hf, withD] at h
  have h : some (e1, c1, m) = some (e, c', m') := by
   cases e1 with
   | pan v => exact absurd rfl (hnp v)
   | _ => simpa [hf, withD] using h
  simp only [Option.some.injEq, Prod.mk.injEq] at h
  obtain ⟨rfl, rfl, rfl⟩ := h
  refine wpSIn_of_wpIn rfl (wpIn_mono (F := RF none) (hx c _ _ hf base ρ w ρ A w rfl ρ.le_refl (Below.refl _ _) hr) ?_)
  rintro E A1 w1 ⟨ρ', g1, g2, g3, g4, g5, g6⟩
  have g3 : FRel ρ' c1.tmps A1.tmps := by
   cases e1 with
   | pan v => exact absurd rfl (hnp v)
   | _ => exact g3
  exact ⟨ρ', c₀.mode, Env.le_trans h1 g1, g2, ⟨g3, g4, g5⟩, h2.trans g6, rfl, hm.mono g1⟩

theorem run_rec {A : Act} {o : Oper} (h : isRec o.op = true) {w : World} : (execOp A.eval o).run P w = .ok .recover w := by
 unfold isRec at h
 split at h
 ·rename_i cl ho
  split at h
  ·rename_i hc
   have ha : cl.args = #[] := by simpa using h
   unfold execOp
   simp [ho, resolve, hc, invoke, Go.builtin, ha]
  ·cases h
 ·cases h
theorem rec_sound (ops : Array Oper) : ∀ (l : List Oper) (idx : List Nat), idx.map (ops[·]?) = l.map some → ∀ c m e c' m', recE P l c m = some (e, c', m') →
  ∀ base ρ0 w0 ρ A w (c₀ : Frame) (cs : List Frame), ρ0.le ρ → Below base w0 w → Rel base ρ c A w → DMRel ρ m c₀.mode → wpOpsSIn Fence.wide n P ops (DPost base ρ0 w0 e c' m' c₀ cs) idx A (c₀ :: cs) w := by
 intro l
 induction l with
 | nil =>
  intro idx hi c m e c' m' h base ρ0 w0 ρ A w c₀ cs h1 h2 hr hm
  have hi : idx = [] := by simpa using hi
  subst hi
  simp only [recE] at h
  cases h
  exact ⟨ρ, c₀.mode, h1, rfl, hr, h2, rfl, hm⟩
 | cons o l ih =>
  intro idx hi c m e c' m' h base ρ0 w0 ρ A w c₀ cs h1 h2 hr hm
  cases idx with
  | nil => simp at hi
  | cons i idx =>
  simp only [List.map_cons, List.cons.injEq] at hi
  obtain ⟨hio, hi⟩ := hi
  simp only [recE] at h
  split at h
  ·cases h
  rename_i hg
  have hw : Region.wanted o (yielded ops A.tmps) = true := by unfold Region.wanted; rw [hg]
  simp only [wpOpsSIn, hio, hw, if_true]
  refine ⟨fun f' _ => trivial, ?_⟩
  cases hrec : isRec o.op with
  | true =>
   rw [hrec, cond_true] at h
   rw [run_rec hrec]
   simp only
   split at h
   ·rename_i v
    obtain ⟨X, hu, hX⟩ := hm
    have e1 : recoverD (c₀ :: cs) = some (X, { c₀ with mode := .panicking [{ v := X, recovered := true }] } :: cs) := by simp [recoverD, hu]
    rw [e1]
    exact ih idx hi _ _ e c' m' h base ρ0 w0 ρ _ w { c₀ with mode := .panicking [{ v := X, recovered := true }] } cs h1 h2 ⟨putE_rel hr.f hX o.dst, by rw [put_defers]; exact hr.d, hr.s⟩ ⟨X, rfl, hX⟩
   ·rename_i m1 hne
    have e1 : recoverD (c₀ :: cs) = none := by
     cases m with
     | none => have hm : _ = _ := hm; simp [recoverD, hm]
     | some p =>
      obtain ⟨v, b⟩ := p
      cases b with
      | false => exact absurd rfl (hne v)
      | true => obtain ⟨X, hu, hX⟩ := hm; simp [recoverD, hu]
    rw [e1]
    exact ih idx hi _ _ e c' m' h base ρ0 w0 ρ _ w c₀ cs h1 h2 ⟨putE_rel hr.f (by simp only [VRel]) o.dst, by rw [put_defers]; exact hr.d, hr.s⟩ hm
  | false =>
   rw [hrec, cond_false] at h
   split at h
   ·rename_i v hv
    obtain ⟨X, g1, g2⟩ := qop_rel hr.s (evF_rel hr.f) hv
    rw [g1]
    exact ih idx hi _ _ e c' m' h base ρ0 w0 ρ _ w c₀ cs h1 h2 ⟨putE_rel hr.f g2 o.dst, by rw [put_defers]; exact hr.d, hr.s⟩ hm
   ·cases h

theorem seqD_sound {a b : Code} {fa fb : Cfg → DM → Option (EExit × Cfg × DM)} (ha : CodeDOK P n a fa) (hb : CodeDOK P n b fb) : CodeDOK P n (.seq a b) (seqD fa fb) := by
 intro c m e c' m' h base ρ0 w0 ρ A w c₀ cs h1 h2 hr hm
 refine wpSIn_seq ?_
 unfold seqD at h
 split at h
 ·rename_i c1 m1 hc1
  refine wpSIn_mono (ha c m _ _ _ hc1 base ρ0 w0 ρ A w c₀ cs h1 h2 hr hm) ?_
  rintro E A1 cs1 w1 ⟨ρ', u', g1, g2, g3, g4, rfl, g5⟩
  have g2 : E = .normal := g2
  subst g2
  exact hb c1 m1 e c' m' h base ρ0 w0 ρ' A1 w1 { c₀ with mode := u' } cs g1 g4 g3 g5
 ·rename_i hne
  refine wpSIn_mono (ha c m e c' m' h base ρ0 w0 ρ A w c₀ cs h1 h2 hr hm) ?_
  rintro E A1 cs1 w1 hp
  cases E with
  | normal =>
   obtain ⟨ρ', u', g1, g2, g3, g4, rfl, g5⟩ := hp
   cases e with
   | normal => exact absurd h (hne c' m')
   | exit id => cases g2
   | ret => cases g2
   | pan v => obtain ⟨X, g2, _⟩ := g2; cases g2
  | _ => exact hp

theorem condD_sound {x : Operand} {a b : Code} {fa fb : Cfg → DM → Option (EExit × Cfg × DM)} (ha : CodeDOK P n a fa) (hb : CodeDOK P n b fb) : CodeDOK P n (.cond x a b) (condD x fa fb) := by
 intro c m e c' m' h base ρ0 w0 ρ A w c₀ cs h1 h2 hr hm
 unfold condD at h
 split at h
 ·rename_i hx
  have := evF_rel hr.f _ _ hx
  simp only [VRel] at this
  exact wpSIn_cond this (ha c m e c' m' h base ρ0 w0 ρ A w c₀ cs h1 h2 hr hm)
 ·rename_i hx
  have := evF_rel hr.f _ _ hx
  simp only [VRel] at this
  exact wpSIn_cond this (hb c m e c' m' h base ρ0 w0 ρ A w c₀ cs h1 h2 hr hm)
 ·cases h

theorem codeD_sound (hs : SelfOK P self) (fuel : Nat) : ∀ x : Code, CodeDOK P n x (runD (compD P self fuel x))
 | .skip => plain_sound (code_sound hs fuel .skip)
 | .label l => plain_sound (code_sound hs fuel (.label l))
 | .ret => plain_sound (code_sound hs fuel .ret)
 | .exit id => plain_sound (code_sound hs fuel (.exit id))
 | .goto l => plain_sound (code_sound hs fuel (.goto l))
 | .scope b => plain_sound (code_sound hs fuel (.scope b))
 | .refuse why => plain_sound (code_sound hs fuel (.refuse why))
 | .region id ops true => plain_sound (code_sound hs fuel (.region id ops true))
 | .region id ops false => by
  intro c m e c' m' h base ρ0 w0 ρ A w c₀ cs h1 h2 hr hm
  have h : (bif hasRec ops.toList then recE P ops.toList c m else withD m (runCode P self fuel none (.region id ops false) c)) = some (e, c', m') := h
  cases hd : hasRec ops.toList with
  | true =>
   rw [hd, cond_true] at h
   exact wpSIn_region (rec_sound ops ops.toList _ (range_map ops) c m e c' m' h base ρ0 w0 ρ A w c₀ cs h1 h2 hr hm)
  | false =>
   rw [hd, cond_false] at h
   exact plain_sound (code_sound hs fuel (.region id ops false)) c m e c' m' h base ρ0 w0 ρ A w c₀ cs h1 h2 hr hm
 | .seq a b => seqD_sound (codeD_sound hs fuel a) (codeD_sound hs fuel b)
 | .cond x a b => condD_sound (codeD_sound hs fuel a) (codeD_sound hs fuel b)
 | .block id b => plain_sound (code_sound hs fuel (.block id b))
 | .loop b => plain_sound (code_sound hs fuel (.loop b))
 | .rangeFunc f ps assign body => plain_sound (code_sound hs fuel (.rangeFunc f ps assign body))

theorem hOf_le {n : Nat} (h : n ≤ 4096) : n ≤ 2 ^ hOf n := by
 unfold hOf
 have bl : ∀ a b : Nat, Nat.ble a b = decide (a ≤ b) := by intro a b; rw [Bool.eq_iff_iff]; simp
 simp only [bl]
 by_cases h1 : n ≤ 1
 ·simp [h1]
 by_cases h2 : n ≤ 2
 ·simp [h1, h2]
 by_cases h4 : n ≤ 4
 ·simp [h1, h2, h4]
 by_cases h8 : n ≤ 8
 ·simp [h1, h2, h4, h8]
 by_cases h16 : n ≤ 16
 ·simp [h1, h2, h4, h8, h16]
 by_cases h32 : n ≤ 32
 ·simp [h1, h2, h4, h8, h16, h32]
 by_cases h64 : n ≤ 64
 ·simp [h1, h2, h4, h8, h16, h32, h64]
 by_cases h128 : n ≤ 128
 ·simp [h1, h2, h4, h8, h16, h32, h64, h128]
 by_cases h256 : n ≤ 256
 ·simp [h1, h2, h4, h8, h16, h32, h64, h128, h256]
 by_cases h512 : n ≤ 512
 ·simp [h1, h2, h4, h8, h16, h32, h64, h128, h256, h512]
 by_cases h1024 : n ≤ 1024
 ·simp [h1, h2, h4, h8, h16, h32, h64, h128, h256, h512, h1024]
 ·simp [h1, h2, h4, h8, h16, h32, h64, h128, h256, h512, h1024]; omega

theorem mkFrm_rel {ρ : Env} {args : List V} {A : Array Value} (h : LRel ρ args A.toList) {n : Nat} (hn : args.length ≤ n) (hm : n ≤ 4096) : FRel ρ (mkFrm n args) (A ++ Array.replicate (n - A.size) undef) := by
 have hl := h.length
 simp only [Array.length_toList] at hl
 refine ⟨by simp [mkFrm]; omega, hOf n, B.ofList_full _ _ _, hOf_le hm, fun i X hi => ?_⟩
 have hi2 : i < n := by
  have := (Array.getElem?_eq_some_iff.1 hi).1
  simp at this; omega
 have hle := hOf_le hm
 show VRel ρ ((B.ofList .undef (hOf n) args).get i) X
 rw [B.ofList_get _ _ _ _ (by omega), List.getD_eq_getElem?_getD]
 rw [Array.getElem?_append] at hi
 by_cases hia : i < A.size
 ·rw [if_pos hia] at hi
  have e : args[i]? = some args[i] := List.getElem?_eq_getElem (by omega)
  obtain ⟨Y, h1, h2⟩ := h.get e
  simp only [Array.getElem?_toList] at h1
  rw [hi] at h1; cases h1
  rw [e]; exact h2
 ·rw [if_neg hia] at hi
  rw [List.getElem?_eq_none (by omega)]
  rw [Array.getElem?_replicate] at hi
  split at hi
  ·cases hi
   show VRel ρ .undef (.tuple #[])
   simp only [VRel]
  ·cases hi

theorem def_sound (hs : SelfOK P self) (fuel : Nat) {g : FuncId} {args : List V} {m m' : DM} {s s' : St} (h : runDef P self fuel g args m s = some (m', s')) {base : Nat} {ρ : Env} {w : World} (hS : SRel base ρ s w) {A : Array Value}
  (hA : LRel ρ args A.toList) {u : FrameMode} (hm : DMRel ρ m u) {R : Ending → FrameMode → World → Prop}
  (hR : ∀ X u' w' ρ', ρ.le ρ' → SRel base ρ' s' w' → Below base w w' → DMRel ρ' m' u' → R (.returned X) u' w') : CallsDIn Fence.wide n P g A u w R := by
 unfold runDef at h
 split at h
 ·rename_i fn hfn
  split at h
  ·rename_i c hc
   simp only [llen_eq] at h
   cases hb : (Nat.ble args.length fn.ntmps && Nat.ble fn.ntmps 4096) with
   | false => simp [hb] at h
   | true =>
   simp only [hb, Bool.not_true, cond_false] at h
   simp only [Bool.and_eq_true, Nat.ble_eq] at hb
   have hfr := mkFrm_rel hA hb.1 hb.2
   refine callsDIn_of_wpSIn hfn hc trivial fun c₀ cs hu => ?_
   subst hu
   split at h
   ·rename_i e c' m1 hc1
    have hw := codeD_sound (n := n) hs fuel c _ _ _ _ _ hc1 base ρ w ρ { tmps := _, defers := [] } w c₀ cs ρ.le_refl (Below.refl _ _) ⟨hfr, rfl, hS⟩ hm
    have fin : (match c'.defers with
      | [] => match resultE P c'.st c'.tmps fn.results.toList with
        | some _ => some (m1, c'.st)
        | none => none
      | _ :: _ => none) = some (m', s') → ∀ (A1 : Act) (cs1 : List Frame) (w1 : World) (ρ' : Env) (u' : FrameMode), ρ.le ρ' → Rel base ρ' c' A1 w1 → Below base w w1 → cs1 = { c₀ with mode := u' } :: cs → DMRel ρ' m1 u' →
      A1.defers = [] ∧ ∃ u', cs1 = { c₀ with mode := u' } :: cs ∧ ∃ v, (results fn A1.tmps).run P w1 = .ok v w1 ∧ R (.returned v) u' w1 := by
     intro hh A1 cs1 w1 ρ' u' g1 g3 g4 g5 g6
     split at hh
     ·rename_i hd
      split at hh
      ·rename_i v hv
       cases hh
       obtain ⟨X, q1, q2⟩ := result_rel (P := P) g3.s g3.f.toA hv
       have hdd := g3.d
       rw [hd] at hdd
       exact ⟨hdd, u', g5, X, q1, hR X u' w1 ρ' g1 g3.s g4 g6⟩
      ·cases hh
     ·cases hh
    refine wpSIn_mono hw ?_
    rintro E A1 cs1 w1 ⟨ρ', u', g1, g2, g3, g4, g5, g6⟩
    split at h
    ·have g2 : E = .normal := g2
     subst g2
     exact fin h A1 cs1 w1 ρ' u' g1 g3 g4 g5 g6
    ·have g2 : E = .ret := g2
     subst g2
     exact fin h A1 cs1 w1 ρ' u' g1 g3 g4 g5 g6
    ·cases h
   ·cases h
  ·cases h
 ·cases h

theorem leave_sound (hs : SelfOK P self) (fuel : Nat) (fn : Func) {f : Frm} {T : Array Value} {base : Nat} {ρ0 : Env} {w0 : World} {e : EEnd} {s' : St} : ∀ (ds : List EDef) (D : List Deferred) (s : St) (w : World) (ρ : Env) (m : DM) (u : FrameMode),
  leaveE P self fuel fn f m ds s = some (e, s') → ρ0.le ρ → Below base w0 w → FRelA ρ f T → SRel base ρ s w → DRel ρ ds D → DMRel ρ m u → LeavesInM Fence.wide n P fn T (Post base ρ0 w0 e s') D u w
 | [], D, s, w, ρ, m, u, h, h1, h2, hf, hS, hD, hm => by
  have hD : D = [] := hD
  subst hD
  simp only [leaveE] at h
  split at h
  ·rename_i v
   cases h
   obtain ⟨X, rfl, hX⟩ := hm
   exact ⟨ρ, h1, ⟨X, rfl, hX⟩, hS, h2⟩
  ·cases h
  ·split at h
   ·rename_i v hv
    cases h
    have hm : u = .returning := hm
    subst hm
    obtain ⟨X, g1, g2⟩ := result_rel (P := P) hS hf hv
    exact ⟨X, g1, ρ, h1, ⟨X, rfl, g2⟩, hS, h2⟩
   ·cases h
 | .mark k :: ds, D, s, w, ρ, m, u, h, h1, h2, hf, hS, hD, hm => by
  obtain ⟨x, Y, g1, rfl, g2⟩ := hD
  simp only [leaveE] at h
  split at h
  ·rename_i hg
   obtain ⟨y, hy, hb, hO⟩ := hS.obj' hg g1
   rw [g1] at hy; cases hy
   have hO : w.heap[x.B]? = some (.deferred (some [])) := hO
   refine ⟨hm.run, .inl ⟨_, _, rfl, run_takeDeferred hO, ?_⟩⟩
   exact leave_sound hs fuel fn ds Y _ _ ρ m u h h1 (h2.trans (below_set hb rfl)) hf (hS.upd hg g1 (.dfr true) (.deferred none) rfl rfl) g2 hm
  ·cases h
 | .call g a c :: ds, D, s, w, ρ, m, u, h, h1, h2, hf, hS, hD, hm => by
  obtain ⟨A1, C1, Y, rfl, q1, q2, q3⟩ := hD
  simp only [leaveE] at h
  cases hb : bodyOK P g with
  | false => rw [hb] at h; cases h
  | true =>
   rw [hb, cond_true] at h
   split at h
   ·rename_i m1 s1 hd
    have hrun : (invoke (.fn (.func g) C1) A1).run P w = .ok (.enter g (A1 ++ C1)) w := by
     simp only [invoke]
     exact run_callFunc hb _
    refine ⟨hm.run, .inr ⟨fun hh => by simp [Fence.wide] at hh, .func g, C1, g, A1 ++ C1, rfl, hrun, fun _ _ => trivial, ?_⟩⟩
    refine def_sound hs fuel hd hS (by rw [lapp_eq, Array.toList_append]; exact q1.append q2) hm fun X u' w' ρ' g1 g2 g3 g4 => ?_
    exact leave_sound hs fuel fn ds Y s1 w' ρ' _ _ h (Env.le_trans h1 g1) (h2.trans g3) (hf.mono g1) g2 (q3.mono g1) g4.settle
   ·cases h

theorem fn_sound (hs : SelfOK P self) (fuel : Nat) (g : FuncId) (args : List V) (s : St) (e : EEnd) (s' : St) (h : runFn P self fuel g args s = some (e, s')) (base : Nat) (ρ : Env) (w : World) (hS : SRel base ρ s w) (n : Nat)
  (A : Array Value) (hA : LRel ρ args A.toList) : CallsIn Fence.wide n P g A w (Post base ρ w e s') := by
 unfold runFn at h
 split at h
 ·rename_i fn hfn
  split at h
  ·rename_i c hc
   simp only [llen_eq] at h
   cases hb : (Nat.ble args.length fn.ntmps && Nat.ble fn.ntmps 4096) with
   | false => simp [hb] at h
   | true =>
   simp only [hb, Bool.not_true, cond_false] at h
   simp only [Bool.and_eq_true, Nat.ble_eq] at hb
   have hfr := mkFrm_rel hA hb.1 hb.2
   refine callsIn_of_wp_marks hfn hc trivial ?_
   have run : ∀ (e1 : EExit) (c1 : Cfg), runCode P self fuel none c ⟨mkFrm fn.ntmps args, [], s⟩ = some (e1, c1) →
     (∀ (E : Exit) (A1 : Act) (w1 : World), CPost base ρ w e1 c1 E A1 w1 → bodyPostM Fence.wide n P fn (Post base ρ w e s') E A1 w1) →
     c.wpIn Fence.wide n P (bodyPostM Fence.wide n P fn (Post base ρ w e s')) { tmps := A ++ Array.replicate (fn.ntmps - A.size) undef, defers := [] } w := by
    intro e1 c1 h1 h2
    exact wpIn_mono (F := RF none) (code_sound (r := none) (ro := none) hs fuel c _ _ _ h1 base ρ w ρ { tmps := _, defers := [] } w rfl ρ.le_refl (Below.refl _ _) ⟨hfr, rfl, hS⟩) h2
   split at h
   ·rename_i c1 h1
    refine run _ _ h1 ?_
    rintro E A1 w1 ⟨ρ1, g1, g2, g3, g4, g5, g6⟩
    have g2 : E = .normal := g2
    subst g2
    exact leave_sound hs fuel fn _ _ _ _ ρ1 none .returning h g1 g6 (FRel.toA g3) g5 g4 rfl
   ·rename_i c1 h1
    refine run _ _ h1 ?_
    rintro E A1 w1 ⟨ρ1, g1, g2, g3, g4, g5, g6⟩
    have g2 : E = .ret := g2
    subst g2
    exact leave_sound hs fuel fn _ _ _ _ ρ1 none .returning h g1 g6 (FRel.toA g3) g5 g4 rfl
   ·rename_i v c1 h1
    refine run _ _ h1 ?_
    rintro E A1 w1 ⟨ρ1, g1, ⟨X, rfl, g2⟩, g3, g4, g5, g6⟩
    exact leave_sound hs fuel fn _ _ _ _ ρ1 (some (v, false)) _ h g1 g6 g3 g5 g4 ⟨X, rfl, g2⟩
   ·cases h
  ·cases h
 ·cases h

theorem call_sound {known : ESelf} (hk : SelfOK P known) (fuel : Nat) : ∀ d, SelfOK P (callE P known fuel d)
 | 0 => fun t s e s' h => by
  have h : none = some (e, s') := h
  cases h
 | d + 1 => fun t s e s' h base ρ w hS n => by
  have h : (match known t s with
    | some r => some r
    | none => runT P (callE P known fuel d) fuel t s) = some (e, s') := h
  split at h
  ·rename_i r hr
   cases h
   exact hk t s e s' hr base ρ w hS n
  ·cases t with
   | fn g args => exact fun A hA => fn_sound (call_sound hk fuel d) fuel g args s e s' h base ρ w hS n A hA
   | round l args => exact fun x L A hx hL hA _ => round_sound (call_sound hk fuel d) fuel l args s e s' h base ρ w hS n x L A hx hL hA

theorem none_ok : SelfOK P (fun _ _ => none) := fun _ _ _ _ h => by cases h

def st0 : St := ⟨.leaf, 0⟩
theorem st0_get (b : Nat) (o : EObj) (h : st0.heap.get b = some o) : False := by
 have e : st0.heap.get b = none := T.get_leaf b
 rw [e] at h; cases h
def env0 : Env := ⟨fun _ => none, 0⟩
theorem st0_rel (w : World) : SRel w.heap.size env0 st0 w where
 le := Nat.le_refl _
 obj := fun b o x h => (st0_get b o h).elim
 inj := fun b b' o o' x x' h => (st0_get b o h).elim
 dom := fun b x h => by cases h
 top := Nat.le_refl _

theorem calls_of_eval {known : ESelf} (hk : SelfOK P known) {fuel d : Nat} {g : FuncId} {args : List V} {v : V} {s' : St} (h : callE P known fuel d (.fn g args) st0 = some (.ret v, s')) (w : World) {A : Array Value}
  (hA : LRel env0 args A.toList) : Calls P g A w fun E w' => ∃ ρ' X, E = .returned X ∧ VRel ρ' v X ∧ SRel w.heap.size ρ' s' w' ∧ Below w.heap.size w w' := by
 have := call_sound hk fuel d (.fn g args) st0 (.ret v) s' h w.heap.size _ w (st0_rel w) 0 A hA
 refine (callsIn_wide.1 this).mono ?_
 rintro E w' ⟨ρ', _, ⟨X, rfl, h1⟩, h2, h3⟩
 exact ⟨ρ', X, rfl, h1, h2, h3⟩
end
end Go.Eng
end

section
namespace Go.Eng
open Go.RowKit (Below)

mutual
def V.flat : V → Bool
 | .undef => true
 | .bool _ => true
 | .int _ _ => true
 | .str _ => true
 | .nilp => true
 | .nils => true
 | .nilm => true
 | .nilf => true
 | .nili => true
 | .iface _ v => v.flat
 | .agg l => flatL l
 | .tup l => flatL l
 | _ => false
def flatL : List V → Bool
 | [] => true
 | v :: l => v.flat && flatL l
end

mutual
theorem VRel.flat {ρ ρ' : Env} : ∀ (v : V) (W : Value), v.flat = true → VRel ρ v W → VRel ρ' v W
 | .undef, _, _, r => by simpa only [VRel] using r
 | .bool _, _, _, r => by simpa only [VRel] using r
 | .int _ _, _, _, r => by simpa only [VRel] using r
 | .str _, _, _, r => by simpa only [VRel] using r
 | .nilp, _, _, r => by simpa only [VRel] using r
 | .nils, _, _, r => by simpa only [VRel] using r
 | .nilm, _, _, r => by simpa only [VRel] using r
 | .nilf, _, _, r => by simpa only [VRel] using r
 | .nili, _, _, r => by simpa only [VRel] using r
 | .ptr .., _, h, _ => by simp only [V.flat] at h; cases h
 | .sl .., _, h, _ => by simp only [V.flat] at h; cases h
 | .map .., _, h, _ => by simp only [V.flat] at h; cases h
 | .yld .., _, h, _ => by simp only [V.flat] at h; cases h
 | .it .., _, h, _ => by simp only [V.flat] at h; cases h
 | .any, _, h, _ => by simp only [V.flat] at h; cases h
 | .slz _, _, h, _ => by simp only [V.flat] at h; cases h
 | .fn .., _, h, _ => by simp only [V.flat] at h; cases h
 | .iface t v, _, h, r => by
  simp only [V.flat] at h; simp only [VRel] at r ⊢; obtain ⟨X, h1, h2⟩ := r; exact ⟨X, h1, VRel.flat v _ h h2⟩
 | .agg l, _, h, r => by
  simp only [V.flat] at h; simp only [VRel] at r ⊢; obtain ⟨X, h1, h2⟩ := r; exact ⟨X, h1, LRel.flat l _ h h2⟩
 | .tup l, _, h, r => by
  simp only [V.flat] at h; simp only [VRel] at r ⊢; obtain ⟨X, h1, h2⟩ := r; exact ⟨X, h1, LRel.flat l _ h h2⟩
theorem LRel.flat {ρ ρ' : Env} : ∀ (l : List V) (W : List Value), flatL l = true → LRel ρ l W → LRel ρ' l W
 | [], _, _, r => by simpa only [LRel] using r
 | v :: l, _, h, r => by
  simp only [flatL, Bool.and_eq_true] at h
  simp only [LRel] at r ⊢; obtain ⟨X, Y, h1, h2, h3⟩ := r; exact ⟨X, Y, h1, VRel.flat v _ h.1 h2, LRel.flat l _ h.2 h3⟩
end

theorem SRel.grow {base : Nat} {ρ : Env} {s : St} {w w' : World} (h : SRel base ρ s w) (hb : Below w.heap.size w w') : SRel base ρ s w' where
 le := Nat.le_trans h.le hb.size
 obj := fun b o x hg hx => by
  obtain ⟨h2, h3⟩ := h.obj b o x hg hx
  refine ⟨h2, ?_⟩
  rw [hb.block _ (h.lt hg hx)]
  exact h3
 inj := h.inj
 dom := h.dom
 top := h.top

def isTrue : Option (EEnd × St) → Bool
 | some (.ret (.bool b), _) => b
 | _ => false
theorem calls_true {P : Program} {known : ESelf} (hk : SelfOK P known) {fuel d : Nat} {g : FuncId} (h : isTrue (callE P known fuel d (.fn g []) st0) = true) (w : World) :
  Calls P g #[] w fun E w' => E = .returned (.bool true) ∧ Below w.heap.size w w' := by
 cases hr : callE P known fuel d (.fn g []) st0 with
 | none => rw [hr] at h; cases h
 | some r =>
  obtain ⟨e, s'⟩ := r
  rw [hr] at h
  cases e with
  | pan v => cases h
  | ret v =>
   cases v with
   | bool b =>
    have hb : b = true := h
    subst hb
    refine (calls_of_eval hk hr w (A := #[]) rfl).mono ?_
    rintro E w' ⟨ρ, X, rfl, h1, _, h3⟩
    have h1 : X = .bool true := by simpa only [VRel] using h1
    exact ⟨by rw [h1], h3⟩
   | _ => cases h
end Go.Eng
end

section
namespace Go.Proofs.Ytaloolcabmfjbaa
open Go.Eng
open Go.RowKit (Below)

def knownNone25 : ESelf := fun _ _ => none
theorem knownNone25_ok : SelfOK Try.prog knownNone25 := none_ok
theorem works25_run : isTrue (callE Try.prog knownNone25 3000 40 (.fn 15 []) st0) = true := by kernel_rfl
theorem works25_calls (w : World) : Calls Try.prog 15 #[] w fun E w' => E = .returned (.bool true) ∧ Below w.heap.size w w' :=
 calls_true knownNone25_ok works25_run w
theorem works25_at : Go.Sym.PureAt Try.prog 15 [] (.bool true) :=
 Go.Sym.pure_of_calls (A := #[]) (X := .bool true) (fun φ Y h => h) (fun φ => rfl) works25_calls
noncomputable def true25F (args : List Go.Sym.V) : Option (List Bool × Go.Sym.V) := match args with
 | [] => some ([], .bool true)
 | _ => none
theorem true25F_ok (args : List Go.Sym.V) (c : List Bool) (v : Go.Sym.V) (h : true25F args = some (c, v)) (_ : Go.Sym.allB c) : Go.Sym.PureAt Try.prog 15 args v := by
 unfold true25F at h
 split at h
 ·cases h; exact works25_at
 ·cases h
end Go.Proofs.Ytaloolcabmfjbaa
end

section
namespace Go.Proofs.Ytaloolcabmfjbaa
open Go.Sym
set_option linter.unusedVariables false
set_option linter.unusedSimpArgs false
set_option maxRecDepth 100000
set_option maxHeartbeats 4000000
noncomputable def reU : ReQ → ReQ := hide fun r => (cuZ kvU 10 r.1, r.2.1, r.2.2.1, r.2.2.2.1, cuZ kvU 10 r.2.2.2.2)
theorem reU_eq (r : ReQ) : reU r = (cuZ kvU 10 r.1, r.2.1, r.2.2.1, r.2.2.2.1, cuZ kvU 10 r.2.2.2.2) := by unfold reU; rw [hide_eq]
def u6L (L : List KvQ) : Prop := L.length ≤ 9223372036854775807 ∧ ∀ i, i < L.length → u6K (Sym.rowAt kvT L i)
theorem reU_W (L : List ReQ) (h : ∀ i, i < L.length → u6L (Sym.rowAt reT L i).1 ∧ u6L (Sym.rowAt reT L i).2.2.2.2) : reW (cuZ reU 8 L) = true := by
 rw [reW_iff]
 have hl := cuZ_len reU 8 L
 refine ⟨by omega, fun i hi => ?_⟩
 rw [cuZ_row reU 8 L i hi, reU_eq]
 have := h i (by omega)
 exact ⟨kvU_W _ this.1.2, kvU_W _ this.2.2⟩
noncomputable def kvxF (args : List V) : Option (List Bool × V) := match args with
 | [l] => (match ofLst kvT l with
   | some L => some ([decide (L.length ≤ 9223372036854775807)], .lst kvT (cuZ kvU 10 L) false)
   | none => none)
 | _ => none
theorem kvxF_ok (args : List V) (c : List Bool) (v : V) (h : kvxF args = some (c, v)) (hc : allB c) : PureAt Try.prog 46 args v := by
 unfold kvxF at h
 split at h
 ·split at h
  ·rename_i l q L hl
   cases h
   exact PureAt.lst0 (kvx_at L (of_decide_eq_true hc.1)) hl
  ·cases h
 ·cases h
noncomputable def tabK : Tab := oneTab 46 kvxF noTab
theorem tabK_ok : TabOK Try.prog tabK := oneTab_ok kvxF_ok noTab_ok
section
variable (er rv cm ha ap te ld : Int) (tk : Bool) (R : List ReQ)
noncomputable def crC (i : Nat) : CD := ⟨37, [(1, .ptr 0 0), (2, .ptr 1 0), (3, .rs 2 0 (cuA reU R i).length (cuA reU R i).length false 5), (4, .int .i64 (i : Int))], [], [(0, .cells [.int .i64 er, .int .u64 rv, .int .u64 cm, .bool tk, .lst reT R false, .int .u32 ha, .int .u64 ap, .int .u64 te, .int .i64 ld] 0 false), (1, .cells [.any, .any, .any, .any, .any, .any, .any, .any, .any] 0 false), (2, .rows reT (cuA reU R i) 0 false)], 3⟩
theorem cr_lp (N : Nat) (hl : R.length ≤ 9223372036854775807) (hu : ∀ i, i < R.length → u6L (Sym.rowAt reT R i).1 ∧ u6L (Sym.rowAt reT R i).2.2.2.2) : LpD.ok Try.prog N 0 (bodyOf Try.prog 16) ⟨3, [(0, 0), (1, 1)], crC er rv cm ha ap te ld tk R 0, .leaf (.exit 0) (crC er rv cm ha ap te ld tk R (min R.length 8))⟩ := by
 refine LpD.ok_one (b := bodyAt Try.prog 16 3) rfl (loop_W tabK_ok (fuel := 4) (d := 5) (X := { i : Nat // i ≤ min R.length 8 }) (fun x => crC er rv cm ha ap te ld tk R x.1) (fun x => min R.length 8 - x.1)
   (fun _ => .leaf (.exit 0) (crC er rv cm ha ap te ld tk R (min R.length 8))) (fun _ => noLpW) (fun _ => noLp) (fun _ => noLp_ad) (fun _ => noLp_ok _) ?_ ⟨0, Nat.zero_le _⟩)
 rintro ⟨i, hi⟩
 dsimp only
 have hz := cuA_len reU R i
 rcases Nat.lt_or_ge i (min R.length 8) with hlt | hge
 ·have es : cuA reU R (i + 1) = cuA reU R i ++ [reU (Sym.rowAt reT R (Int.toNat (i : Int)))] := cuA_succ reU R i
  rw [reU_eq] at es
  have hui := hu i (by omega)
  have l1 : List.length (α := KvQ) (Sym.rowAt reT R (Int.toNat (i : Int))).1 ≤ 9223372036854775807 := hui.1.1
  have l2 : List.length (α := KvQ) (Sym.rowAt reT R (Int.toNat (i : Int))).2.2.2.2 ≤ 9223372036854775807 := hui.2.1
  repeat' ((conv => whnf); first | (with_reducible first | (refine W1.o ?_; constructor) | rfl | exact castL_self _ _) | ((with_reducible refine V.same_t ?_); exact rfl) | ((with_reducible refine andB_room ?_ ?_ ?_); (· kernel_rfl); (· (first | omega | (simp only [lens] <;> omega)))) | ((with_reducible refine W2.o ?_; constructor); · (first | (with_reducible assumption) | (first | omega | (simp only [lens] <;> omega)))) | ((with_reducible refine W3.o ?_; constructor); · (first | (with_reducible assumption) | (first | omega | (simp only [lens] <;> omega)))) | ((with_reducible refine W4.o ?_; constructor); · (first | (with_reducible first | assumption | exact decide_eq_true rfl | exact sEq_self _) | ((with_reducible refine eqOK_i ?_); kernel_rfl))) | ((with_reducible refine iteB_f ?_ ?_); · (first | (with_reducible first | assumption | exact decide_eq_true rfl | exact sEq_self _) | ((with_reducible refine eqOK_i ?_); kernel_rfl))) | (refine ⟨⟨i + 1, hlt⟩, ?_, rfl, ?_⟩) | (with_reducible refine CD.wk_au ?_) | (with_reducible refine W5.o ?_; constructor) | ((with_reducible refine W6.o ?_; constructor) <;> intro hB))
  all_goals ((conv => whnf); (try dsimp only); (try simp only [Nat.succ_eq_add_one, Nat.le_eq, castL_self]); (try omega))
  all_goals (try (first | omega | (simp only [lens] <;> omega)))
  all_goals first
   | exact rfl
   | omega
   | exact l1
   | exact l2
   | (rw [es]; done)
   | (simp only [es, hz, lens] <;> omega)
   | (simp (disch := (simp only [hz, lens] <;> omega)) only [seg_all, castL_self]; rw [es]; done)
   | (simp (disch := (simp only [hz, lens] <;> omega)) only [seg_all, castL_self]; rw [es]; exact rfl)
   | trace_state
 ·have he : i = min R.length 8 := Nat.le_antisymm hi hge
  subst he
  repeat' ((conv => whnf); first | (with_reducible first | (refine W1.o ?_; constructor) | rfl | exact castL_self _ _) | ((with_reducible refine V.same_t ?_); exact rfl) | ((with_reducible refine andB_room ?_ ?_ ?_); (· kernel_rfl); (· (first | omega | (simp only [lens] <;> omega)))) | ((with_reducible refine W2.o ?_; constructor); · (first | (with_reducible assumption) | (first | omega | (simp only [lens] <;> omega)))) | ((with_reducible refine W3.o ?_; constructor); · (first | (with_reducible assumption) | (first | omega | (simp only [lens] <;> omega)))) | ((with_reducible refine W4.o ?_; constructor); · (first | (with_reducible first | assumption | exact decide_eq_true rfl | exact sEq_self _) | ((with_reducible refine eqOK_i ?_); kernel_rfl))) | ((with_reducible refine iteB_f ?_ ?_); · (first | (with_reducible first | assumption | exact decide_eq_true rfl | exact sEq_self _) | ((with_reducible refine eqOK_i ?_); kernel_rfl))) | (with_reducible refine CD.wk_au ?_) | (with_reducible refine W5.o ?_; constructor) | ((with_reducible refine W6.o ?_; constructor) <;> intro hB))
  all_goals ((conv => whnf); (try dsimp only); (try simp only [Nat.succ_eq_add_one, Nat.le_eq, castL_self]); (try omega))
  all_goals (try (first | omega | (simp only [lens] <;> omega)))
  all_goals first
   | exact rfl
   | trace_state
theorem cutResp_at (lR : R.length ≤ 9223372036854775807) (hu : ∀ i, i < R.length → u6L (Sym.rowAt reT R i).1 ∧ u6L (Sym.rowAt reT R i).2.2.2.2) : PureAt Try.prog 16 [(.agg [.int .i64 er, .int .u64 rv, .int .u64 cm, .bool tk, .lst reT R false, .int .u32 ha, .int .u64 ap, .int .u64 te, .int .i64 ld])] (.agg [.int .i64 er, .int .u64 rv, .int .u64 cm, .bool tk, .lst reT (cuZ reU 8 R) false, .int .u32 ha, .int .u64 ap, .int .u64 te, .int .i64 ld]) := by
 have q0 := cuA_0 reU R
 have eZ := cuZ_eq reU 8 R
 refine pure_of_loops tabK_ok (fuel := 4) (d := 5) [⟨3, [(0, 0), (1, 1)], crC er rv cm ha ap te ld tk R 0, .leaf (.exit 0) (crC er rv cm ha ap te ld tk R (min R.length 8))⟩] (fun N y hy => by rw [List.mem_singleton.1 hy]; exact cr_lp er rv cm ha ap te ld tk R N lR hu) ?_
 repeat' ((conv => whnf); first | (with_reducible first | (refine W1.o ?_; constructor) | rfl | exact castL_self _ _) | ((with_reducible refine V.same_t ?_); exact rfl) | ((with_reducible refine andB_room ?_ ?_ ?_); (· kernel_rfl); (· (first | omega | (simp only [lens] <;> omega)))) | ((with_reducible refine W2.o ?_; constructor); · (first | (with_reducible assumption) | (first | omega | (simp only [lens] <;> omega)))) | ((with_reducible refine W3.o ?_; constructor); · (first | (with_reducible assumption) | (first | omega | (simp only [lens] <;> omega)))) | ((with_reducible refine W4.o ?_; constructor); · (first | (with_reducible first | assumption | exact decide_eq_true rfl | exact sEq_self _) | ((with_reducible refine eqOK_i ?_); kernel_rfl))) | ((with_reducible refine iteB_f ?_ ?_); · (first | (with_reducible first | assumption | exact decide_eq_true rfl | exact sEq_self _) | ((with_reducible refine eqOK_i ?_); kernel_rfl))) | (with_reducible refine CD.wk_au ?_) | (with_reducible refine W5.o ?_; constructor) | ((with_reducible refine W6.o ?_; constructor) <;> intro hB))
 all_goals ((conv => whnf); (try dsimp only); (try simp only [Nat.succ_eq_add_one, Nat.le_eq, castL_self]); (try omega))
 all_goals (try (first | omega | (simp only [lens] <;> omega)))
 all_goals first
  | exact rfl
  | exact q0.symm
  | (rw [q0]; exact rfl)
  | (rw [seg_all _ rfl]; exact eZ.symm)
  | (rw [seg_all _ rfl, ← eZ]; done)
  | (rw [seg_all _ rfl, ← eZ]; exact rfl)
  | trace_state
end
open Classical in
noncomputable def reUB : List ReQ → Bool := hide fun R => decide (R.length ≤ 9223372036854775807 ∧ ∀ i, i < R.length → u6L (Sym.rowAt reT R i).1 ∧ u6L (Sym.rowAt reT R i).2.2.2.2)
open Classical in
theorem reUB_iff (R : List ReQ) : reUB R = true ↔ (R.length ≤ 9223372036854775807 ∧ ∀ i, i < R.length → u6L (Sym.rowAt reT R i).1 ∧ u6L (Sym.rowAt reT R i).2.2.2.2) := by unfold reUB; rw [hide_eq]; exact ⟨fun h => of_decide_eq_true h, fun h => decide_eq_true h⟩
noncomputable def crF : RpF := fun er rv cm tk R ha ap te ld => ([reUB R], .agg [.int .i64 er, .int .u64 rv, .int .u64 cm, .bool tk, .lst reT (cuZ reU 8 R) false, .int .u32 ha, .int .u64 ap, .int .u64 te, .int .i64 ld])
noncomputable def erF : RpF := fun er rv cm tk R ha ap te ld => ([reW R, leI 0 rv, ltI rv 18446744073709551616, leI 0 cm, ltI cm 18446744073709551616, leI 0 ha, ltI ha 4294967296, leI 0 ap, ltI ap 18446744073709551616, leI 0 te, ltI te 18446744073709551616], .tup [.str (rpE er rv cm tk R ha ap te ld), .int .i64 (maE er ld R)])
noncomputable def tabTel : Tab := oneTab 16 (rpF crF) (oneTab 17 (rpF erF) (oneTab 18 (rpF erF) (oneTab 15 true25F noTab)))
theorem tabTel_ok : TabOK Try.prog tabTel :=
 oneTab_ok (rpF_ok fun er rv cm tk R ha ap te ld h => cutResp_at er rv cm ha ap te ld tk R ((reUB_iff R).1 h.1).1 ((reUB_iff R).1 h.1).2)
 (oneTab_ok (rpF_ok fun er rv cm tk R ha ap te ld h => by
   obtain ⟨c0, a1, b1, a2, b2, a3, b3, a4, b4, a5, b5, _⟩ := h
   exact encResp_at er rv cm ha ap te ld tk R c0 ⟨of_leI a1, of_ltI b1⟩ ⟨of_leI a2, of_ltI b2⟩ ⟨of_leI a3, of_ltI b3⟩ ⟨of_leI a4, of_ltI b4⟩ ⟨of_leI a5, of_ltI b5⟩)
 (oneTab_ok (rpF_ok fun er rv cm tk R ha ap te ld h => by
   obtain ⟨c0, a1, b1, a2, b2, a3, b3, a4, b4, a5, b5, _⟩ := h
   exact rencResp_at er rv cm ha ap te ld tk R c0 ⟨of_leI a1, of_ltI b1⟩ ⟨of_leI a2, of_ltI b2⟩ ⟨of_leI a3, of_ltI b3⟩ ⟨of_leI a4, of_ltI b4⟩ ⟨of_leI a5, of_ltI b5⟩)
 (oneTab_ok true25F_ok noTab_ok)))
theorem codecTells_at (er rv cm ha ap te ld : Int) (tk : Bool) (R : List ReQ) (h1 : 0 ≤ rv ∧ rv < 18446744073709551616) (h2 : 0 ≤ cm ∧ cm < 18446744073709551616) (h3 : 0 ≤ ha ∧ ha < 4294967296) (h4 : 0 ≤ ap ∧ ap < 18446744073709551616) (h5 : 0 ≤ te ∧ te < 18446744073709551616) (hR : reUB R = true) :
  PureAt Try.prog 4 [.agg [.int .i64 er, .int .u64 rv, .int .u64 cm, .bool tk, .lst reT R false, .int .u32 ha, .int .u64 ap, .int .u64 te, .int .i64 ld]] (.bool true) := by
 have wR := reU_W R ((reUB_iff R).1 hR).2
 refine pure_of_W0 (tab := tabTel) (fuel := 4) (d := 5) tabTel_ok ?_
 repeat' ((conv => whnf); first | (with_reducible first | (refine W1.o ?_; constructor) | rfl | exact castL_self _ _) | ((with_reducible refine V.same_t ?_); exact rfl) | ((with_reducible refine andB_room ?_ ?_ ?_); (· kernel_rfl); (· (first | omega | (simp only [lens] <;> omega)))) | ((with_reducible refine W2.o ?_; constructor); · (first | (with_reducible assumption) | (first | omega | (simp only [lens] <;> omega)))) | ((with_reducible refine W3.o ?_; constructor); · (first | (with_reducible assumption) | (first | omega | (simp only [lens] <;> omega)))) | ((with_reducible refine W4.o ?_; constructor); · (first | (with_reducible first | assumption | exact decide_eq_true rfl | exact sEq_self _) | ((with_reducible refine eqOK_i ?_); kernel_rfl) | (first | (first | exact hR | exact wR | exact beq_self_eq_true _)))) | ((with_reducible refine iteB_f ?_ ?_); · (first | (with_reducible first | assumption | exact decide_eq_true rfl | exact sEq_self _) | ((with_reducible refine eqOK_i ?_); kernel_rfl) | (first | (first | exact hR | exact wR | exact beq_self_eq_true _)))) | (with_reducible refine W5.o ?_; constructor) | ((with_reducible refine W6.o ?_; constructor) <;> intro hB))
 all_goals ((conv => whnf); (try dsimp only); (try simp only [Nat.succ_eq_add_one, Nat.le_eq, castL_self]); (try omega))
 all_goals (try (first | omega | (simp only [lens] <;> omega)))
 all_goals first
  | exact rfl
  | trace_state
end Go.Proofs.Ytaloolcabmfjbaa
end

section
namespace Go.Sym
open Go.ChangeShapes Go.WideShapes

def kLo : IntKind → Int
 | .i8 => -128
 | .i16 => -32768
 | .i32 => -2147483648
 | .i64 => -9223372036854775808
 | _ => 0
def kHi : IntKind → Int
 | .i8 => 128
 | .i16 => 32768
 | .i32 => 2147483648
 | .i64 => 9223372036854775808
 | .u8 => 256
 | .u16 => 65536
 | .u32 => 4294967296
 | .u64 => 18446744073709551616
mutual
def wfT : (t : Ty) → t.den → Prop
 | .int k, n => (fun n : Int => kLo k ≤ n ∧ n < kHi k) n
 | .bool, _ => True
 | .str, s => ByteArray.size s ≤ 9223372036854775807
 | .lst e, L => List.length (α := rowDen e) L ≤ 9223372036854775807 ∧ ∀ i, i < List.length (α := rowDen e) L → wfR e (rowAt e L i)
def wfR : (e : List Ty) → rowDen e → Prop
 | [], _ => True
 | [t], x => wfT t x
 | t :: u :: ts, x => wfT t x.1 ∧ wfR (u :: ts) x.2
end
def repT (r : List Ty) : Nat → List Ty
 | 0 => []
 | n + 1 => r ++ repT r n
noncomputable section
variable (P : Program)
def layF (f : TypeId → Option (List Ty)) : Nat → List Field → Option (List Ty)
 | _, [] => some []
 | off, fd :: l => match f fd.type with
  | some a => bif Nat.beq fd.offset off && Nat.beq (P.cellsOf fd.type) a.length then (match layF f (off + a.length) l with
    | some b => some (a ++ b)
    | none => none) else none
  | none => none
def layE : Nat → TypeId → Option (List Ty)
 | 0, _ => none
 | n + 1, t => match P.underlying t with
  | some (.int k) => some [.int k]
  | some .bool => some [.bool]
  | some .string => some [.str]
  | some (.slice e) => match layE n e with
   | some r => bif Nat.beq (P.cellsOf e) r.length && Nat.blt 0 r.length then some [.lst r] else none
   | none => none
  | some (.struct fs) => match layF P (layE n) 0 fs.toList with
   | some e => bif Nat.beq (P.cellsOf t) e.length then some e else none
   | none => none
  | some (.array m el) => match layE n el with
   | some r => bif Nat.beq (P.cellsOf el) r.length && Nat.beq (P.cellsOf t) (repT r m).length then some (repT r m) else none
   | none => none
  | _ => none
end

theorem addr_addN (b o j : Nat) : (⟨b, o, none⟩ : Addr).add j = ⟨b, o + j, none⟩ := by
 unfold Addr.add
 split
 ·rename_i h; subst h; rfl
 ·rfl
theorem wfR_nil (x : rowDen []) : wfR [] x := by rw [wfR]; trivial
theorem wfR_one {t : Ty} (x : rowDen [t]) (h : wfT t x) : wfR [t] x := by rw [wfR]; exact h
theorem wfR_cons {t u : Ty} {ts : List Ty} (x : rowDen (t :: u :: ts)) (h1 : wfT t x.1) (h2 : wfR (u :: ts) x.2) : wfR (t :: u :: ts) x := by rw [wfR]; exact ⟨h1, h2⟩
theorem of_wfR_one {t : Ty} (x : rowDen [t]) (h : wfR [t] x) : wfT t x := by rw [wfR] at h; exact h
theorem of_CRel_one {φ : Nat → Nat → Option Value} {t : Ty} (x : rowDen [t]) {C : Nat → Option Value} (h : CRel φ [t] x C) : ∃ X, C 0 = some X ∧ TRel φ t x X := by rw [CRel] at h; exact h
theorem wfT_int {k : IntKind} {n : (Ty.int k).den} (h : (fun n : Int => kLo k ≤ n ∧ n < kHi k) n) : wfT (.int k) n := by rw [wfT]; exact h
theorem wfT_bool (b : Ty.bool.den) : wfT .bool b := by rw [wfT]; trivial
theorem wfT_str {s : Ty.str.den} (h : ByteArray.size s ≤ 9223372036854775807) : wfT .str s := by rw [wfT]; exact h
theorem wfT_lst {e : List Ty} (L : (Ty.lst e).den) (h : List.length (α := rowDen e) L ≤ 9223372036854775807) (h2 : ∀ i, i < List.length (α := rowDen e) L → wfR e (rowAt e L i)) : wfT (.lst e) L := by rw [wfT]; exact ⟨h, h2⟩
theorem crel_app {φ : Nat → Nat → Option Value} : ∀ (e1 e2 : List Ty) (C : Nat → Option Value), (∃ x, wfR e1 x ∧ CRel φ e1 x C) → (∃ x, wfR e2 x ∧ CRel φ e2 x (fun j => C (e1.length + j))) → ∃ x, wfR (e1 ++ e2) x ∧ CRel φ (e1 ++ e2) x C
 | [], e2, C, _, h2 => by
  obtain ⟨x, h3, h4⟩ := h2
  refine ⟨x, h3, ?_⟩
  have : (fun j => C (([] : List Ty).length + j)) = C := by funext j; rw [List.length_nil, Nat.zero_add]
  rw [this] at h4
  exact h4
 | [t], [], C, h1, _ => h1
 | [t], u :: us, C, ⟨x, h3, h4⟩, ⟨y, h5, h6⟩ => by
  have : (fun j => C ([t].length + j)) = fun j => C (j + 1) := by funext j; rw [List.length_singleton, Nat.add_comm]
  rw [this] at h6
  exact ⟨(x, y), wfR_cons (t := t) (u := u) (ts := us) (x, y) (of_wfR_one x h3) h5, CRel_cons (t := t) (u := u) (ts := us) (x, y) (of_CRel_one x h4) h6⟩
 | t :: u :: us, e2, C, ⟨x, h3, h4⟩, h2 => by
  rw [wfR] at h3
  rw [CRel] at h4
  obtain ⟨y, h5, h6⟩ := crel_app (u :: us) e2 (fun j => C (j + 1)) ⟨x.2, h3.2, h4.2⟩ (by
    obtain ⟨z, h7, h8⟩ := h2
    refine ⟨z, h7, ?_⟩
    have : (fun j => C ((t :: u :: us).length + j)) = fun j => C ((u :: us).length + j + 1) := by funext j; congr 1; simp only [List.length_cons]; omega
    rw [this] at h8
    exact h8)
  exact ⟨(x.1, y), wfR_cons (t := t) (u := u) (ts := us ++ e2) (x.1, y) h3.1 h5, CRel_cons (t := t) (u := u) (ts := us ++ e2) (x.1, y) h4.1 h6⟩

section
variable {H : Type} {enc : TypeId × Value → H} {P : Program} {w : World} {base : Nat} {spare : Nat → Bool} {held : Bool}
abbrev φW (w : World) : Nat → Nat → Option Value := fun B k => w.cell? ⟨B, k, none⟩
def LayOK (enc : TypeId × Value → H) (P : Program) (w : World) (base : Nat) (spare : Nat → Bool) (held : Bool) (f : TypeId → Option (List Ty)) : Prop :=
 ∀ t e, f t = some e → ∀ fuel cs x, DataW.trod enc P w base spare held fuel t cs = some x → cs.length = e.length ∧ ∃ r, wfR e r ∧ CRel (φW w) e r (fun j => cs[j]?)
theorem layF_ok {f : TypeId → Option (List Ty)} (hf : LayOK enc P w base spare held f) {n : Nat} {cs : List Value} : ∀ (l : List Field) (off : Nat) (e : List Ty), layF P f off l = some e → off + e.length ≤ cs.length →
  (∀ (i : Nat) (fd : Field), l[i]? = some fd → ∃ y, DataW.trod enc P w base spare held n fd.type ((cs.drop fd.offset).take (P.cellsOf fd.type)) = some y) →
  ∃ r, wfR e r ∧ CRel (φW w) e r (fun j => cs[off + j]?)
 | [], off, e, h, _, _ => by
  cases h
  exact ⟨(), wfR_nil (), CRel_nil () _⟩
 | fd :: l, off, e, h, hle, ht => by
  rw [layF] at h
  split at h
  ·rename_i a ha
   cases hb : (Nat.beq fd.offset off && Nat.beq (P.cellsOf fd.type) a.length) with
   | false => rw [hb] at h; cases h
   | true =>
    rw [hb, cond_true] at h
    rw [Bool.and_eq_true, Nat.beq_eq, Nat.beq_eq] at hb
    split at h
    ·rename_i b hbb
     cases h
     rw [List.length_append] at hle
     obtain ⟨y, hy⟩ := ht 0 fd rfl
     obtain ⟨h1, r, h2, h3⟩ := hf _ _ ha _ _ _ hy
     refine crel_app a b _ ⟨r, h2, ?_⟩ ?_
     ·refine CRel.mono (fun _ _ _ h => h) a r (fun j v hj => ?_) h3
      rw [List.getElem?_take] at hj
      split at hj
      ·rw [List.getElem?_drop, hb.1] at hj; exact hj
      ·cases hj
     ·obtain ⟨r', h4, h5⟩ := layF_ok hf l (off + a.length) b hbb (by omega) fun i fd' hi => ht (i + 1) fd' (by simpa using hi)
      exact ⟨r', h4, CRel.mono (fun _ _ _ h => h) b r' (fun j v hj => by rw [← Nat.add_assoc]; exact hj) h5⟩
    ·cases h
  ·cases h
theorem layA_ok {f : TypeId → Option (List Ty)} (hf : LayOK enc P w base spare held f) {m : Nat} {cs : List Value} {el : TypeId} {r : List Ty} (hr : f el = some r) (hb : P.cellsOf el = r.length) : ∀ (n off : Nat), off + (repT r n).length ≤ cs.length →
  (∀ i, i < n → ∃ y, DataW.trod enc P w base spare held m el ((cs.drop (off + i * r.length)).take r.length) = some y) →
  ∃ x, wfR (repT r n) x ∧ CRel (φW w) (repT r n) x (fun j => cs[off + j]?)
 | 0, off, _, _ => ⟨(), wfR_nil (), CRel_nil () _⟩
 | n + 1, off, hle, ht => by
  have hle' : off + (r.length + (repT r n).length) ≤ cs.length := by rw [repT, List.length_append] at hle; exact hle
  obtain ⟨y, hy⟩ := ht 0 (Nat.zero_lt_succ _)
  rw [Nat.zero_mul, Nat.add_zero] at hy
  obtain ⟨h1, x, h2, h3⟩ := hf _ _ hr _ _ _ hy
  refine crel_app r (repT r n) _ ⟨x, h2, ?_⟩ ?_
  ·refine CRel.mono (fun _ _ _ h => h) r x (fun j v hj => ?_) h3
   rw [List.getElem?_take] at hj
   split at hj
   ·rw [List.getElem?_drop] at hj; exact hj
   ·cases hj
  ·obtain ⟨x', h4, h5⟩ := layA_ok (cs := cs) (m := m) hf hr hb n (off + r.length) (by rw [Nat.add_assoc]; exact hle') fun i hi => by
    obtain ⟨y, hy⟩ := ht (i + 1) (by omega)
    rw [Nat.succ_mul, Nat.add_comm (i * r.length), ← Nat.add_assoc] at hy
    exact ⟨y, hy⟩
   exact ⟨x', h4, CRel.mono (fun _ _ _ h => h) _ x' (fun j v hj => by rw [← Nat.add_assoc]; exact hj) h5⟩
theorem lay_ok : ∀ n : Nat, LayOK enc P w base spare held (layE P n)
 | 0 => fun t e h => by cases h
 | n + 1 => fun t e h fuel cs x hx => by
  have ih := lay_ok n
  rw [layE] at h
  split at h
  ·rename_i k hu
   cases h
   obtain ⟨q, rfl, _, hw⟩ := DataW.trod_int hu hx
   refine ⟨rfl, q, wfR_one (t := .int k) q (wfT_int ?_), CRel_one (t := .int k) q rfl (TRel_int k q)⟩
   cases k <;> simp [Lit.wf, IntKind.min, IntKind.max, IntKind.signed, IntKind.bits, kLo, kHi] at hw ⊢ <;> omega
  ·rename_i hu
   cases h
   obtain ⟨q, rfl, _⟩ := DataW.trod_bool hu hx
   exact ⟨rfl, q, wfR_one (t := .bool) q (wfT_bool q), CRel_one (t := .bool) q rfl (TRel_bool q)⟩
  ·rename_i hu
   cases h
   obtain ⟨q, rfl, _, hw⟩ := DataW.trod_string hu hx
   unfold maxLen at hw
   exact ⟨rfl, q, wfR_one (t := .str) q (wfT_str (by omega)), CRel_one (t := .str) q rfl (TRel_str q)⟩
  ·rename_i el hu
   split at h
   ·rename_i r hr
    cases hb : (Nat.beq (P.cellsOf el) r.length && Nat.blt 0 r.length) with
    | false => rw [hb] at h; cases h
    | true =>
     rw [hb, cond_true] at h
     rw [Bool.and_eq_true, Nat.beq_eq, blt_iff, decide_eq_true_eq] at hb
     obtain ⟨hb, hz⟩ := hb
     cases h
     rcases Go.Deep.open_slice hu hx with ⟨rfl, _⟩ | ⟨a, len, cap, m, n', D, Pl, rfl, _, hl, hm, hmm, rfl, hc⟩
     ·exact ⟨rfl, ([] : List (rowDen r)), wfR_one (t := .lst r) ([] : List (rowDen r)) (wfT_lst (e := r) ([] : List (rowDen r)) (Nat.zero_le _) fun i hi => absurd hi (Nat.not_lt_zero _)),
        CRel_one (t := .lst r) ([] : List (rowDen r)) rfl (TRel_lstU (e := r) ([] : List (rowDen r)) (Nat.le_refl _) (fun _ => rfl) fun h => absurd h (Nat.lt_irrefl _))⟩
     ·have hlm : len ≤ m := by subst hmm; split <;> omega
      have hr1 : ∀ i, i < len → ∃ y, wfR r y ∧ CRel (φW w) r y (fun j => w.cell? (a.add (i * r.length + j))) ∧ (i = 0 → a.spot = none) := by
       intro i hi
       obtain ⟨cs', h1, h2⟩ := hc i (by omega)
       obtain ⟨h3, y, h4, h5⟩ := ih _ _ hr _ _ _ h2
       obtain ⟨_, h6, h7⟩ := World.cells?_some h1
       refine ⟨y, h4, CRel.mono (fun _ _ _ h => h) r y (fun j v hj => ?_) h5, fun h0 => ?_⟩
       ·have hlt : j < cs'.length := (List.getElem?_eq_some_iff.1 hj).1
        have := h7 j (by omega)
        rw [hb, Go.Deep.add_add] at this
        rw [this]; exact hj
       ·subst h0
        have := h7 0 (by omega)
        rw [List.getElem?_eq_getElem (by omega), Nat.zero_mul] at this
        exact World.cell?_spot this
      have : Inhabited (rowDen r) := ⟨rowDflt r⟩
      obtain ⟨g, hg⟩ := Go.Deep.choose_lt hr1
      have hat : ∀ i, i < len → rowAt r ((List.range len).map g) i = g i := fun i hi => by
       unfold rowAt
       simp [List.getD_eq_getElem?_getD, hi]
      have hlen : ((List.range len).map g).length = len := by simp
      refine ⟨rfl, (List.range len).map g, wfR_one (t := .lst r) _ (wfT_lst _ ?_ fun i hi => ?_), CRel_one (t := .lst r) _ (X := .slice (some a) len cap) rfl ?_⟩
      ·rw [hlen]; unfold maxLen at hm; omega
      ·rw [hlen] at hi
       rw [hat i hi]
       exact (hg i hi).1
      ·have ht := TRel_lstU (e := r) (φ := φW w) ((List.range len).map g) (a := some a) (c := cap) (by rw [hlen]; exact hl) (fun h => (by cases h)) (fun h0 => ?_)
       ·rw [hlen] at ht; exact ht
       rw [hlen] at h0 ⊢
       have hsp := (hg 0 h0).2.2 rfl
       refine ⟨a.block, a.off, by cases a; simp only at hsp; rw [hsp], fun i hi => ?_⟩
       rw [hat i hi]
       refine CRel.mono (fun _ _ _ h => h) r _ (fun j v hj => ?_) (hg i hi).2.1
       have e : a = ⟨a.block, a.off, none⟩ := by cases a; simp only at hsp; rw [hsp]
       rw [e, addr_addN] at hj
       rw [Nat.add_assoc]
       exact hj
   ·cases h
  ·rename_i fs hu
   split at h
   ·rename_i e' he
    cases hb : Nat.beq (P.cellsOf t) e'.length with
    | false => rw [hb] at h; cases h
    | true =>
     rw [hb, cond_true] at h
     cases h
     have hb := Nat.eq_of_beq_eq_true hb
     obtain ⟨xs, m, _, _, hl, hlen, hf⟩ := DataW.trod_struct hu hx
     refine ⟨by omega, ?_⟩
     obtain ⟨r, h1, h2⟩ := layF_ok ih (n := m) (cs := cs) fs.toList 0 e he (by omega) fun i fd hi => by
      have hi : fs[i]? = some fd := by simpa using hi
      exact ⟨_, (hf i fd hi).trans (List.getElem?_eq_getElem (by have := (Array.getElem?_eq_some_iff.1 hi).1; omega))⟩
     exact ⟨r, h1, CRel.mono (fun _ _ _ h => h) e r (fun j v hj => by rwa [Nat.zero_add] at hj) h2⟩
   ·cases h
  ·rename_i m el hu
   split at h
   ·rename_i r hr
    cases hb : (Nat.beq (P.cellsOf el) r.length && Nat.beq (P.cellsOf t) (repT r m).length) with
    | false => rw [hb] at h; cases h
    | true =>
     rw [hb, cond_true] at h
     rw [Bool.and_eq_true, Nat.beq_eq, Nat.beq_eq] at hb
     cases h
     obtain ⟨xs, m', _, _, hl, hlen, hf⟩ := DataW.trod_array hu hx
     refine ⟨by omega, ?_⟩
     obtain ⟨y, h1, h2⟩ := layA_ok ih (m := m') (cs := cs) hr hb.1 m 0 (by omega) fun i hi => by
      have := hf i hi
      rw [hb.1] at this
      rw [Nat.zero_add]
      exact ⟨_, this.trans (List.getElem?_eq_getElem (by omega))⟩
     exact ⟨y, h1, CRel.mono (fun _ _ _ h => h) _ y (fun j v hj => by rwa [Nat.zero_add] at hj) h2⟩
   ·cases h
  ·cases h

theorem crel_rowV {φ : Nat → Nat → Option Value} : ∀ (e : List Ty) (x : rowDen e) (A : List Value), A.length = e.length → CRel φ e x (fun j => A[j]?) → LRel (envφ φ) (rowV e x) A
 | [], _, A, h, _ => by cases A <;> simp at h; exact rfl
 | [t], x, A, h, hc => by
  match A, h with
  | [a], _ =>
   rw [CRel] at hc
   obtain ⟨X, h1, h2⟩ := hc
   cases h1
   exact ⟨a, [], rfl, toV_rel t x a h2, rfl⟩
 | t :: u :: ts, x, A, h, hc => by
  match A, h with
  | a :: A, h =>
   rw [CRel] at hc
   obtain ⟨⟨X, h1, h2⟩, h3⟩ := hc
   cases h1
   exact ⟨a, A, rfl, toV_rel t x.1 a h2, crel_rowV (u :: ts) x.2 A (by simpa using h) h3⟩
where
 toV_rel (t : Ty) (x : t.den) (a : Value) (h : TRel φ t x a) : VRel (envφ φ) (toV t x) a := by
  cases t with
  | int k => rw [TRel] at h; simp only [toV, VRel]; exact h
  | bool => rw [TRel] at h; simp only [toV, VRel]; exact h
  | str => rw [TRel] at h; simp only [toV, VRel]; exact h
  | lst e =>
   rw [TRel] at h
   simp only [toV, VRel]
   obtain ⟨a', c, h1, h2, h3, h4⟩ := h
   refine ⟨a', c, h1, h2, fun h => (by cases h), h3, fun hp => ?_⟩
   obtain ⟨B, o, h5, h6⟩ := h4 hp
   refine ⟨B, o, h5, fun i hi => ?_⟩
   refine CRel.mono (fun _ _ _ h => h) e _ (fun j v hj => ?_) (h6 i hi)
   show φ B (o + (i * e.length + j)) = some v
   rw [← Nat.add_assoc]
   exact hj
theorem arg_struct {n : Nat} {t : TypeId} {e : List Ty} {fs : Array Field} {v : Value} {d : DataW H} {p : List MemPlace} {r : Go.Reach} {b0 : Nat} {W : World} (hu : P.underlying t = some (.struct fs)) (hl : layE P n t = some e)
  (k : Value.okWide P W r b0 t v) (h : DataW.Trod enc P w base spare held t v d p) : ∃ x : rowDen e, wfR e x ∧ VRel (envφ (φW w)) (.agg (rowV e x)) v := by
 obtain ⟨A, rfl, hA⟩ := okWide_struct hu k
 obtain ⟨fuel, hf⟩ := h
 have hf' : DataW.trod enc P w base spare held fuel t A.toList = some (d, p) := by simpa [Value.cells] using hf
 obtain ⟨h1, x, h2, h3⟩ := lay_ok n t e hl _ _ _ hf'
 exact ⟨x, h2, by simp only [VRel]; exact ⟨A, rfl, crel_rowV e x _ h1 h3⟩⟩
end
end Go.Sym
end

section
namespace Go.Proofs.Ytaloolcabmfjbaa
open Go.Sym Go.WideShapes
open Go.RowKit (Below)
set_option maxRecDepth 100000
abbrev rpEl : List Ty := [.int .i64, .int .u64, .int .u64, .bool, .lst reT, .int .u32, .int .u64, .int .u64, .int .i64]
theorem kv_u6 {L : List KvQ} (h : wfT (.lst kvT) L) : u6L L := by
 rw [wfT] at h
 refine ⟨h.1, fun i hi => ?_⟩
 have := h.2 i hi
 simp only [wfR, wfT] at this
 exact ⟨this.2.2.1, this.2.2.2.1, this.2.2.2.2⟩
theorem re_u6 {L : List ReQ} (h : wfT (.lst reT) L) : reUB L = true := by
 rw [wfT] at h
 rw [reUB_iff]
 refine ⟨h.1, fun i hi => ?_⟩
 have := h.2 i hi
 simp only [wfR] at this
 exact ⟨kv_u6 this.1, kv_u6 this.2.2.2.2⟩
theorem codecTells_fin {H : Type} {enc : TypeId × Value → H} {base : Nat} (W : World) (v0 : Value) {d0 : DataW H} {p0 : List MemPlace} (k0 : Value.okWide Try.prog W .any base 37 v0) (h0 : DataW.Trod enc Try.prog W 0 (fun _ => true) true 37 v0 d0 p0) (lt0 : ∀ x ∈ p0, x.block < W.heap.size) :
  Calls Try.prog 4 #[v0] W fun e w' => e = .returned (.bool true) ∧ Below W.heap.size W w' := by
 obtain ⟨⟨er, rv, cm, tk, R, ha, ap, te, ld⟩, w0, g0⟩ := arg_struct (n := 8) (e := rpEl) Try.underlying37 (by kernel_rfl) k0 h0
 simp only [wfR] at w0
 obtain ⟨a0, a1, a2, a3, a4, a5, a6, a7, a8⟩ := w0
 rw [wfT] at a1 a2 a5 a6 a7
 exact pure_true (codecTells_at er rv cm ha ap te ld tk R a1 a2 a5 a6 a7 (re_u6 a4)) W _ ⟨_, _, rfl, g0, rfl⟩
end Go.Proofs.Ytaloolcabmfjbaa
end

section
namespace Go.Eng
open Go.RowKit Go.ChangeShapes Go.WideShapes

section
variable {H : Type} {enc : TypeId × Value → H} {P : Program} {f : Func} {s : ChangeSpec} {apart fresh handsOn again : Bool} {W W' : World} {args : Array Value} {v : Value} {ds gs : List (DataW H)} {before : List MemPlace}

theorem post_low (hW : DataW.Whole enc P f.params.toList s.vars apart W args.toList ds gs before) (hb : Below W.heap.size W W')
  (pa pv : List MemPlace) (hp : before = pa ++ pv)
  (hr : ∀ (b : Nat) (sp : Nat → Bool) (hd : Bool), DataW.TrodAll enc P W' b sp hd f.resultTypes.toList (v.resultList f.resultTypes.size) (s.fn H (ds ++ gs)).results [])
  (ha : ∀ sp : Nat → Bool, (∀ p ∈ before, sp p.block = true) → DataW.TrodAll enc P W' 0 sp true f.params.toList args.toList (s.fn H (ds ++ gs)).args pa)
  (hv : ∀ sp : Nat → Bool, (∀ p ∈ before, sp p.block = true) → DataW.TrodVars enc P W' sp s.vars (s.fn H (ds ++ gs)).vars pv)
  (hok : ∀ (j : Nat) (t : TypeId) (r : Value), f.resultTypes[j]? = some t → (v.resultList f.resultTypes.size)[j]? = some r → Value.okWide P W' .any 0 t r) :
  s.post enc P f apart fresh handsOn again W args v W' := by
 have low : ∀ p ∈ before, p.block < W.heap.size := fun p h => hW.lt p h
 have seen : ∀ p ∈ before, decide (p.block < W.heap.size) = true := fun p h => decide_eq_true (low p h)
 have kept : W.keptBut W' fun p => p ∈ before ∧ (p ∈ pa ∨ p ∈ pv) :=
  World.keptBut_mono (fun p h => ⟨h, by rw [hp] at h; exact List.mem_append.1 h⟩) (hb.frame (· ∈ before))
 subst hp
 refine ⟨ds, gs, pa ++ pv, [], pa, pv, hW, hr _ _ _, ha (fun b => decide (b < W.heap.size)) seen, hv (fun b => decide (b < W.heap.size)) seen, ?_, fun _ => ⟨hok, ?_⟩⟩
 ·exact World.keptBut_mono (fun p h => ⟨h.1, h.2.elim (fun h => .inr (.inl h)) fun h => .inr (.inr h)⟩) kept
 ·obtain ⟨_, _, _, _, _, hz, hn⟩ := hW
  have hA := trodAll_append (ha (fun _ => true) fun _ _ => rfl) (hr 0 (fun _ => true) true)
  refine ⟨_, _, pa ++ pv, ⟨pa, pv, by simpa using hA, hv (fun _ => true) fun _ _ => rfl, rfl, fun b off h => ?_, hn⟩, fun p h _ => by simpa using h⟩
  rw [hb.frozen (low _ h)]
  exact hz b off h
end
end Go.Eng
end

section

end
