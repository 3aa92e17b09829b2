/-
  Texts of this claim, one behind the other: EngN EngO CrcTab CrcLaw CrcSum FrSum SymAu CrcRef FrFour FrLaw FrNum FrScan FrScanB FrRef. Each says its own conditions.
-/
import Derived.Test.YtjjebdfjmbnhpaaFrBuM6
import Derived.RecoverIn
import Derived.Test.YtjjebdfjmbnhpaaProg
import Derived.KernelRfl
import Derived.WalkKit
import Derived.Below
import Derived.Deep.WholeRow
import Derived.Laws.BitsAllLaws
import Derived.Test.YtjjebdfjmbnhpaaFrBuM4
import Derived.Lib.Hide

section
namespace Go.Eng
open Go.RowKit (Below)
set_option linter.unusedSimpArgs false
set_option linter.unusedVariables false

section
variable {P : Program} {self : ESelf} {ro r : Option Nat} {n : Nat}

theorem range_sound (hs : SelfOK P self) (f : Operand) (ps : Array Tmp) (assign body : Code) : CodeOK P ro r n (.rangeFunc f ps assign body) (rangeE P self ro f ps assign body) := by
  intro c e c' h base ρ0 w0 ρ A w h0 h1 h2 hr
  unfold rangeE at h
  split at h
  · cases h
  rename_i s1 d marks hopen
  -- the statement is entered
  have hent : ∃ ρ1 w1 MARKS D, ρ.le ρ1 ∧ SRel base ρ1 s1 w1 ∧ Below base w w1 ∧ ρ1 d = some D ∧ DRel ρ1 marks MARKS ∧
      (∀ fn, (Instr.enterLoop fn A.tmps ps assign body r).run P w = .ok (w1.heap.size, MARKS) (w1.alloc (.loop { state := .ready, pending := none, fn, tmps := A.tmps, params := ps, assign, body, defers := D.B }))) := by
    cases ro with
    | none =>
      have h0 : r = none := h0
      subst h0
      cases hopen
      have hle := Env.le_put ⟨w.heap.size, 0, 0⟩ hr.s.fresh
      refine ⟨_, w.alloc (.deferred (some [])), [{ target := .collected w.heap.size, args := #[] }], ⟨w.heap.size, 0, 0⟩, hle, hr.s.new (.dfr false) (.deferred (some [])) 0 rfl rfl, below_new hr.s.le rfl, Env.put_same, ⟨_, _, Env.put_same, rfl, rfl⟩, fun fn => ?_⟩
      have := run_enterLoop_outer (P := P) (w := w) fn A.tmps ps assign body
      rw [World.size_alloc]
      exact this
    | some l0 =>
      obtain ⟨x, hx, rfl⟩ := h0
      have hopen : (match c.st.heap.get l0 with
        | some (.loop r) => some (c.st, r.defers, [])
        | _ => none : Option (St × Nat × List EDef)) = some (s1, d, marks) := hopen
      split at hopen
      · rename_i rl hg
        cases hopen
        obtain ⟨y, hy, _, L, D, l1, l2, l3, l4, l5, l6, l7, l8, l9⟩ := hr.s.obj' hg (h1.sub _ _ hx)
        rw [h1.sub _ _ hx] at hy; cases hy
        refine ⟨ρ, w, [], D, ρ.le_refl, hr.s, Below.refl _ _, l8, rfl, fun fn => ?_⟩
        rw [← l9]
        exact run_enterLoop_inner l1 fn A.tmps ps assign body
      · cases hopen
  obtain ⟨ρ1, w1, MARKS, D, g1, g2, g3, g4, g5, g6⟩ := hent
  split at h
  · rename_i g first cap hf
    cases hbo : bodyOK P g with
    | false => simp [hbo] at h
    | true =>
    simp only [hbo, cond_true] at h
    -- the record
    have hle2 := Env.le_put ⟨w1.heap.size, 0, 0⟩ g2.fresh
    have hf' := evF_rel hr.f f _ hf
    have hf2 := VRel.mono (Env.le_trans g1 hle2) _ _ hf'
    simp only [VRel] at hf2
    obtain ⟨A1, C1, e1, e2, e3⟩ := hf2
    refine wpIn_rangeFunc fun fn _ => ?_
    let L : Loop := { state := .ready, pending := none, fn, tmps := A.tmps, params := ps, assign, body, defers := D.B }
    let w2 : World := w1.alloc (.loop L)
    have hS2 : SRel base (ρ1.put s1.next ⟨w1.heap.size, 0, 0⟩) (s1.new (.loop ⟨.ready, none, c.tmps, ps.toList, assign, body, d⟩)) w2 :=
      g2.new _ (.loop L) 0 rfl ⟨L, D, rfl, rfl, rfl, (hr.f.mono g1).mono hle2, rfl, rfl, rfl, hle2.sub _ _ g4, rfl⟩
    have hB2 : Below base w1 w2 := below_new g2.le rfl
    have hargs : LRel (ρ1.put s1.next ⟨w1.heap.size, 0, 0⟩) (lapp (lapp first [.yld s1.next]) cap) (A1 ++ #[Value.func (.yield w1.heap.size) #[] #[]] ++ C1).toList := by
      rw [lapp_eq, lapp_eq]
      simp only [Array.toList_append]
      exact (e2.append (LRel.cons (by simp only [VRel]; exact ⟨_, _, _, Env.put_same, rfl⟩) LRel.nil)).append e3
    have hself : ∃ ee s2, self (.fn g (lapp (lapp first [.yld s1.next]) cap)) (s1.new (.loop ⟨.ready, none, c.tmps, ps.toList, assign, body, d⟩)) = some (ee, s2) := by
      cases hh : self (.fn g (lapp (lapp first [.yld s1.next]) cap)) (s1.new (.loop ⟨.ready, none, c.tmps, ps.toList, assign, body, d⟩)) with
      | none => rw [hh] at h; cases h
      | some p => exact ⟨p.1, p.2, rfl⟩
    obtain ⟨ee, s2, hself⟩ := hself
    rw [hself] at h
    refine ⟨w1.heap.size, MARKS, w2, { target := .fn (.func g) C1, args := A1 ++ #[Value.func (.yield w1.heap.size) #[] #[]] }, w2, g, _, w2, g6 fn, ?_, fun _ _ => RF_fn _ _, ?_, fun hh => by simp [RF_depth] at hh, callsIn_RF ((hs _ _ _ _ hself base _ w2 hS2 (n - 1) _ hargs).mono ?_)⟩
    · have em : Array.map A.eval #[Operand.const (Value.func (.yield w1.heap.size) #[] #[])] = #[Value.func (.yield w1.heap.size) #[] #[]] := by simp [Act.eval]
      simp only [resolve, rangeCall, e1, Deferred.ofValue, Sem.run_pure, em]
    · simp only [invoke]
      exact run_callFunc hbo _
    · rintro E w3 ⟨ρ3, k1, k2, k3, k4⟩
      have hle3 : ρ.le ρ3 := Env.le_trans g1 (Env.le_trans hle2 k1)
      have hB3 : Below base w w3 := (g3.trans hB2).trans k4
      have hmarks : DRel ρ3 (marks ++ c.defers) (MARKS ++ A.defers) := by
        have m1 := g5.mono (Env.le_trans hle2 k1)
        have m2 := hr.d.mono hle3
        clear h hopen
        revert m1
        generalize marks = ms
        generalize MARKS = MS
        induction ms generalizing MS with
        | nil => intro m1; have m1 : MS = [] := m1; subst m1; exact m2
        | cons a ms ih =>
          intro m1
          cases a with
          | mark k => obtain ⟨x, Y, q1, rfl, q2⟩ := m1; exact ⟨x, Y ++ A.defers, q1, rfl, ih Y q2⟩
          | call k a b => obtain ⟨A', C', Y, rfl, q1, q2, q3⟩ := m1; exact ⟨A', C', Y ++ A.defers, rfl, q1, q2, ih Y q3⟩
      cases ee with
      | pan v =>
        obtain ⟨X, rfl, k5⟩ := k2
        simp only at h
        cases h
        exact CPost.mk (Env.le_trans h1 hle3) (h2.trans hB3) ⟨hr.f.mono hle3, hmarks, k3⟩ ⟨X, rfl, k5⟩
      | ret v =>
        obtain ⟨X, rfl, k5⟩ := k2
        simp only at h
        split at h
        · rename_i rl hg
          have hnb : rl.state ≠ .busy := by intro e; rw [e] at h; cases h
          have h : (match jumpE rl.pending with
              | some e => some (e, (⟨c.tmps, marks ++ c.defers, s2.upd s1.next (.loop { rl with state := .exhausted })⟩ : Cfg))
              | none => none) = some (e, c') := by
            cases hst : rl.state <;> rw [hst] at h <;> first | exact absurd hst hnb | exact h
          have hy2 : ρ3 s1.next = some ⟨w1.heap.size, 0, 0⟩ := k1.sub _ _ Env.put_same
          obtain ⟨y, hy, _, L3, D3, l1, l2, l3, l4, l5, l6, l7, l8, l9⟩ := k3.obj' hg hy2
          rw [hy2] at hy; cases hy
          simp only at l1
          have hend := run_endLoop (P := P) l1 (by rw [l2]; exact hnb)
          have hS4 : SRel base ρ3 (s2.upd s1.next (.loop { rl with state := .exhausted })) (w3.putObj w1.heap.size (.loop { L3 with state := .exhausted })) :=
            k3.upd hg hy2 _ (.loop { L3 with state := .exhausted }) rfl ⟨_, D3, rfl, rfl, l3, l4, l5, l6, l7, l8, l9⟩
          have hB4 : Below base w (w3.putObj w1.heap.size (.loop { L3 with state := .exhausted })) := hB3.trans (below_set g2.le rfl)
          have hrel : Rel base ρ3 ⟨c.tmps, marks ++ c.defers, s2.upd s1.next (.loop { rl with state := .exhausted })⟩ { A with defers := MARKS ++ A.defers } (w3.putObj w1.heap.size (.loop { L3 with state := .exhausted })) :=
            ⟨hr.f.mono hle3, hmarks, hS4⟩
          generalize (⟨c.tmps, marks ++ c.defers, s2.upd s1.next (.loop { rl with state := .exhausted })⟩ : Cfg) = c4 at h hrel
          refine ⟨_, _, hend, ?_⟩
          split
          · rename_i hj
            rw [← l3, hj] at h
            simp only [jumpE] at h
            cases h
            exact CPost.mk (Env.le_trans h1 hle3) (h2.trans hB4) hrel rfl
          · rename_i j hj
            rw [← l3, hj] at h
            cases j <;> simp only [jumpE, reduceCtorEq] at h
            · cases h
              exact wpIn_exit (CPost.mk (Env.le_trans h1 hle3) (h2.trans hB4) hrel rfl)
            · cases h
              exact wpIn_ret (CPost.mk (Env.le_trans h1 hle3) (h2.trans hB4) hrel rfl)
        · cases h
  · cases h

theorem code_sound (hs : SelfOK P self) (fuel : Nat) : ∀ x : Code, CodeOK P ro r n x (runF (compC P self fuel ro x))
  | .skip => fun c e c' h base ρ0 w0 ρ A w h0 h1 h2 hr => by
    have h : some (EExit.normal, c) = some (e, c') := h
    cases h
    exact wpIn_skip (CPost.mk h1 h2 hr rfl)
  | .label l => fun c e c' h base ρ0 w0 ρ A w h0 h1 h2 hr => by
    have h : some (EExit.normal, c) = some (e, c') := h
    cases h
    exact wpIn_label (CPost.mk h1 h2 hr rfl)
  | .ret => fun c e c' h base ρ0 w0 ρ A w h0 h1 h2 hr => by
    have h : some (EExit.ret, c) = some (e, c') := h
    cases h
    exact wpIn_ret (CPost.mk h1 h2 hr rfl)
  | .exit id => fun c e c' h base ρ0 w0 ρ A w h0 h1 h2 hr => by
    have h : some (EExit.exit id, c) = some (e, c') := h
    cases h
    exact wpIn_exit (CPost.mk h1 h2 hr rfl)
  | .goto l => fun c e c' h base ρ0 w0 ρ A w h0 h1 h2 hr => by
    have h : none = some (e, c') := h
    cases h
  | .scope b => scope_sound (code_sound hs fuel b)
  | .refuse why => fun c e c' h base ρ0 w0 ρ A w h0 h1 h2 hr => by
    have h : none = some (e, c') := h
    cases h
  | .region id ops draw => region_sound hs id ops draw
  | .seq a b => seq_sound (code_sound hs fuel a) (code_sound hs fuel b)
  | .cond x a b => cond_sound (code_sound hs fuel a) (code_sound hs fuel b)
  | .block id b => block_sound (code_sound hs fuel b)
  | .loop b => loop_sound (code_sound hs fuel b) fuel
  | .rangeFunc f ps assign body => range_sound hs f ps assign body

theorem params_rel {ρ : Env} : ∀ (ps : List Tmp) {vs : List V} {As : List Value}, LRel ρ vs As → ∀ {f : Frm} {T : Array Value}, FRel ρ f T →
    FRel ρ (setParams f ps vs) ((ps.zip As).foldl (fun (tmps : Array Value) (x : Tmp × Value) => tmps.setIfInBounds x.1 x.2) T)
  | [], vs, As, h, f, T, hf => by simpa [setParams] using hf
  | p :: ps, [], As, h, f, T, hf => by have h : As = [] := h; subst h; simpa [setParams] using hf
  | p :: ps, v :: vs, As, h, f, T, hf => by
    obtain ⟨X, Y, rfl, h1, h2⟩ := h
    simp only [setParams, List.zip_cons_cons, List.foldl_cons]
    exact params_rel ps h2 (hf.set h1 p)

theorem round_sound (hs : SelfOK P self) (fuel l : Nat) (args : List V) (s : St) (e : EEnd) (s' : St) (h : runRound P self fuel l args s = some (e, s')) (base : Nat) (ρ : Env) (w : World) (hS : SRel base ρ s w) (n : Nat)
    (x : Blk) (L : Loop) (A : Array Value) (hx : ρ l = some x) (hL : w.heap[x.B]? = some (.loop L)) (hA : LRel ρ args A.toList) :
    RoundIn Fence.wide n P x.B L.fn ((L.params.zip A).foldl (fun tmps (t, a) => tmps.setIfInBounds t a) L.tmps) L.assign L.body w (Post base ρ w e s') := by
  unfold runRound at h
  split at h
  · rename_i rl hg
    obtain ⟨y, hy, hbase, L', D, l1, l2, l3, l4, l5, l6, l7, l8, l9⟩ := hS.obj' hg hx
    rw [hx] at hy; cases hy
    rw [hL] at l1
    cases l1
    have hfr : FRel ρ (setParams rl.tmps rl.params args) ((L.params.zip A).foldl (fun tmps (t, a) => tmps.setIfInBounds t a) L.tmps) := by
      have := params_rel rl.params hA l4
      rw [← l5] at this ⊢
      rw [← Array.foldl_toList, Array.toList_zip]
      exact this
    split at h
    · rename_i c1 hc1
      split at h
      · rename_i r1 hg1
        split at h
        · rename_i hst
          refine roundIn_of_wpIn trivial ?_
          have hrr : RR ρ (some l) (some x.B) := ⟨x, hx, rfl⟩
          rw [l6, l7]
          refine wpIn_mono (F := RF (some x.B)) (code_sound hs fuel rl.assign _ _ _ hc1 base ρ w ρ { tmps := _, defers := [] } w hrr ρ.le_refl (Below.refl _ _) ⟨hfr, rfl, hS⟩) ?_
          rintro E A1 w1 ⟨ρ1, g1, g2, g3, g4, g5, g6⟩
          have g2 : E = .normal := g2
          subst g2
          have hx1 : ρ1 l = some x := g1.sub _ _ hx
          obtain ⟨y1, hy1, hb1, L1, D1, q1, q2, q3, q4, q5, q6, q7, q8, q9⟩ := g5.obj' hg1 hx1
          rw [hx1] at hy1; cases hy1
          refine ⟨_, run_beginRound q1 (by rw [q2]; exact hst), ?_⟩
          have hS2 : SRel base ρ1 (c1.st.upd l (.loop { r1 with state := .busy })) (w1.putObj x.B (.loop { L1 with state := .busy })) :=
            g5.upd hg1 hx1 _ (.loop { L1 with state := .busy }) rfl ⟨_, D1, rfl, rfl, q3, q4, q5, q6, q7, q8, q9⟩
          have hB2 : Below base w (w1.putObj x.B (.loop { L1 with state := .busy })) := g6.trans (below_set hbase rfl)
          split at h
          · rename_i e2 c2 hc2
            refine wpIn_mono (F := RF (some x.B)) (code_sound hs fuel rl.body _ _ _ hc2 base ρ w ρ1 A1 _ hrr g1 hB2 ⟨g3, g4, hS2⟩) ?_
            rintro E2 A2 w2 ⟨ρ2, k1, k2, k3, k4, k5, k6⟩
            split at h
            · rename_i r2 hg2
              have hx2 : ρ2 l = some x := k1.sub _ _ hx
              obtain ⟨y2, hy2, hb2, L2, D2, t1, t2, t3, t4, t5, t6, t7, t8, t9⟩ := k5.obj' hg2 hx2
              rw [hx2] at hy2; cases hy2
              cases e2 with
              | normal =>
                have k2 : E2 = .normal := k2
                subst k2
                simp only at h
                cases h
                refine ⟨_, _, run_endRound none t1, ρ2, k1, ⟨_, rfl, by simp only [VRel]; rfl⟩, ?_, k6.trans (below_set hbase rfl)⟩
                exact k5.upd hg2 hx2 _ (.loop _) rfl ⟨_, D2, rfl, rfl, rfl, t4, t5, t6, t7, t8, t9⟩
              | ret =>
                have k2 : E2 = .ret := k2
                subst k2
                simp only at h
                cases h
                refine ⟨_, _, run_endRound (some .ret) t1, ρ2, k1, ⟨_, rfl, by simp only [VRel]; rfl⟩, ?_, k6.trans (below_set hbase rfl)⟩
                exact k5.upd hg2 hx2 _ (.loop _) rfl ⟨_, D2, rfl, rfl, rfl, t4, t5, t6, t7, t8, t9⟩
              | exit id =>
                have k2 : E2 = .exit id := k2
                subst k2
                simp only at h
                cases h
                refine ⟨_, _, run_endRound (some (.exit id)) t1, ρ2, k1, ⟨_, rfl, by simp only [VRel]; rfl⟩, ?_, k6.trans (below_set hbase rfl)⟩
                exact k5.upd hg2 hx2 _ (.loop _) rfl ⟨_, D2, rfl, rfl, rfl, t4, t5, t6, t7, t8, t9⟩
              | pan v => simp only at h; cases h
            · cases h
          · cases h
        · cases h
      · cases h
    · cases h
  · cases h


def resVar (T : Array Value) : ResultVar → Sem Value
  | .tmp t => pure (T.getD t undef)
  | .cell a t => do loadVar t (← asAddr (T.getD a undef))
theorem FRelA.get {ρ : Env} {f : Frm} {A : Array Value} (h : FRelA ρ f A) (k : Nat) (hk : f.get k ≠ .any) : VRel ρ (f.get k) (A.getD k undef) := by
  obtain ⟨h1, d, h2, h3, h4⟩ := h
  rw [Frm.get_eq, blt_iff] at hk ⊢
  rw [Array.getD_eq_getD_getElem?]
  by_cases hl : k < f.n
  · rw [decide_eq_true hl] at hk ⊢
    have hk' : k < A.size := by omega
    have := h4 k A[k] (Array.getElem?_eq_getElem hk')
    rw [Array.getElem?_eq_getElem hk']
    exact this.resolve_left hk
  · rw [decide_eq_false hl]
    have hk' : A.size ≤ k := by omega
    rw [Array.getElem?_eq_none hk']
    show VRel ρ .undef (.tuple #[])
    simp only [VRel]
theorem results_rel {base : Nat} {ρ : Env} {s : St} {w : World} (h : SRel base ρ s w) {f : Frm} {T : Array Value} (hf : FRelA ρ f T) : ∀ {rs : List ResultVar} {l : List V}, resultsE P s f rs = some l →
    ∃ L : List Value, (rs.mapM (resVar T)).run P w = .ok L w ∧ LRel ρ l L
  | [], l, hq => by simp only [resultsE] at hq; cases hq; exact ⟨[], by simp, LRel.nil⟩
  | .tmp t :: rs, l, hq => by
    simp only [resultsE] at hq
    split at hq
    · rename_i l' hl
      split at hq
      · cases hq
      rename_i hne
      cases hq
      obtain ⟨L, h1, h2⟩ := results_rel h hf hl
      exact ⟨T.getD t undef :: L, by simp only [List.mapM_cons, resVar, Sem.run_bind, Sem.run_pure, Result.andThen_ok, h1], LRel.cons (hf.get t hne) h2⟩
    · cases hq
  | .cell a t :: rs, l, hq => by
    simp only [resultsE] at hq
    split at hq
    · rename_i v hv
      split at hq
      · rename_i l' hl
        cases hq
        obtain ⟨L, h1, h2⟩ := results_rel h hf hl
        have ha := hf.get a (fun e => by rw [e] at hv; cases hv)
        obtain ⟨X, h3, h4⟩ := qLoad_rel (P := P) h hv ha
        have hp : ∃ ad, T.getD a undef = .pointer (some ad) := by
          unfold qLoad at hv
          split at hv
          · rename_i e
            rw [e] at ha
            simp only [VRel] at ha
            obtain ⟨B, O, S, _, e2⟩ := ha
            exact ⟨_, e2⟩
          · cases hv
        obtain ⟨ad, hp⟩ := hp
        rw [hp] at h3
        have h5 : (loadVar t ad).run P w = .ok X w := h3
        refine ⟨X :: L, ?_, LRel.cons h4 h2⟩
        simp only [List.mapM_cons, resVar, Sem.run_bind, Sem.run_pure, Result.andThen_ok, h1, hp, asAddr, h5]
      · cases hq
    · cases hq

theorem result_rel {base : Nat} {ρ : Env} {s : St} {w : World} (h : SRel base ρ s w) {f : Frm} {T : Array Value} (hf : FRelA ρ f T) {fn : Func} {v : V} (hq : resultE P s f fn.results.toList = some v) :
    ∃ X, (results fn T).run P w = .ok X w ∧ VRel ρ v X := by
  unfold resultE at hq
  have key : ∀ l, resultsE P s f fn.results.toList = some l → ∃ L : List Value, LRel ρ l L ∧ (results fn T).run P w = .ok (if h : L.toArray.size = 1 then L.toArray[0] else .tuple L.toArray) w := by
    intro l hl
    obtain ⟨L, h1, h2⟩ := results_rel (P := P) h hf hl
    refine ⟨L, h2, ?_⟩
    have e : results fn T = (do
        let vs ← fn.results.mapM (resVar T)
        pure (if h : vs.size = 1 then vs[0] else .tuple vs)) := by
      unfold results
      congr 1
    rw [e]
    simp only [Sem.run_bind, Array.mapM_eq_mapM_toList, Sem.run_map, h1, Result.andThen_ok, Sem.run_pure]
  split at hq
  · rename_i v' hl
    cases hq
    obtain ⟨L, h1, h2⟩ := key _ hl
    obtain ⟨X, Y, rfl, h3, h4⟩ := h1
    have h4 : Y = [] := h4
    subst h4
    exact ⟨X, by simpa using h2, h3⟩
  · rename_i l hne hl
    cases hq
    obtain ⟨L, h1, h2⟩ := key _ hl
    have hlen := h1.length
    have hne1 : ¬ L.toArray.size = 1 := by
      intro e
      simp only [List.size_toArray] at e
      rw [e] at hlen
      obtain ⟨a, rfl⟩ := List.length_eq_one_iff.1 hlen
      exact hne a rfl
    refine ⟨.tuple L.toArray, by rw [h2, dif_neg hne1], ?_⟩
    cases l with
    | nil =>
      have h1 : L = [] := h1
      subst h1
      simp only [VRel]
    | cons a l => simp only [VRel]; exact ⟨_, rfl, by simpa using h1⟩
  · cases hq

def DMRel (ρ : Env) : DM → FrameMode → Prop
  | none, u => u = .returning
  | some (v, b), u => ∃ X, u = .panicking [{ v := X, recovered := b }] ∧ VRel ρ v X
theorem DMRel.mono {ρ ρ' : Env} (h : ρ.le ρ') : ∀ {m : DM} {u : FrameMode}, DMRel ρ m u → DMRel ρ' m u
  | none, _, r => r
  | some _, _, ⟨X, h1, h2⟩ => ⟨X, h1, VRel.mono h _ _ h2⟩
theorem DMRel.settle {ρ : Env} : ∀ {m : DM} {u : FrameMode}, DMRel ρ m u → DMRel ρ (settleE m) (settle u)
  | none, _, r => by have r : _ = _ := r; subst r; rfl
  | some (v, false), _, ⟨X, h1, h2⟩ => by subst h1; exact ⟨X, rfl, h2⟩
  | some (v, true), _, ⟨X, h1, h2⟩ => by subst h1; rfl
theorem DMRel.run {ρ : Env} : ∀ {m : DM} {u : FrameMode}, DMRel ρ m u → u ≠ .run
  | none, _, r => by have r : _ = _ := r; subst r; simp
  | some (v, b), _, ⟨X, h1, h2⟩ => by subst h1; simp
def DPost (base : Nat) (ρ : Env) (w : World) (e : EExit) (c' : Cfg) (m' : DM) (c₀ : Frame) (cs : List Frame) : Exit → Act → List Frame → World → Prop :=
  fun E A' cs' w' => ∃ ρ' u', ρ.le ρ' ∧ XRel ρ' e E ∧ Rel base ρ' c' A' w' ∧ Below base w w' ∧ cs' = { c₀ with mode := u' } :: cs ∧ DMRel ρ' m' u'
def CodeDOK (P : Program) (n : Nat) (x : Code) (f : Cfg → DM → Option (EExit × Cfg × DM)) : Prop :=
  ∀ c m e c' m', f c m = some (e, c', m') → ∀ base ρ0 w0 ρ A w (c₀ : Frame) (cs : List Frame), ρ0.le ρ → Below base w0 w → Rel base ρ c A w → DMRel ρ m c₀.mode →
    x.wpSIn Fence.wide n P (DPost base ρ0 w0 e c' m' c₀ cs) A (c₀ :: cs) w
theorem wpSIn_mono {F : Fence} {c : Code} {Q Q' : Exit → Act → List Frame → World → Prop} {a : Act} {cs : List Frame} {w : World} (h : c.wpSIn F n P Q a cs w) (hq : ∀ e a cs w, Q e a cs w → Q' e a cs w) : c.wpSIn F n P Q' a cs w :=
  fun b k hb hr hF hroom => let ⟨e, a', cs', w', l, q, r⟩ := h b k hb hr hF hroom; ⟨e, a', cs', w', l, hq _ _ _ _ q, r⟩
theorem plain_sound {x : Code} {f : Cfg → Option (EExit × Cfg)} (hx : CodeOK P none none n x f) : CodeDOK P n x fun c m => withD m (f c) := by
  intro c m e c' m' h base ρ0 w0 ρ A w c₀ cs h1 h2 hr hm
  cases hf : f c with
  | none => simp [hf, withD] at h
  | some p =>
    obtain ⟨e1, c1⟩ := p
    have hnp : ∀ v, e1 ≠ .pan v := fun v ev => by subst ev; simp [hf, withD] at h
    have h : some (e1, c1, m) = some (e, c', m') := by
      cases e1 with
      | pan v => exact absurd rfl (hnp v)
      | _ => simpa [hf, withD] using h
    simp only [Option.some.injEq, Prod.mk.injEq] at h
    obtain ⟨rfl, rfl, rfl⟩ := h
    refine wpSIn_of_wpIn rfl (wpIn_mono (F := RF none) (hx c _ _ hf base ρ w ρ A w rfl ρ.le_refl (Below.refl _ _) hr) ?_)
    rintro E A1 w1 ⟨ρ', g1, g2, g3, g4, g5, g6⟩
    have g3 : FRel ρ' c1.tmps A1.tmps := by
      cases e1 with
      | pan v => exact absurd rfl (hnp v)
      | _ => exact g3
    exact ⟨ρ', c₀.mode, Env.le_trans h1 g1, g2, ⟨g3, g4, g5⟩, h2.trans g6, rfl, hm.mono g1⟩

theorem run_rec {A : Act} {o : Oper} (h : isRec o.op = true) {w : World} : (execOp A.eval o).run P w = .ok .recover w := by
  unfold isRec at h
  split at h
  · rename_i cl ho
    split at h
    · rename_i hc
      have ha : cl.args = #[] := by simpa using h
      unfold execOp
      simp [ho, resolve, hc, invoke, Go.builtin, ha]
    · cases h
  · cases h
theorem rec_noDefer {o : Oper} (h : isRec o.op = true) : o.about P = fun _ _ => none := by
  unfold isRec at h
  split at h
  · rename_i cl ho
    split at h
    · rename_i hc
      funext w ρ
      unfold Oper.about
      simp [ho, resolve, hc, Target.leads]
    · cases h
  · cases h

theorem rec_sound (ops : Array Oper) : ∀ (l : List Oper) (idx : List Nat), idx.map (ops[·]?) = l.map some → ∀ c m e c' m', recE P l c m = some (e, c', m') →
    ∀ base ρ0 w0 ρ A w (c₀ : Frame) (cs : List Frame), ρ0.le ρ → Below base w0 w → Rel base ρ c A w → DMRel ρ m c₀.mode → wpOpsSIn Fence.wide n P ops (DPost base ρ0 w0 e c' m' c₀ cs) idx A (c₀ :: cs) w := by
  intro l
  induction l with
  | nil =>
    intro idx hi c m e c' m' h base ρ0 w0 ρ A w c₀ cs h1 h2 hr hm
    have hi : idx = [] := by simpa using hi
    subst hi
    simp only [recE] at h
    cases h
    exact ⟨ρ, c₀.mode, h1, rfl, hr, h2, rfl, hm⟩
  | cons o l ih =>
    intro idx hi c m e c' m' h base ρ0 w0 ρ A w c₀ cs h1 h2 hr hm
    cases idx with
    | nil => simp at hi
    | cons i idx =>
    simp only [List.map_cons, List.cons.injEq] at hi
    obtain ⟨hio, hi⟩ := hi
    simp only [recE] at h
    split at h
    · cases h
    rename_i hg
    have hw : Region.wanted o (yielded ops A.tmps) = true := by unfold Region.wanted; rw [hg]
    simp only [wpOpsSIn, hio, hw, if_true]
    refine ⟨fun f' _ => trivial, ?_⟩
    cases hrec : isRec o.op with
    | true =>
      rw [hrec, cond_true] at h
      rw [run_rec hrec]
      simp only
      split at h
      · rename_i v
        obtain ⟨X, hu, hX⟩ := hm
        have e1 : recoverD (c₀ :: cs) = some (X, { c₀ with mode := .panicking [{ v := X, recovered := true }] } :: cs) := by simp [recoverD, hu]
        rw [e1]
        exact ih idx hi _ _ e c' m' h base ρ0 w0 ρ _ w { c₀ with mode := .panicking [{ v := X, recovered := true }] } cs h1 h2 ⟨putE_rel hr.f hX o.dst, by rw [put_defers]; exact hr.d, hr.s⟩ ⟨X, rfl, hX⟩
      · rename_i m1 hne
        have e1 : recoverD (c₀ :: cs) = none := by
          cases m with
          | none => have hm : _ = _ := hm; simp [recoverD, hm]
          | some p =>
            obtain ⟨v, b⟩ := p
            cases b with
            | false => exact absurd rfl (hne v)
            | true => obtain ⟨X, hu, hX⟩ := hm; simp [recoverD, hu]
        rw [e1]
        exact ih idx hi _ _ e c' m' h base ρ0 w0 ρ _ w c₀ cs h1 h2 ⟨putE_rel hr.f (by simp only [VRel]) o.dst, by rw [put_defers]; exact hr.d, hr.s⟩ hm
    | false =>
      rw [hrec, cond_false] at h
      split at h
      · rename_i v hv
        obtain ⟨X, g1, g2⟩ := qop_rel hr.s (evF_rel hr.f) hv
        rw [g1]
        exact ih idx hi _ _ e c' m' h base ρ0 w0 ρ _ w c₀ cs h1 h2 ⟨putE_rel hr.f g2 o.dst, by rw [put_defers]; exact hr.d, hr.s⟩ hm
      · cases h

theorem seqD_sound {a b : Code} {fa fb : Cfg → DM → Option (EExit × Cfg × DM)} (ha : CodeDOK P n a fa) (hb : CodeDOK P n b fb) : CodeDOK P n (.seq a b) (seqD fa fb) := by
  intro c m e c' m' h base ρ0 w0 ρ A w c₀ cs h1 h2 hr hm
  refine wpSIn_seq ?_
  unfold seqD at h
  split at h
  · rename_i c1 m1 hc1
    refine wpSIn_mono (ha c m _ _ _ hc1 base ρ0 w0 ρ A w c₀ cs h1 h2 hr hm) ?_
    rintro E A1 cs1 w1 ⟨ρ', u', g1, g2, g3, g4, rfl, g5⟩
    have g2 : E = .normal := g2
    subst g2
    exact hb c1 m1 e c' m' h base ρ0 w0 ρ' A1 w1 { c₀ with mode := u' } cs g1 g4 g3 g5
  · rename_i hne
    refine wpSIn_mono (ha c m e c' m' h base ρ0 w0 ρ A w c₀ cs h1 h2 hr hm) ?_
    rintro E A1 cs1 w1 hp
    cases E with
    | normal =>
      obtain ⟨ρ', u', g1, g2, g3, g4, rfl, g5⟩ := hp
      cases e with
      | normal => exact absurd h (hne c' m')
      | exit id => cases g2
      | ret => cases g2
      | pan v => obtain ⟨X, g2, _⟩ := g2; cases g2
    | _ => exact hp

theorem condD_sound {x : Operand} {a b : Code} {fa fb : Cfg → DM → Option (EExit × Cfg × DM)} (ha : CodeDOK P n a fa) (hb : CodeDOK P n b fb) : CodeDOK P n (.cond x a b) (condD x fa fb) := by
  intro c m e c' m' h base ρ0 w0 ρ A w c₀ cs h1 h2 hr hm
  unfold condD at h
  split at h
  · rename_i hx
    have := evF_rel hr.f _ _ hx
    simp only [VRel] at this
    exact wpSIn_cond this (ha c m e c' m' h base ρ0 w0 ρ A w c₀ cs h1 h2 hr hm)
  · rename_i hx
    have := evF_rel hr.f _ _ hx
    simp only [VRel] at this
    exact wpSIn_cond this (hb c m e c' m' h base ρ0 w0 ρ A w c₀ cs h1 h2 hr hm)
  · cases h

theorem codeD_sound (hs : SelfOK P self) (fuel : Nat) : ∀ x : Code, CodeDOK P n x (runD (compD P self fuel x))
  | .skip => plain_sound (code_sound hs fuel .skip)
  | .label l => plain_sound (code_sound hs fuel (.label l))
  | .ret => plain_sound (code_sound hs fuel .ret)
  | .exit id => plain_sound (code_sound hs fuel (.exit id))
  | .goto l => plain_sound (code_sound hs fuel (.goto l))
  | .scope b => plain_sound (code_sound hs fuel (.scope b))
  | .refuse why => plain_sound (code_sound hs fuel (.refuse why))
  | .region id ops true => plain_sound (code_sound hs fuel (.region id ops true))
  | .region id ops false => by
    intro c m e c' m' h base ρ0 w0 ρ A w c₀ cs h1 h2 hr hm
    have h : (bif hasRec ops.toList then recE P ops.toList c m else withD m (runCode P self fuel none (.region id ops false) c)) = some (e, c', m') := h
    cases hd : hasRec ops.toList with
    | true =>
      rw [hd, cond_true] at h
      exact wpSIn_region (rec_sound ops ops.toList _ (range_map ops) c m e c' m' h base ρ0 w0 ρ A w c₀ cs h1 h2 hr hm)
    | false =>
      rw [hd, cond_false] at h
      exact plain_sound (code_sound hs fuel (.region id ops false)) c m e c' m' h base ρ0 w0 ρ A w c₀ cs h1 h2 hr hm
  | .seq a b => seqD_sound (codeD_sound hs fuel a) (codeD_sound hs fuel b)
  | .cond x a b => condD_sound (codeD_sound hs fuel a) (codeD_sound hs fuel b)
  | .block id b => plain_sound (code_sound hs fuel (.block id b))
  | .loop b => plain_sound (code_sound hs fuel (.loop b))
  | .rangeFunc f ps assign body => plain_sound (code_sound hs fuel (.rangeFunc f ps assign body))

theorem hOf_le {n : Nat} (h : n ≤ 4096) : n ≤ 2 ^ hOf n := by
  unfold hOf
  have bl : ∀ a b : Nat, Nat.ble a b = decide (a ≤ b) := by intro a b; rw [Bool.eq_iff_iff]; simp
  simp only [bl]
  by_cases h1 : n ≤ 1
  · simp [h1]
  by_cases h2 : n ≤ 2
  · simp [h1, h2]
  by_cases h4 : n ≤ 4
  · simp [h1, h2, h4]
  by_cases h8 : n ≤ 8
  · simp [h1, h2, h4, h8]
  by_cases h16 : n ≤ 16
  · simp [h1, h2, h4, h8, h16]
  by_cases h32 : n ≤ 32
  · simp [h1, h2, h4, h8, h16, h32]
  by_cases h64 : n ≤ 64
  · simp [h1, h2, h4, h8, h16, h32, h64]
  by_cases h128 : n ≤ 128
  · simp [h1, h2, h4, h8, h16, h32, h64, h128]
  by_cases h256 : n ≤ 256
  · simp [h1, h2, h4, h8, h16, h32, h64, h128, h256]
  by_cases h512 : n ≤ 512
  · simp [h1, h2, h4, h8, h16, h32, h64, h128, h256, h512]
  by_cases h1024 : n ≤ 1024
  · simp [h1, h2, h4, h8, h16, h32, h64, h128, h256, h512, h1024]
  · simp [h1, h2, h4, h8, h16, h32, h64, h128, h256, h512, h1024]; omega

theorem mkFrm_rel {ρ : Env} {args : List V} {A : Array Value} (h : LRel ρ args A.toList) {n : Nat} (hn : args.length ≤ n) (hm : n ≤ 4096) : FRel ρ (mkFrm n args) (A ++ Array.replicate (n - A.size) undef) := by
  have hl := h.length
  simp only [Array.length_toList] at hl
  refine ⟨by simp [mkFrm]; omega, hOf n, B.ofList_full _ _ _, hOf_le hm, fun i X hi => ?_⟩
  have hi2 : i < n := by
    have := (Array.getElem?_eq_some_iff.1 hi).1
    simp at this; omega
  have hle := hOf_le hm
  show VRel ρ ((B.ofList .undef (hOf n) args).get i) X
  rw [B.ofList_get _ _ _ _ (by omega), List.getD_eq_getElem?_getD]
  rw [Array.getElem?_append] at hi
  by_cases hia : i < A.size
  · rw [if_pos hia] at hi
    have e : args[i]? = some args[i] := List.getElem?_eq_getElem (by omega)
    obtain ⟨Y, h1, h2⟩ := h.get e
    simp only [Array.getElem?_toList] at h1
    rw [hi] at h1; cases h1
    rw [e]; exact h2
  · rw [if_neg hia] at hi
    rw [List.getElem?_eq_none (by omega)]
    rw [Array.getElem?_replicate] at hi
    split at hi
    · cases hi
      show VRel ρ .undef (.tuple #[])
      simp only [VRel]
    · cases hi

theorem def_sound (hs : SelfOK P self) (fuel : Nat) {g : FuncId} {args : List V} {m m' : DM} {s s' : St} (h : runDef P self fuel g args m s = some (m', s')) {base : Nat} {ρ : Env} {w : World} (hS : SRel base ρ s w) {A : Array Value}
    (hA : LRel ρ args A.toList) {u : FrameMode} (hm : DMRel ρ m u) {R : Ending → FrameMode → World → Prop}
    (hR : ∀ X u' w' ρ', ρ.le ρ' → SRel base ρ' s' w' → Below base w w' → DMRel ρ' m' u' → R (.returned X) u' w') : CallsDIn Fence.wide n P g A u w R := by
  unfold runDef at h
  split at h
  · rename_i fn hfn
    split at h
    · rename_i c hc
      simp only [llen_eq] at h
      cases hb : (Nat.ble args.length fn.ntmps && Nat.ble fn.ntmps 4096) with
      | false => simp [hb] at h
      | true =>
      simp only [hb, Bool.not_true, cond_false] at h
      simp only [Bool.and_eq_true, Nat.ble_eq] at hb
      have hfr := mkFrm_rel hA hb.1 hb.2
      refine callsDIn_of_wpSIn hfn hc trivial fun c₀ cs hu => ?_
      subst hu
      split at h
      · rename_i e c' m1 hc1
        have hw := codeD_sound (n := n) hs fuel c _ _ _ _ _ hc1 base ρ w ρ { tmps := _, defers := [] } w c₀ cs ρ.le_refl (Below.refl _ _) ⟨hfr, rfl, hS⟩ hm
        have fin : (match c'.defers with
          | [] => match resultE P c'.st c'.tmps fn.results.toList with
            | some _ => some (m1, c'.st)
            | none => none
          | _ :: _ => none) = some (m', s') → ∀ (A1 : Act) (cs1 : List Frame) (w1 : World) (ρ' : Env) (u' : FrameMode), ρ.le ρ' → Rel base ρ' c' A1 w1 → Below base w w1 → cs1 = { c₀ with mode := u' } :: cs → DMRel ρ' m1 u' →
            A1.defers = [] ∧ ∃ u', cs1 = { c₀ with mode := u' } :: cs ∧ ∃ v, (results fn A1.tmps).run P w1 = .ok v w1 ∧ R (.returned v) u' w1 := by
          intro hh A1 cs1 w1 ρ' u' g1 g3 g4 g5 g6
          split at hh
          · rename_i hd
            split at hh
            · rename_i v hv
              cases hh
              obtain ⟨X, q1, q2⟩ := result_rel (P := P) g3.s g3.f.toA hv
              have hdd := g3.d
              rw [hd] at hdd
              exact ⟨hdd, u', g5, X, q1, hR X u' w1 ρ' g1 g3.s g4 g6⟩
            · cases hh
          · cases hh
        refine wpSIn_mono hw ?_
        rintro E A1 cs1 w1 ⟨ρ', u', g1, g2, g3, g4, g5, g6⟩
        split at h
        · have g2 : E = .normal := g2
          subst g2
          exact fin h A1 cs1 w1 ρ' u' g1 g3 g4 g5 g6
        · have g2 : E = .ret := g2
          subst g2
          exact fin h A1 cs1 w1 ρ' u' g1 g3 g4 g5 g6
        · cases h
      · cases h
    · cases h
  · cases h

theorem leave_sound (hs : SelfOK P self) (fuel : Nat) (fn : Func) {f : Frm} {T : Array Value} {base : Nat} {ρ0 : Env} {w0 : World} {e : EEnd} {s' : St} : ∀ (ds : List EDef) (D : List Deferred) (s : St) (w : World) (ρ : Env) (m : DM) (u : FrameMode),
    leaveE P self fuel fn f m ds s = some (e, s') → ρ0.le ρ → Below base w0 w → FRelA ρ f T → SRel base ρ s w → DRel ρ ds D → DMRel ρ m u → LeavesInM Fence.wide n P fn T (Post base ρ0 w0 e s') D u w
  | [], D, s, w, ρ, m, u, h, h1, h2, hf, hS, hD, hm => by
    have hD : D = [] := hD
    subst hD
    simp only [leaveE] at h
    split at h
    · rename_i v
      cases h
      obtain ⟨X, rfl, hX⟩ := hm
      exact ⟨ρ, h1, ⟨X, rfl, hX⟩, hS, h2⟩
    · cases h
    · split at h
      · rename_i v hv
        cases h
        have hm : u = .returning := hm
        subst hm
        obtain ⟨X, g1, g2⟩ := result_rel (P := P) hS hf hv
        exact ⟨X, g1, ρ, h1, ⟨X, rfl, g2⟩, hS, h2⟩
      · cases h
  | .mark k :: ds, D, s, w, ρ, m, u, h, h1, h2, hf, hS, hD, hm => by
    obtain ⟨x, Y, g1, rfl, g2⟩ := hD
    simp only [leaveE] at h
    split at h
    · rename_i hg
      obtain ⟨y, hy, hb, hO⟩ := hS.obj' hg g1
      rw [g1] at hy; cases hy
      have hO : w.heap[x.B]? = some (.deferred (some [])) := hO
      refine ⟨hm.run, .inl ⟨_, _, rfl, run_takeDeferred hO, ?_⟩⟩
      exact leave_sound hs fuel fn ds Y _ _ ρ m u h h1 (h2.trans (below_set hb rfl)) hf (hS.upd hg g1 (.dfr true) (.deferred none) rfl rfl) g2 hm
    · cases h
  | .call g a c :: ds, D, s, w, ρ, m, u, h, h1, h2, hf, hS, hD, hm => by
    obtain ⟨A1, C1, Y, rfl, q1, q2, q3⟩ := hD
    simp only [leaveE] at h
    cases hb : bodyOK P g with
    | false => rw [hb] at h; cases h
    | true =>
      rw [hb, cond_true] at h
      split at h
      · rename_i m1 s1 hd
        have hrun : (invoke (.fn (.func g) C1) A1).run P w = .ok (.enter g (A1 ++ C1)) w := by
          simp only [invoke]
          exact run_callFunc hb _
        refine ⟨hm.run, .inr ⟨fun hh => by simp [Fence.wide] at hh, .func g, C1, g, A1 ++ C1, rfl, hrun, fun _ _ => trivial, ?_⟩⟩
        refine def_sound hs fuel hd hS (by rw [lapp_eq, Array.toList_append]; exact q1.append q2) hm fun X u' w' ρ' g1 g2 g3 g4 => ?_
        exact leave_sound hs fuel fn ds Y s1 w' ρ' _ _ h (Env.le_trans h1 g1) (h2.trans g3) (hf.mono g1) g2 (q3.mono g1) g4.settle
      · cases h

theorem fn_sound (hs : SelfOK P self) (fuel : Nat) (g : FuncId) (args : List V) (s : St) (e : EEnd) (s' : St) (h : runFn P self fuel g args s = some (e, s')) (base : Nat) (ρ : Env) (w : World) (hS : SRel base ρ s w) (n : Nat)
    (A : Array Value) (hA : LRel ρ args A.toList) : CallsIn Fence.wide n P g A w (Post base ρ w e s') := by
  unfold runFn at h
  split at h
  · rename_i fn hfn
    split at h
    · rename_i c hc
      simp only [llen_eq] at h
      cases hb : (Nat.ble args.length fn.ntmps && Nat.ble fn.ntmps 4096) with
      | false => simp [hb] at h
      | true =>
      simp only [hb, Bool.not_true, cond_false] at h
      simp only [Bool.and_eq_true, Nat.ble_eq] at hb
      have hfr := mkFrm_rel hA hb.1 hb.2
      refine callsIn_of_wp_marks hfn hc trivial ?_
      have run : ∀ (e1 : EExit) (c1 : Cfg), runCode P self fuel none c ⟨mkFrm fn.ntmps args, [], s⟩ = some (e1, c1) →
          (∀ (E : Exit) (A1 : Act) (w1 : World), CPost base ρ w e1 c1 E A1 w1 → bodyPostM Fence.wide n P fn (Post base ρ w e s') E A1 w1) →
          c.wpIn Fence.wide n P (bodyPostM Fence.wide n P fn (Post base ρ w e s')) { tmps := A ++ Array.replicate (fn.ntmps - A.size) undef, defers := [] } w := by
        intro e1 c1 h1 h2
        exact wpIn_mono (F := RF none) (code_sound (r := none) (ro := none) hs fuel c _ _ _ h1 base ρ w ρ { tmps := _, defers := [] } w rfl ρ.le_refl (Below.refl _ _) ⟨hfr, rfl, hS⟩) h2
      split at h
      · rename_i c1 h1
        refine run _ _ h1 ?_
        rintro E A1 w1 ⟨ρ1, g1, g2, g3, g4, g5, g6⟩
        have g2 : E = .normal := g2
        subst g2
        exact leave_sound hs fuel fn _ _ _ _ ρ1 none .returning h g1 g6 (FRel.toA g3) g5 g4 rfl
      · rename_i c1 h1
        refine run _ _ h1 ?_
        rintro E A1 w1 ⟨ρ1, g1, g2, g3, g4, g5, g6⟩
        have g2 : E = .ret := g2
        subst g2
        exact leave_sound hs fuel fn _ _ _ _ ρ1 none .returning h g1 g6 (FRel.toA g3) g5 g4 rfl
      · rename_i v c1 h1
        refine run _ _ h1 ?_
        rintro E A1 w1 ⟨ρ1, g1, ⟨X, rfl, g2⟩, g3, g4, g5, g6⟩
        exact leave_sound hs fuel fn _ _ _ _ ρ1 (some (v, false)) _ h g1 g6 g3 g5 g4 ⟨X, rfl, g2⟩
      · cases h
    · cases h
  · cases h

theorem call_sound {known : ESelf} (hk : SelfOK P known) (fuel : Nat) : ∀ d, SelfOK P (callE P known fuel d)
  | 0 => fun t s e s' h => by
    have h : none = some (e, s') := h
    cases h
  | d + 1 => fun t s e s' h base ρ w hS n => by
    have h : (match known t s with
      | some r => some r
      | none => runT P (callE P known fuel d) fuel t s) = some (e, s') := h
    split at h
    · rename_i r hr
      cases h
      exact hk t s e s' hr base ρ w hS n
    · cases t with
      | fn g args => exact fun A hA => fn_sound (call_sound hk fuel d) fuel g args s e s' h base ρ w hS n A hA
      | round l args => exact fun x L A hx hL hA _ => round_sound (call_sound hk fuel d) fuel l args s e s' h base ρ w hS n x L A hx hL hA

theorem none_ok : SelfOK P (fun _ _ => none) := fun _ _ _ _ h => by cases h

def st0 : St := ⟨.leaf, 0⟩
theorem st0_get (b : Nat) (o : EObj) (h : st0.heap.get b = some o) : False := by
  have e : st0.heap.get b = none := T.get_leaf b
  rw [e] at h; cases h
def env0 : Env := ⟨fun _ => none, 0⟩
theorem st0_rel (w : World) : SRel w.heap.size env0 st0 w where
  le := Nat.le_refl _
  obj := fun b o x h => (st0_get b o h).elim
  inj := fun b b' o o' x x' h => (st0_get b o h).elim
  dom := fun b x h => by cases h
  top := Nat.le_refl _

theorem calls_of_eval {known : ESelf} (hk : SelfOK P known) {fuel d : Nat} {g : FuncId} {args : List V} {v : V} {s' : St} (h : callE P known fuel d (.fn g args) st0 = some (.ret v, s')) (w : World) {A : Array Value}
    (hA : LRel env0 args A.toList) : Calls P g A w fun E w' => ∃ ρ' X, E = .returned X ∧ VRel ρ' v X ∧ SRel w.heap.size ρ' s' w' ∧ Below w.heap.size w w' := by
  have := call_sound hk fuel d (.fn g args) st0 (.ret v) s' h w.heap.size _ w (st0_rel w) 0 A hA
  refine (callsIn_wide.1 this).mono ?_
  rintro E w' ⟨ρ', _, ⟨X, rfl, h1⟩, h2, h3⟩
  exact ⟨ρ', X, rfl, h1, h2, h3⟩
end
end Go.Eng
end

section
namespace Go.Eng
open Go.RowKit (Below)

mutual
def V.flat : V → Bool
  | .undef => true
  | .bool _ => true
  | .int _ _ => true
  | .str _ => true
  | .nilp => true
  | .nils => true
  | .nilm => true
  | .nilf => true
  | .nili => true
  | .iface _ v => v.flat
  | .agg l => flatL l
  | .tup l => flatL l
  | _ => false
def flatL : List V → Bool
  | [] => true
  | v :: l => v.flat && flatL l
end

mutual
theorem VRel.flat {ρ ρ' : Env} : ∀ (v : V) (W : Value), v.flat = true → VRel ρ v W → VRel ρ' v W
  | .undef, _, _, r => by simpa only [VRel] using r
  | .bool _, _, _, r => by simpa only [VRel] using r
  | .int _ _, _, _, r => by simpa only [VRel] using r
  | .str _, _, _, r => by simpa only [VRel] using r
  | .nilp, _, _, r => by simpa only [VRel] using r
  | .nils, _, _, r => by simpa only [VRel] using r
  | .nilm, _, _, r => by simpa only [VRel] using r
  | .nilf, _, _, r => by simpa only [VRel] using r
  | .nili, _, _, r => by simpa only [VRel] using r
  | .ptr .., _, h, _ => by simp only [V.flat] at h; cases h
  | .sl .., _, h, _ => by simp only [V.flat] at h; cases h
  | .map .., _, h, _ => by simp only [V.flat] at h; cases h
  | .yld .., _, h, _ => by simp only [V.flat] at h; cases h
  | .it .., _, h, _ => by simp only [V.flat] at h; cases h
  | .any, _, h, _ => by simp only [V.flat] at h; cases h
  | .slz _, _, h, _ => by simp only [V.flat] at h; cases h
  | .fn .., _, h, _ => by simp only [V.flat] at h; cases h
  | .iface t v, _, h, r => by
    simp only [V.flat] at h; simp only [VRel] at r ⊢; obtain ⟨X, h1, h2⟩ := r; exact ⟨X, h1, VRel.flat v _ h h2⟩
  | .agg l, _, h, r => by
    simp only [V.flat] at h; simp only [VRel] at r ⊢; obtain ⟨X, h1, h2⟩ := r; exact ⟨X, h1, LRel.flat l _ h h2⟩
  | .tup l, _, h, r => by
    simp only [V.flat] at h; simp only [VRel] at r ⊢; obtain ⟨X, h1, h2⟩ := r; exact ⟨X, h1, LRel.flat l _ h h2⟩
theorem LRel.flat {ρ ρ' : Env} : ∀ (l : List V) (W : List Value), flatL l = true → LRel ρ l W → LRel ρ' l W
  | [], _, _, r => by simpa only [LRel] using r
  | v :: l, _, h, r => by
    simp only [flatL, Bool.and_eq_true] at h
    simp only [LRel] at r ⊢; obtain ⟨X, Y, h1, h2, h3⟩ := r; exact ⟨X, Y, h1, VRel.flat v _ h.1 h2, LRel.flat l _ h.2 h3⟩
end

theorem SRel.grow {base : Nat} {ρ : Env} {s : St} {w w' : World} (h : SRel base ρ s w) (hb : Below w.heap.size w w') : SRel base ρ s w' where
  le := Nat.le_trans h.le hb.size
  obj := fun b o x hg hx => by
    obtain ⟨h2, h3⟩ := h.obj b o x hg hx
    refine ⟨h2, ?_⟩
    rw [hb.block _ (h.lt hg hx)]
    exact h3
  inj := h.inj
  dom := h.dom
  top := h.top

def known0 (g : FuncId) (v : V) : ESelf := fun t s => match t with
  | .fn f args => match args with
    | [] => bif Nat.beq f g then some (.ret v, s) else none
    | _ :: _ => none
  | .round _ _ => none

theorem known0_ok {P : Program} {g : FuncId} {v : V} (hv : v.flat = true)
    (h : ∀ w, Calls P g #[] w fun E w' => ∃ ρ X, E = .returned X ∧ VRel ρ v X ∧ Below w.heap.size w w') : SelfOK P (known0 g v) := by
  intro t s e s' hk base ρ w hS n
  cases t with
  | round l args => cases hk
  | fn f args =>
    cases args with
    | cons => cases hk
    | nil =>
      intro A hA
      have hA : A.toList = [] := hA
      have hA : A = #[] := by simpa using hA
      subst hA
      simp only [known0] at hk
      cases he : Nat.beq f g with
      | false => rw [he] at hk; cases hk
      | true =>
        rw [he] at hk
        have := Nat.eq_of_beq_eq_true he
        subst this
        cases hk
        refine callsIn_wide.2 ((h w).mono ?_)
        rintro E w' ⟨ρ', X, rfl, h1, h2⟩
        exact ⟨ρ, ρ.le_refl, ⟨X, rfl, VRel.flat _ _ hv h1⟩, hS.grow h2, h2.mono hS.le⟩

def knownOr (a b : ESelf) : ESelf := fun t s => match a t s with
  | some r => some r
  | none => b t s
theorem knownOr_ok {P : Program} {a b : ESelf} (ha : SelfOK P a) (hb : SelfOK P b) : SelfOK P (knownOr a b) := by
  intro t s e s' hk
  unfold knownOr at hk
  split at hk
  · rename_i r hr
    cases hk
    exact ha t s e s' hr
  · exact hb t s e s' hk

def isTrue : Option (EEnd × St) → Bool
  | some (.ret (.bool b), _) => b
  | _ => false
theorem calls_true {P : Program} {known : ESelf} (hk : SelfOK P known) {fuel d : Nat} {g : FuncId} (h : isTrue (callE P known fuel d (.fn g []) st0) = true) (w : World) :
    Calls P g #[] w fun E w' => E = .returned (.bool true) ∧ Below w.heap.size w w' := by
  cases hr : callE P known fuel d (.fn g []) st0 with
  | none => rw [hr] at h; cases h
  | some r =>
    obtain ⟨e, s'⟩ := r
    rw [hr] at h
    cases e with
    | pan v => cases h
    | ret v =>
      cases v with
      | bool b =>
        have hb : b = true := h
        subst hb
        refine (calls_of_eval hk hr w (A := #[]) rfl).mono ?_
        rintro E w' ⟨ρ, X, rfl, h1, _, h3⟩
        have h1 : X = .bool true := by simpa only [VRel] using h1
        exact ⟨by rw [h1], h3⟩
      | _ => cases h
end Go.Eng
end

section
namespace Go.Proofs.Ytjjebdfjmbnhpaa
open Go.Eng
open Go.RowKit (Below)

set_option maxRecDepth 4000 in
def tabNats : List Nat := [
  0, 4067132163, 3778769143, 324072436, 3348797215, 904991772, 648144872, 3570033899, 2329499855, 2024987596, 1809983544, 2575936315, 1296289744, 3207089363, 2893594407, 1578318884,
  274646895, 3795141740, 4049975192, 51262619, 3619967088, 632279923, 922689671, 3298075524, 2592579488, 1760304291, 2075979607, 2312596564, 1562183871, 2943781820, 3156637768, 1313733451,
  549293790, 3537243613, 3246849577, 871202090, 3878099393, 357341890, 102525238, 4101499445, 2858735121, 1477399826, 1264559846, 3107202533, 1845379342, 2677391885, 2361733625, 2125378298,
  820201905, 3263744690, 3520608582, 598981189, 4151959214, 85089709, 373468761, 3827903834, 3124367742, 1213305469, 1526817161, 2842354314, 2107672161, 2412447074, 2627466902, 1861252501,
  1098587580, 3004210879, 2688576843, 1378610760, 2262928035, 1955203488, 1742404180, 2511436119, 3416409459, 969524848, 714683780, 3639785095, 205050476, 4266873199, 3976438427, 526918040,
  1361435347, 2739821008, 2954799652, 1114974503, 2529119692, 1691668175, 2005155131, 2247081528, 3690758684, 697762079, 986182379, 3366744552, 476452099, 3993867776, 4250756596, 255256311,
  1640403810, 2477592673, 2164122517, 1922457750, 2791048317, 1412925310, 1197962378, 3037525897, 3944729517, 427051182, 170179418, 4165941337, 746937522, 3740196785, 3451792453, 1070968646,
  1905808397, 2213795598, 2426610938, 1657317369, 3053634322, 1147748369, 1463399397, 2773627110, 4215344322, 153784257, 444234805, 3893493558, 1021025245, 3467647198, 3722505002, 797665321,
  2197175160, 1889384571, 1674398607, 2443626636, 1164749927, 3070701412, 2757221520, 1446797203, 137323447, 4198817972, 3910406976, 461344835, 3484808360, 1037989803, 781091935, 3705997148,
  2460548119, 1623424788, 1939049696, 2180517859, 1429367560, 2807687179, 3020495871, 1180866812, 410100952, 3927582683, 4182430767, 186734380, 3756733383, 763408580, 1053836080, 3434856499,
  2722870694, 1344288421, 1131464017, 2971354706, 1708204729, 2545590714, 2229949006, 1988219213, 680717673, 3673779818, 3383336350, 1002577565, 4010310262, 493091189, 238226049, 4233660802,
  2987750089, 1082061258, 1395524158, 2705686845, 1972364758, 2279892693, 2494862625, 1725896226, 952904198, 3399985413, 3656866545, 731699698, 4283874585, 222117402, 510512622, 3959836397,
  3280807620, 837199303, 582374963, 3504198960, 68661723, 4135334616, 3844915500, 390545967, 1230274059, 3141532936, 2825850620, 1510247935, 2395924756, 2091215383, 1878366691, 2644384480,
  3553878443, 565732008, 854102364, 3229815391, 340358836, 3861050807, 4117890627, 119113024, 1493875044, 2875275879, 3090270611, 1247431312, 2660249211, 1828433272, 2141937292, 2378227087,
  3811616794, 291187481, 34330861, 4032846830, 615137029, 3603020806, 3314634738, 939183345, 1776939221, 2609017814, 2295496738, 2058945313, 2926798794, 1545135305, 1330124605, 3173225534,
  4084100981, 17165430, 307568514, 3762199681, 888469610, 3332340585, 3587147933, 665062302, 2042050490, 2346497209, 2559330125, 1793573966, 3190661285, 1279665062, 1595330642, 2910671697]
def u32V (n : Nat) : V := .int .u32 (.ofNat n)
def tabV : V := .agg (tabNats.map u32V)

def sameInts : List V → List Nat → Bool
  | [], [] => true
  | .int .u32 (.ofNat a) :: l, b :: m => bif Nat.beq a b then sameInts l m else false
  | _, _ => false
theorem sameInts_eq : ∀ {l : List V} {m : List Nat}, sameInts l m = true → l = m.map u32V
  | l, m, h => by
    unfold sameInts at h
    split at h
    · rfl
    · rename_i a l' b m'
      cases e : Nat.beq a b with
      | false => rw [e] at h; cases h
      | true =>
        rw [e] at h
        rw [Nat.eq_of_beq_eq_true e, sameInts_eq (l := l') (m := m') h]
        rfl
    · cases h
def isTab : Option (EEnd × St) → Bool
  | some (.ret (.agg l), _) => sameInts l tabNats
  | _ => false
theorem tab_run : isTab (callE Try.prog (fun _ _ => none) 300 9 (.fn 79 []) st0) = true := by kernel_rfl

theorem tab_calls (w : World) : Calls Try.prog 79 #[] w fun E w' => ∃ ρ X, E = .returned X ∧ VRel ρ tabV X ∧ Below w.heap.size w w' := by
  have h := tab_run
  cases hr : callE Try.prog (fun _ _ => none) 300 9 (.fn 79 []) st0 with
  | none => rw [hr] at h; cases h
  | some r =>
    obtain ⟨e, s'⟩ := r
    rw [hr] at h
    cases e with
    | pan v => cases h
    | ret v =>
      cases v with
      | agg l =>
        have hl : l = tabNats.map u32V := sameInts_eq h
        subst hl
        refine (calls_of_eval none_ok hr w (A := #[]) rfl).mono ?_
        rintro E w' ⟨ρ, X, rfl, h1, _, h3⟩
        exact ⟨ρ, X, rfl, h1, h3⟩
      | _ => cases h
theorem tab_flat : tabV.flat = true := by kernel_rfl
def knownTab : ESelf := known0 79 tabV
theorem knownTab_ok : SelfOK Try.prog knownTab := known0_ok tab_flat tab_calls
end Go.Proofs.Ytjjebdfjmbnhpaa
end

section
namespace Go.Crc

def poly : Nat := 0x82f63b78
def out (r : Nat) : Nat := (r / 2) ^^^ (if r % 2 = 1 then poly else 0)
def out8 (r : Nat) : Nat := out (out (out (out (out (out (out (out r)))))))

theorem xor_div2 (a b : Nat) : (a ^^^ b) / 2 = (a / 2) ^^^ (b / 2) := Nat.xor_div_two
theorem xor_mod2 (a b : Nat) : (a ^^^ b) % 2 = (a + b) % 2 := by
  have h : (a ^^^ b) % 2 = (a % 2) ^^^ (b % 2) := Nat.xor_mod_two_pow (n := 1)
  rw [h]
  rcases Nat.mod_two_eq_zero_or_one a with ha | ha <;> rcases Nat.mod_two_eq_zero_or_one b with hb | hb <;> rw [ha, hb]
  · show 0 = _; omega
  · show 1 = _; omega
  · show 1 = _; omega
  · show 0 = _; omega
theorem out_xor (a b : Nat) : out (a ^^^ b) = out a ^^^ out b := by
  unfold out
  rw [xor_div2]
  have h := xor_mod2 a b
  rcases Nat.mod_two_eq_zero_or_one a with ha | ha <;> rcases Nat.mod_two_eq_zero_or_one b with hb | hb
  · rw [if_neg (by omega), if_neg (by omega), if_neg (by omega)]; simp
  · rw [if_pos (by omega), if_neg (by omega), if_pos (by omega)]; simp [Nat.xor_assoc]
  · rw [if_pos (by omega), if_pos (by omega), if_neg (by omega)]
    simp only [Nat.xor_zero]
    rw [Nat.xor_assoc, Nat.xor_assoc, Nat.xor_comm (b / 2) poly]
  · rw [if_neg (by omega), if_pos (by omega), if_pos (by omega), Nat.xor_zero]
    rw [Nat.xor_assoc, Nat.xor_comm poly, Nat.xor_assoc (b / 2), Nat.xor_self, Nat.xor_zero]
theorem out8_xor (a b : Nat) : out8 (a ^^^ b) = out8 a ^^^ out8 b := by simp only [out8, out_xor]
theorem out_even (z : Nat) : out (2 * z) = z := by
  unfold out
  rw [if_neg (by omega), Nat.xor_zero]
  omega
theorem out8_high (y : Nat) : out8 (256 * y) = y := by
  have e : 256 * y = 2 * (2 * (2 * (2 * (2 * (2 * (2 * (2 * y))))))) := by omega
  rw [e]
  simp only [out8, out_even]
theorem split (x : Nat) : x = (256 * (x / 256)) ^^^ (x % 256) := by
  have h1 : x % 256 < 2 ^ 8 := Nat.mod_lt _ (by decide)
  have h2 := Nat.two_pow_add_eq_or_of_lt h1 (x / 256)
  have h3 : (256 * (x / 256)) ^^^ (x % 256) = 2 ^ 8 * (x / 256) ||| x % 256 := by
    apply Nat.eq_of_testBit_eq
    intro i
    rw [Nat.testBit_xor, Nat.testBit_or]
    rw [show 256 * (x / 256) = 2 ^ 8 * (x / 256) from rfl]
    rw [Nat.testBit_two_pow_mul]
    by_cases hi : 8 ≤ i
    · have : (x % 256).testBit i = false := Nat.testBit_lt_two_pow (Nat.lt_of_lt_of_le h1 (Nat.pow_le_pow_right (by decide) hi))
      simp [this]
    · simp [hi]
  rw [h3, ← h2]
  omega
theorem out8_split (x : Nat) : out8 x = (x / 256) ^^^ out8 (x % 256) := by
  conv => lhs; rw [split x]
  rw [out8_xor, out8_high]

def bitIn (r : Nat) (odd : Bool) : Nat := (r / 2) ^^^ (if odd then poly else 0)
def bitOf (b k : Nat) : Nat := b / 2 ^ k % 2
def stepB (b : Nat) (r k : Nat) : Nat := bitIn r (r % 2 != bitOf b k)
def byteB (r b : Nat) : Nat := [0, 1, 2, 3, 4, 5, 6, 7].foldl (stepB b) r
theorem stepB_out (r b k : Nat) : stepB b r k ^^^ (b / 2 ^ (k + 1)) = out (r ^^^ (b / 2 ^ k)) := by
  have h0 : b / 2 ^ (k + 1) = b / 2 ^ k / 2 := by rw [Nat.pow_succ, Nat.div_div_eq_div_mul]
  unfold stepB bitIn out bitOf
  rw [h0, xor_div2]
  generalize b / 2 ^ k = c
  have h := xor_mod2 r c
  have hb : (r % 2 != c % 2) = true ↔ (r ^^^ c) % 2 = 1 := by
    rw [h, bne_iff_ne]
    omega
  by_cases hc : (r ^^^ c) % 2 = 1
  · rw [if_pos hc, if_pos (hb.2 hc), Nat.xor_assoc, Nat.xor_comm poly, ← Nat.xor_assoc]
  · have : ¬ (r % 2 != c % 2) = true := fun e => hc (hb.1 e)
    rw [if_neg hc, if_neg this]
    simp
theorem byteB_out8 (r b : Nat) (hb : b < 256) : byteB r b = out8 (r ^^^ b) := by
  have e : ∀ r k, out (r ^^^ (b / 2 ^ k)) = stepB b r k ^^^ (b / 2 ^ (k + 1)) := fun r k => (stepB_out r b k).symm
  have z : b / 2 ^ 8 = 0 := Nat.div_eq_of_lt hb
  unfold out8
  rw [show r ^^^ b = r ^^^ (b / 2 ^ 0) by simp, e, e, e, e, e, e, e, e, z, Nat.xor_zero]
  rfl
def byteT (r b : Nat) : Nat := (r / 256) ^^^ out8 ((r % 256) ^^^ b)
theorem byteT_eq (r b : Nat) (hb : b < 256) : byteT r b = byteB r b := by
  rw [byteB_out8 r b hb, out8_split]
  have h1 : (r ^^^ b) / 256 = r / 256 := by
    rw [show (256 : Nat) = 2 ^ 8 from rfl, Nat.xor_div_two_pow, Nat.div_eq_of_lt (show b < 2 ^ 8 from hb), Nat.xor_zero]
  have h2 : (r ^^^ b) % 256 = (r % 256) ^^^ b := by
    rw [show (256 : Nat) = 2 ^ 8 from rfl, Nat.xor_mod_two_pow, Nat.mod_eq_of_lt (show b < 2 ^ 8 from hb)]
  rw [h1, h2, byteT]
theorem out_lt {r : Nat} (h : r < 4294967296) : out r < 4294967296 := by
  unfold out
  refine Nat.xor_lt_two_pow (n := 32) (show r / 2 < 2 ^ 32 by omega) ?_
  split
  · decide
  · decide
theorem out8_lt {r : Nat} (h : r < 4294967296) : out8 r < 4294967296 := by
  unfold out8
  exact out_lt (out_lt (out_lt (out_lt (out_lt (out_lt (out_lt (out_lt h)))))))
theorem byteT_lt {r b : Nat} (h : r < 4294967296) (hb : b < 256) : byteT r b < 4294967296 := by
  unfold byteT
  have h1 : (r % 256) ^^^ b < 2 ^ 8 := Nat.xor_lt_two_pow (Nat.mod_lt _ (by decide)) hb
  refine Nat.xor_lt_two_pow (n := 32) (show r / 256 < 2 ^ 32 by omega) (out8_lt (by omega))
end Go.Crc
end

section
namespace Go.Proofs.Ytjjebdfjmbnhpaa
open Go.RowKit Go.ChangeShapes Go.WideShapes

theorem zeroTab : (∀ w, (zeroValue 120).run Try.prog w = .ok (.agg (Array.replicate 256 (.int .u32 0))) w) ∧ (Try.prog.info? 120).map (·.size) = some 256 :=
  zero_of_info (by kernel_rfl)

theorem tab_arr {ρ : Eng.Env} {X : Value} (h : Eng.VRel ρ tabV X) : ∃ A : Array Value, X = .agg A ∧ (∀ (i n : Nat), tabNats[i]? = some n → A[i]? = some (.int .u32 n)) ∧ A.size = 256 ∧ A.all (·.oneCell') = true := by
  simp only [tabV, Eng.VRel] at h
  obtain ⟨A, rfl, h⟩ := h
  have hl := h.length
  have e : tabNats.length = 256 := by kernel_rfl
  simp only [List.length_map, Array.length_toList, e] at hl
  refine ⟨A, rfl, fun i n hi => ?_, hl.symm, ?_⟩
  · have := h.get (i := i) (v := u32V n) (by simp [hi])
    obtain ⟨X, h1, h2⟩ := this
    simp only [u32V, Eng.VRel] at h2
    subst h2
    simpa using h1
  · rw [Array.all_eq_true]
    intro i hi
    have hi' : i < tabNats.length := by rw [e]; omega
    obtain ⟨X, h1, h2⟩ := h.get (i := i) (v := u32V tabNats[i]) (by simp [hi'])
    simp only [u32V, Eng.VRel] at h2
    subst h2
    have : A[i] = .int .u32 tabNats[i] := by
      have h1 : A[i]? = some (Value.int .u32 ((tabNats[i] : Nat) : Int)) := by simpa using h1
      rw [Array.getElem?_eq_getElem hi] at h1
      exact Option.some.inj h1
    rw [this]
    rfl

theorem tabNats_eq : tabNats = (List.range 256).map Crc.out8 := by kernel_rfl
theorem tabNats_get {i : Nat} (h : i < 256) : tabNats[i]? = some (Crc.out8 i) := by
  rw [tabNats_eq, List.getElem?_map, List.getElem?_range h]; rfl
def sumT (r : Nat) (l : List UInt8) : Nat := l.foldl (fun r b => Crc.byteT r b.toNat) r
theorem sumT_lt : ∀ (l : List UInt8) {r : Nat}, r < 4294967296 → sumT r l < 4294967296
  | [], _, h => h
  | b :: l, _, h => sumT_lt l (Crc.byteT_lt h b.toNat_lt)
theorem sumT_snoc (l : List UInt8) (r : Nat) (b : UInt8) : sumT r (l ++ [b]) = Crc.byteT (sumT r l) b.toNat := by simp [sumT]
theorem take_snoc (s : ByteArray) (k : Nat) (h : k < s.size) : s.data.toList.take (k + 1) = s.data.toList.take k ++ [s[k]] := by
  rw [List.take_succ_eq_append_getElem (by simpa using h)]; rfl
def regAt (ss : Nat → ByteArray) : Nat → Nat
  | 0 => 4294967295
  | k + 1 => sumT (regAt ss k) (ss k).data.toList
theorem regAt_lt (ss : Nat → ByteArray) : ∀ k, regAt ss k < 4294967296
  | 0 => by simp [regAt]
  | k + 1 => sumT_lt _ (regAt_lt ss k)
theorem sum_end (s : ByteArray) (r j : Nat) (h : j = s.size) : sumT r (s.data.toList.take j) = sumT r s.data.toList := by
  rw [List.take_of_length_le (by simp [h])]

set_option maxRecDepth 100000 in
theorem sum_walk (b off len cap : Nat) (w : World) (ss : Nat → ByteArray) (hb : b < w.heap.size) (hc : ∀ k, k < len → w.cell? ⟨b, off + k, none⟩ = some (.string (ss k))) (hl : len ≤ 9223372036854775807)
    (hz : ∀ k, k < len → (ss k).size ≤ 9223372036854775807) :
    Calls Try.prog 57 #[.slice (some ⟨b, off, none⟩) len cap] w fun e w' => e = .returned (.int .u32 (4294967295 ^^^ regAt ss len : Nat)) ∧ Below w.heap.size w w' := by
  have hT := tab_calls
  have hZ := zeroTab.1
  go_enter Try.func57, Try.ntmps57
  go_wp2_with (go_at_call 79; refine (hT _).mono ?_; rintro e w1 ⟨ρ, X, rfl, hX, hw1⟩; obtain ⟨A, rfl, hA, hs, h1c⟩ := tab_arr hX; have hst := run_storeCells_new w1 120 (Array.replicate 256 (.int .u32 0)) A (by rw [hs]; exact zeroTab.2) (by simp [hs]) h1c)
  have hcell : ∀ k, k < len → (w1.alloc (.cells A 120)).cell? ⟨b, off + k, none⟩ = some (.string (ss k)) := fun k hk => by
    rw [(hw1.alloc hw1.size (.cells A 120)).cell hb]; exact hc k hk
  go_loop [4, 11] (fun r i => ∃ k : Nat, k ≤ len ∧ i = .int .i64 k ∧ r = .int .u32 (regAt ss k)) (fun _ i => len - (intOf i).toNat)
  case atStart => exact ⟨0, Nat.zero_le _, rfl, rfl⟩
  case round =>
    obtain ⟨k, hk, rfl, rfl⟩ := hrel
    have hck : k < len → (w1.alloc (.cells A 120)).cell? ⟨b, off + k, none⟩ = some (.string (ss k)) := hcell k
    go_wp2
    · have hlt : k < len := by assumption
      have hzk := hz k hlt
      go_loop [4, 17] (fun r i => ∃ j : Nat, j ≤ (ss k).size ∧ i = .int .i64 j ∧ r = .int .u32 (sumT (regAt ss k) ((ss k).data.toList.take j))) (fun _ i => (ss k).size - (intOf i).toNat)
      case atStart => exact ⟨0, Nat.zero_le _, rfl, rfl⟩
      case round =>
        obtain ⟨j, hj, rfl, rfl⟩ := hrel
        obtain ⟨R, hR⟩ : ∃ R, sumT (regAt ss k) ((ss k).data.toList.take j) = R := ⟨_, rfl⟩
        have HR : Hid (sumT (regAt ss k) ((ss k).data.toList.take j) = R) := hR
        rw [hR]
        clear hR
        have hx : ∀ h : j < (ss k).size, bits .xor .u8 ((R : Int) % 256) ((((ss k)[j]'h).toNat : Nat) : Int) = ((R % 256 ^^^ ((ss k)[j]'h).toNat : Nat) : Int) := fun h => by
          have := u8_xor_nat (R % 256) ((ss k)[j]'h).toNat (Nat.mod_lt _ (by decide)) (UInt8.toNat_lt _)
          simpa using this
        have hb8 : ∀ h : j < (ss k).size, R % 256 ^^^ ((ss k)[j]'h).toNat < 256 := fun h => Nat.xor_lt_two_pow (n := 8) (Nat.mod_lt _ (by decide)) (UInt8.toNat_lt _)
        have hA2 : ∀ h : j < (ss k).size, A[R % 256 ^^^ ((ss k)[j]'h).toNat]? = some (.int .u32 (Crc.out8 (R % 256 ^^^ ((ss k)[j]'h).toNat) : Nat)) := fun h => hA _ _ (tabNats_get (hb8 h))
        have hb9 : ∀ h : j < (ss k).size, R % 256 ^^^ ((ss k)[j]'h).toNat < A.size := fun h => by rw [hs]; exact hb8 h
        have hA3 : ∀ (h : j < (ss k).size) (h' : R % 256 ^^^ ((ss k)[j]'h).toNat < A.size), A[R % 256 ^^^ ((ss k)[j]'h).toNat]'h' = .int .u32 (Crc.out8 (R % 256 ^^^ ((ss k)[j]'h).toNat) : Nat) := fun h h' => by
          have := hA2 h
          rw [Array.getElem?_eq_getElem h'] at this
          exact Option.some.inj this
        clear hA2
        have hRlt : R < 4294967296 := by rw [← HR.out]; exact sumT_lt _ (regAt_lt ss k)
        have hx32 : ∀ h : j < (ss k).size, bits .xor .u32 ((R : Int) / 256) ((Crc.out8 (R % 256 ^^^ ((ss k)[j]'h).toNat) : Nat) : Int) = ((R / 256 ^^^ Crc.out8 (R % 256 ^^^ ((ss k)[j]'h).toNat) : Nat) : Int) := fun h => by
          have := u32_xor_nat (R / 256) (Crc.out8 (R % 256 ^^^ ((ss k)[j]'h).toNat)) (by omega) (Crc.out8_lt (by have := hb8 h; omega))
          simpa using this
        go_wp2
        · have hlt : j < (ss k).size := by assumption
          refine ⟨⟨j + 1, by omega, by go_num, ?_⟩, by simp [intOf]; omega⟩
          rw [take_snoc (ss k) j hlt, sumT_snoc, HR.out]
          rfl
        · exfalso
          have := hb8 (by assumption)
          first | omega | contradiction | (rename_i hh; exact absurd this hh) | (rename_i hh _; exact absurd this hh)
        · have hge : ¬ j < (ss k).size := by assumption
          refine ⟨⟨k + 1, by omega, by go_num, ?_⟩, by simp [intOf]; omega⟩
          rw [← HR.out, sum_end (ss k) _ j (by omega)]
          rfl
    · have hge : ¬ k < len := by assumption
      have hkl : k = len := by omega
      subst hkl
      have hmax : bits .xor .u32 IntKind.u32.max ((regAt ss k : Nat) : Int) = ((4294967295 ^^^ regAt ss k : Nat) : Int) := by
        have := u32_xor_nat 4294967295 (regAt ss k) (by omega) (regAt_lt ss k)
        simpa [IntKind.max, IntKind.signed, IntKind.bits] using this
      rw [hmax]
      go_ret
      exact ⟨rfl, hw1.alloc hw1.size _⟩
end Go.Proofs.Ytjjebdfjmbnhpaa
end

section
namespace Go.Proofs.Ytjjebdfjmbnhpaa
open Go.Sym
open Go.RowKit (Below)
set_option linter.unusedVariables false
set_option linter.unusedSimpArgs false

noncomputable def sumX : List ByteArray → Int := hide fun l => ((4294967295 ^^^ regAt (fun k => l.getD k ⟨#[]⟩) l.length : Nat) : Int)
theorem sumX_eq' (l : List ByteArray) : sumX l = ((4294967295 ^^^ regAt (fun k => l.getD k ⟨#[]⟩) l.length : Nat) : Int) := by rw [sumX, hide_eq]
theorem sum_at (x y : ByteArray) (hx : x.size ≤ 9223372036854775807) (hy : y.size ≤ 9223372036854775807) : PureAt Try.prog 57 [.lst [.str] ([x, y] : List ByteArray) false] (.int .u32 (sumX [x, y])) := by
  intro φ w A hφ hA
  obtain ⟨X, Y, e1, h1, e3⟩ := hA
  have e3 : Y = [] := e3
  subst e3
  have hAA : A = #[X] := by cases A; simp at e1; simp [e1]
  subst hAA
  simp only [VRel] at h1
  obtain ⟨a, c, rfl, c1, c2, c3, c4⟩ := h1
  obtain ⟨B, o, rfl, hr⟩ := c4 (by show 0 < 2; decide)
  have hcell : ∀ k, k < 2 → w.cell? ⟨B, o + k, none⟩ = some (.string (([x, y] : List ByteArray).getD k ⟨#[]⟩)) := fun k hk => by
    have h := hr k (by exact hk)
    obtain ⟨X, g1, g2⟩ := h
    have g1 : φ B (o + (k * 1 + 0)) = some X := g1
    rw [Nat.mul_one, Nat.add_zero] at g1
    have g2 : X = .string (([x, y] : List ByteArray).getD k ⟨#[]⟩) := by
      match k, hk with
      | 0, _ =>
        have g3 : X = .string (Sym.rowAt [Ty.str] ([x, y] : List ByteArray) 0) := by simpa only [TRel] using g2
        exact g3
      | 1, _ =>
        have g3 : X = .string (Sym.rowAt [Ty.str] ([x, y] : List ByteArray) 1) := by simpa only [TRel] using g2
        exact g3
    rw [hφ _ _ _ g1, g2]
  have hlt : B < w.heap.size := Nat.lt_of_not_le fun hh => by
    have := hcell 0 (by decide)
    simp [World.cell?, Array.getElem?_eq_none hh] at this
  refine (sum_walk B o 2 c w (fun k => ([x, y] : List ByteArray).getD k ⟨#[]⟩) hlt hcell (by omega) (fun k hk => ?_)).mono ?_
  · match k, hk with
    | 0, _ => exact hx
    | 1, _ => exact hy
  rintro E w' ⟨rfl, hB⟩
  refine ⟨φ, _, rfl, fun _ _ _ h => h, fun _ _ _ => rfl, fun B k u hu => ?_, ?_, hB⟩
  · have hc := hφ B k u hu
    have hlt : B < w.heap.size := Nat.lt_of_not_le fun hh => by simp [World.cell?, Array.getElem?_eq_none hh] at hc
    rw [cell_of_block (h := hB.block B hlt)]
    exact hc
  · simp only [VRel]
    rw [sumX_eq']
    rfl
noncomputable def sumF (args : List V) : Option (List Bool × V) := match args with
  | [a] => (match ofLst [.str] a with
    | some L => (match (L : List ByteArray) with
      | [x, y] => some ([decide (x.size ≤ 9223372036854775807), decide (y.size ≤ 9223372036854775807)], .int .u32 (sumX [x, y]))
      | _ => none)
    | none => none)
  | _ => none
theorem sumF_ok (args : List V) (c : List Bool) (v : V) (h : sumF args = some (c, v)) (hc : allB c) : PureAt Try.prog 57 args v := by
  unfold sumF at h
  split at h
  · rename_i a
    split at h
    · rename_i L hL
      split at h
      · rename_i x y
        cases h
        exact (sum_at x y (of_decide_eq_true hc.1) (of_decide_eq_true hc.2.1)).lst0 hL
      · cases h
    · cases h
  · cases h
theorem pure_of_GK {P : Program} {kw : KnW} {known : ESelf} (hk : SelfOK P known) (ha : AdK kw known) (hn : NoK kw known) {fuel d : Nat} {g : FuncId} {args : List V} {v : V} (gs : List GL) (hg : GLok P gs) (ls : List LpD) (hls : ∀ n, ∀ l ∈ ls, l.ok P n 0 (bodyOf P g))
    (h : fnLW P (callLW P kw fuel (glW gs) d) fuel (lpsW 0 ls) g args s0 (RetW v)) : PureAt P g args v := by
  obtain ⟨e, s', h1, h2⟩ := fnLW_ad (callLW_ad ha hn fuel (glW_ad gs) d) fuel (lps_ad 0 ls) g args s0 _ h
  exact pure_of_run (tab := noTab) noTab_ok (callL_sound hk fuel (gl_ok hg) d) (fun fn c n hf hc => by
    have hb : bodyOf P g = c := by simp only [bodyOf, hf, hc]
    rw [← hb]
    exact lps_ok (hls n)) h1 h2
end Go.Proofs.Ytjjebdfjmbnhpaa
end

section
namespace Go.Sym
set_option linter.unusedVariables false

noncomputable section
mutual
@[reducible] def pairV : V → V → List (Nat × Nat)
  | .ptr b _, w => (match w with
    | .ptr c _ => [(b, c)]
    | _ => [])
  | .rptr b _ _ _, w => (match w with
    | .rptr c _ _ _ => [(b, c)]
    | _ => [])
  | .sl b _ _ _ _ _, w => (match w with
    | .sl c _ _ _ _ _ => [(b, c)]
    | _ => [])
  | .rs b _ _ _ _ _, w => (match w with
    | .rs c _ _ _ _ _ => [(b, c)]
    | _ => [])
  | .map b, w => (match w with
    | .map c => [(b, c)]
    | _ => [])
  | .yld b, w => (match w with
    | .yld c => [(b, c)]
    | _ => [])
  | .iface _ v, w => (match w with
    | .iface _ u => pairV v u
    | _ => [])
  | .agg l, w => (match w with
    | .agg m => pairL l m
    | _ => [])
  | .tup l, w => (match w with
    | .tup m => pairL l m
    | _ => [])
  | .fn _ a c, w => (match w with
    | .fn _ a' c' => pairL a a' ++ pairL c c'
    | _ => [])
  | _, _ => []
@[reducible] def pairL : List V → List V → List (Nat × Nat)
  | [], _ => []
  | v :: l, m => (match m with
    | w :: m => pairV v w ++ pairL l m
    | [] => [])
end
@[reducible] def pairS (f : Frm) (l : List (Nat × V)) : List (Nat × Nat) := @List.rec (Nat × V) (fun _ => List (Nat × Nat)) [] (fun e _ ih => @Prod.rec Nat V (fun _ => List (Nat × Nat)) (fun k v => lapp (pairV v (f.get k)) ih) e) l
@[reducible] def objN (b : Nat) : List (Nat × EObj) → Option EObj
  | [] => none
  | (k, x) :: l => bif Nat.beq k b then some x else objN b l
@[reducible] def pairOb : Option EObj → Option EObj → List (Nat × Nat)
  | some (.cells cs _ _), o => (match o with
    | some (.cells ds _ _) => pairL cs ds
    | _ => [])
  | some (.loop r), o => (match o with
    | some (.loop q) => [(r.defers, q.defers)]
    | _ => [])
  | _, _ => []
@[reducible] def seenN (b : Nat) : List (Nat × Nat) → Bool
  | [] => false
  | e :: l => bif Nat.beq e.1 b then true else seenN b l
@[reducible] def growM (h : List (Nat × EObj)) (h1 : T EObj) (n : Nat) : List (Nat × Nat) → List (Nat × Nat) → List (Nat × Nat) :=
  @Nat.rec (fun _ => List (Nat × Nat) → List (Nat × Nat) → List (Nat × Nat)) (fun _ acc => acc)
    (fun _ ih pend acc => @List.rec (Nat × Nat) (fun _ => List (Nat × Nat)) acc (fun e l _ => @Bool.rec (fun _ => List (Nat × Nat))
      (@Option.rec EObj (fun _ => List (Nat × Nat)) (ih l acc) (fun o => ih (lapp (pairOb (objN e.1 h) (some o)) l) (lapp acc [e])) (h1.get e.2)) (ih l acc) (seenN e.1 acc)) pend) n
@[reducible] def idK (k : Nat) (l : List (Nat × EObj)) : List (Nat × Nat) := @List.rec (Nat × EObj) (fun _ => List (Nat × Nat)) [] (fun e _ ih => @Prod.rec Nat EObj (fun _ => List (Nat × Nat)) (fun b _ => @Bool.rec (fun _ => List (Nat × Nat)) ih ((b, b) :: ih) (Nat.blt b k)) e) l
@[reducible] def autoM (k : Nat) (c : CD) (c1 : Cfg) : List (Nat × Nat) := growM c.h c1.st.heap 60 (lapp (idK k c.h) (pairS c1.tmps c.l)) []
@[reducible] def keepM (k : Nat) (l : List (Nat × Nat)) : List (Nat × Nat) := @List.rec (Nat × Nat) (fun _ => List (Nat × Nat)) [] (fun e _ ih => @Bool.rec (fun _ => List (Nat × Nat)) (e :: ih) ih (Nat.blt e.1 k)) l
end
theorem seg_len {α : Type} (L : List α) (lo len : Nat) : (seg L lo len).length = min (lo + len) L.length - lo := by
  unfold seg
  rw [List.length_drop, List.length_take]
theorem rowAt_one (k : IntKind) (x : Int) : @Eq Int (rowAt [.int k] ([x] : List Int) 0) x := rfl
theorem rowAt_oneS (x : ByteArray) : @Eq ByteArray (rowAt [.str] ([x] : List ByteArray) 0) x := rfl
theorem rowAt_oneB (x : Bool) : @Eq Bool (rowAt [.bool] ([x] : List Bool) 0) x := rfl
theorem bs_app (a b : ByteArray) : (a ++ b).size = a.size + b.size := ByteArray.size_append
theorem strOf_size (l : List Int) : (strOf l).size = l.length := by
  unfold strOf
  show (l.map fun n => UInt8.ofNat n.toNat).toArray.size = _
  rw [List.size_toArray, List.length_map]
theorem bytesL_len (s : ByteArray) : (bytesL s).length = s.size := by
  unfold bytesL
  rw [List.length_map, Array.length_toList]; rfl
theorem andB_room {n b : Nat} {q : Prop} (hb : Nat.ble b 65536 = true) (hn : n ≤ 1000000000) (k : q) : @Bool.rec (fun _ => Prop) False q (decide ((2 * n + 768) * b ≤ 281474976710656)) := by
  refine andB_d ?_ k
  have h1 : b ≤ 65536 := Nat.le_of_ble_eq_true hb
  have h2 := Nat.mul_le_mul (show 2 * n + 768 ≤ 2000000768 by omega) h1
  omega
theorem iteB_ct {b c : Bool} {p q : Prop} (k : @Bool.rec (fun _ => Prop) q p b) : @Bool.rec (fun _ => Prop) q p (bif true then b else c) := k
theorem iteB_cf {b c : Bool} {p q : Prop} (k : @Bool.rec (fun _ => Prop) q p c) : @Bool.rec (fun _ => Prop) q p (bif false then b else c) := k
theorem iteB_bt {b : Bool} {p q : Prop} (k : @Bool.rec (fun _ => Prop) q p b) : @Bool.rec (fun _ => Prop) q p (true == b) := by cases b <;> exact k
theorem iteB_bf {b : Bool} {p q : Prop} (k : @Bool.rec (fun _ => Prop) p q b) : @Bool.rec (fun _ => Prop) q p (false == b) := by cases b <;> exact k
theorem iteB_tb {b : Bool} {p q : Prop} (k : @Bool.rec (fun _ => Prop) q p b) : @Bool.rec (fun _ => Prop) q p (b == true) := by cases b <;> exact k
theorem iteB_fb {b : Bool} {p q : Prop} (k : @Bool.rec (fun _ => Prop) p q b) : @Bool.rec (fun _ => Prop) q p (b == false) := by cases b <;> exact k
theorem CD.wk_au {k : Nat} {c : CD} {c1 : Cfg} (h : forceM (keepM k (autoM k c c1)) fun m => c.wk k m c1) : ∃ m, c.wk k m c1 := ⟨_, (forceM_iff _ _).1 h⟩
end Go.Sym
end

section
namespace Go.Proofs.Ytjjebdfjmbnhpaa
open Go.RowKit Go.ChangeShapes Go.WideShapes

def crcL (l : List UInt8) : Nat := 4294967295 ^^^ sumT 4294967295 l
theorem crcL_lt (l : List UInt8) : crcL l < 4294967296 := Nat.xor_lt_two_pow (n := 32) (by decide) (sumT_lt l (by decide))
theorem and1 (x : Nat) (h : x < 4294967296) : bits .and .u32 (x : Int) 1 = ((x % 2 : Nat) : Int) := by
  have := u32_and_nat x 1 h (by omega)
  rw [Nat.and_one_is_mod] at this
  simpa using this
theorem bit_m (b m : Nat) (hb : b < 256) : ((b : Int) / 2 ^ m % 4294967296) = ((b / 2 ^ m : Nat) : Int) := by
  have h1 : ((b / 2 ^ m : Nat) : Int) = (b : Int) / 2 ^ m := by simp
  have h2 : b / 2 ^ m ≤ b := Nat.div_le_self _ _
  rw [← h1]
  generalize b / 2 ^ m = c at h2
  exact Int.emod_eq_of_lt (Int.natCast_nonneg _) (by omega)
theorem odd_eq (r b m : Nat) (hr : r < 4294967296) (hb : b < 256) : (bits .and .u32 (r : Int) 1 != bits .and .u32 ((b : Int) / 2 ^ m % 4294967296) 1) = (r % 2 != Crc.bitOf b m) := by
  have h2 : b / 2 ^ m ≤ b := Nat.div_le_self _ _
  rw [bit_m b m hb, and1 r hr, and1 _ (by omega), Bool.eq_iff_iff]
  simp only [bne_iff_ne, ne_eq, Crc.bitOf]
  omega
theorem stepB_lt {b r m : Nat} (h : r < 4294967296) : Crc.stepB b r m < 4294967296 := by
  unfold Crc.stepB Crc.bitIn
  refine Nat.xor_lt_two_pow (n := 32) (show r / 2 < 2 ^ 32 by omega) ?_
  split
  · decide
  · decide
theorem foldB_lt {b : Nat} : ∀ (l : List Nat) {r : Nat}, r < 4294967296 → l.foldl (Crc.stepB b) r < 4294967296
  | [], _, h => h
  | _ :: l, _, h => foldB_lt l (stepB_lt h)
theorem range_snoc (b R m : Nat) : (List.range (m + 1)).foldl (Crc.stepB b) R = Crc.stepB b ((List.range m).foldl (Crc.stepB b) R) m := by
  rw [List.range_succ, List.foldl_append]
  rfl
theorem xorP (r : Nat) (h : r < 4294967296) : bits .xor .u32 ((r : Int) / 2) 2197175160 = ((r / 2 ^^^ 2197175160 : Nat) : Int) := by
  have := u32_xor_nat (r / 2) 2197175160 (by omega) (by omega)
  simpa using this
theorem ret_int {k : IntKind} {a b : Int} (h : a = b) : Ending.returned (.int k a) = .returned (.int k b) := by rw [h]

set_option maxRecDepth 100000 in
theorem ref_sum (s : ByteArray) (w : World) (hs : s.size ≤ 100000) :
    Calls Try.prog 59 #[.string s] w fun e w' => e = .returned (.int .u32 (crcL s.data.toList : Nat)) ∧ w = w' := by
  go_enter Try.func59, Try.ntmps59
  go_wp2
  go_loop [3, 4] (fun r i => ∃ k : Nat, k ≤ s.size ∧ i = .int .i64 k ∧ r = .int .u32 (sumT 4294967295 (s.data.toList.take k))) (fun _ i => s.size - (intOf i).toNat)
  case atStart => exact ⟨0, Nat.zero_le _, rfl, rfl⟩
  case round =>
    obtain ⟨k, hk, rfl, rfl⟩ := hrel
    go_wp2
    · have hlt : k < s.size := by assumption
      obtain ⟨R, hR⟩ : ∃ R, sumT 4294967295 (s.data.toList.take k) = R := ⟨_, rfl⟩
      have HR := Lib.hid hR
      rw [hR]
      clear hR
      obtain ⟨b, hb⟩ : ∃ b, s[k].toNat = b := ⟨_, rfl⟩
      have hb256 : b < 256 := by rw [← hb]; exact UInt8.toNat_lt _
      have HB := Lib.hid hb
      go_loop [3, 5] (fun r j => ∃ m : Nat, m ≤ 8 ∧ j = .int .i64 m ∧ r = .int .u32 (((List.range m).foldl (Crc.stepB b) R : Nat) : Int)) (fun _ j => 8 - (intOf j).toNat)
      case atStart => exact ⟨0, Nat.zero_le _, rfl, rfl⟩
      case round =>
        obtain ⟨m, hm, rfl, rfl⟩ := hrel
        obtain ⟨r, hr⟩ : ∃ r, (List.range m).foldl (Crc.stepB b) R = r := ⟨_, rfl⟩
        have Hr := Lib.hid hr
        rw [hr]
        clear hr
        have hrl : r < 4294967296 := by
          rw [← Hr.out]; refine foldB_lt _ ?_; rw [← HR.out]; exact sumT_lt _ (by decide)
        have HO := Lib.hid (odd_eq r b m hrl hb256)
        go_wp2
        · refine ⟨⟨m + 1, by omega, by go_num, ?_⟩, by simp [intOf]; omega⟩
          rename_i hodd
          rw [HO.out] at hodd
          rw [range_snoc, Hr.out, Crc.stepB, Crc.bitIn, if_pos hodd, xorP r hrl]
          rfl
        · refine ⟨⟨m + 1, by omega, by go_num, ?_⟩, by simp [intOf]; omega⟩
          rename_i hodd
          rw [HO.out] at hodd
          rw [range_snoc, Hr.out, Crc.stepB, Crc.bitIn, hodd, if_neg (by decide), Nat.xor_zero]
          go_num
        · have h8 : m = 8 := by omega
          subst h8
          refine ⟨⟨k + 1, by omega, by go_num, ?_⟩, by simp [intOf]; omega⟩
          rw [take_snoc s k hlt, sumT_snoc, HR.out, Crc.byteT_eq _ _ (UInt8.toNat_lt _), HB.out, ← Hr.out]
          rfl
    · have hge : ¬ k < s.size := by assumption
      have hmax : bits .xor .u32 IntKind.u32.max ((sumT 4294967295 (s.data.toList.take k) : Nat) : Int) = ((4294967295 ^^^ sumT 4294967295 (s.data.toList.take k) : Nat) : Int) := by
        have := u32_xor_nat 4294967295 (sumT 4294967295 (s.data.toList.take k)) (by omega) (sumT_lt _ (by decide))
        simpa [IntKind.max, IntKind.signed, IntKind.bits] using this
      rw [hmax]
      go_ret
      exact ⟨ret_int (by rw [crcL, sum_end s _ k (by omega)]), rfl⟩

end Go.Proofs.Ytjjebdfjmbnhpaa
end

section
namespace Go.Proofs.Ytjjebdfjmbnhpaa
open Go.Sym
set_option linter.unusedVariables false
set_option linter.unusedSimpArgs false
set_option maxRecDepth 100000
set_option maxHeartbeats 4000000

noncomputable def fourH : Int → ByteArray := hide fun x => strOf [x % 256, x / 256 % 256, x / 65536 % 256, x / 16777216 % 256]
theorem fourH_eq (x : Int) : fourH x = strOf [x % 256, x / 256 % 256, x / 65536 % 256, x / 16777216 % 256] := by rw [fourH, hide_eq]
theorem fourH_size (x : Int) : (fourH x).size = 4 := by rw [fourH_eq]; rfl
theorem four_at (x : Int) : PureAt Try.prog 56 [.int .u32 x] (.str (fourH x)) := by
  rw [fourH_eq]
  refine pure_of_W0 (tab := noTab) (fuel := 3) (d := 4) noTab_ok ?_
  repeat' (conv => whnf
           first | (with_reducible exact True.intro) | (with_reducible rfl) | (with_reducible exact castL_self _ _) | ((with_reducible refine V.same_t ?_); exact rfl) | (with_reducible refine iteB_n ?_) | (with_reducible refine iteB_ct ?_) | (with_reducible refine iteB_cf ?_) | (with_reducible refine iteB_bt ?_) | (with_reducible refine iteB_bf ?_) | (with_reducible refine iteB_tb ?_) | (with_reducible refine iteB_fb ?_) | ((with_reducible refine andB_room ?_ ?_ ?_); (· kernel_rfl); (· (first | omega | (simp only [castL_self, seg_len, rowAt_one, rowAt_oneS, List.length_append, List.length_cons, List.length_nil, List.length_drop, List.length_take, List.length_eraseIdx, List.length_replicate, ByteArray.size_extract, bs_app, strOf_size, bytesL_len, maxI_eq] <;> omega)))) | ((first | (with_reducible refine andB_in ?_ ?_) | (with_reducible refine andB_d ?_ ?_) | (with_reducible refine andB_lt ?_ ?_) | (with_reducible refine andB_le ?_ ?_)); · (first | (with_reducible assumption) | (first | omega | (simp only [castL_self, seg_len, rowAt_one, rowAt_oneS, List.length_append, List.length_cons, List.length_nil, List.length_drop, List.length_take, List.length_eraseIdx, List.length_replicate, ByteArray.size_extract, bs_app, strOf_size, bytesL_len, maxI_eq] <;> omega)))) | ((first | (with_reducible refine iteB_ltt ?_ ?_) | (with_reducible refine iteB_let ?_ ?_) | (with_reducible refine iteB_dt ?_ ?_)); · (first | (with_reducible assumption) | (first | omega | (simp only [castL_self, seg_len, rowAt_one, rowAt_oneS, List.length_append, List.length_cons, List.length_nil, List.length_drop, List.length_take, List.length_eraseIdx, List.length_replicate, ByteArray.size_extract, bs_app, strOf_size, bytesL_len, maxI_eq] <;> omega)))) | ((first | (with_reducible refine iteB_ltf ?_ ?_) | (with_reducible refine iteB_lef ?_ ?_) | (with_reducible refine iteB_df ?_ ?_)); · (first | (with_reducible assumption) | (first | omega | (simp only [castL_self, seg_len, rowAt_one, rowAt_oneS, List.length_append, List.length_cons, List.length_nil, List.length_drop, List.length_take, List.length_eraseIdx, List.length_replicate, ByteArray.size_extract, bs_app, strOf_size, bytesL_len, maxI_eq] <;> omega)))) | ((first | (with_reducible refine andB_i ?_ ?_) | (with_reducible refine iteB_t ?_ ?_)); · (first | (with_reducible assumption) | (with_reducible exact decide_eq_true rfl) | (with_reducible exact sEq_self _) | ((with_reducible refine eqOK_i ?_); kernel_rfl))) | ((with_reducible refine iteB_f ?_ ?_); · (first | (with_reducible assumption) | (with_reducible exact decide_eq_true rfl) | (with_reducible exact sEq_self _) | ((with_reducible refine eqOK_i ?_); kernel_rfl))) | (with_reducible refine andB_in ?_ ?_) | (with_reducible refine andB_lt ?_ ?_) | (with_reducible refine andB_le ?_ ?_) | (with_reducible refine andB_d ?_ ?_) | (with_reducible refine andB_i ?_ ?_) | (with_reducible refine iteB_lts (fun hB => ?_) (fun hB => ?_)) | (with_reducible refine iteB_les (fun hB => ?_) (fun hB => ?_)) | (with_reducible refine iteB_ds (fun hB => ?_) (fun hB => ?_)) | (with_reducible refine iteB_s (fun hB => ?_) (fun hB => ?_)) | (with_reducible refine CD.wk_as ?_) | (with_reducible refine And.intro ?_ ?_))
  all_goals (conv => whnf)
  all_goals (try dsimp only)
  all_goals (try simp only [Nat.succ_eq_add_one, Nat.le_eq, castL_self])
  all_goals (try omega)
  all_goals (try (simp only [castL_self, seg_len, rowAt_one, rowAt_oneS, List.length_append, List.length_cons, List.length_nil, List.length_drop, List.length_take, List.length_eraseIdx, List.length_replicate, ByteArray.size_extract, bs_app, strOf_size, bytesL_len, maxI_eq] <;> omega))
  all_goals rfl
theorem reffour_at (x : Int) : PureAt Try.prog 58 [.int .u32 x] (.str (fourH x)) := by
  rw [fourH_eq]
  refine pure_of_W0 (tab := noTab) (fuel := 3) (d := 4) noTab_ok ?_
  repeat' (conv => whnf
           first | (with_reducible exact True.intro) | (with_reducible rfl) | (with_reducible exact castL_self _ _) | ((with_reducible refine V.same_t ?_); exact rfl) | (with_reducible refine iteB_n ?_) | (with_reducible refine iteB_ct ?_) | (with_reducible refine iteB_cf ?_) | (with_reducible refine iteB_bt ?_) | (with_reducible refine iteB_bf ?_) | (with_reducible refine iteB_tb ?_) | (with_reducible refine iteB_fb ?_) | ((with_reducible refine andB_room ?_ ?_ ?_); (· kernel_rfl); (· (first | omega | (simp only [castL_self, seg_len, rowAt_one, rowAt_oneS, List.length_append, List.length_cons, List.length_nil, List.length_drop, List.length_take, List.length_eraseIdx, List.length_replicate, ByteArray.size_extract, bs_app, strOf_size, bytesL_len, maxI_eq] <;> omega)))) | ((first | (with_reducible refine andB_in ?_ ?_) | (with_reducible refine andB_d ?_ ?_) | (with_reducible refine andB_lt ?_ ?_) | (with_reducible refine andB_le ?_ ?_)); · (first | (with_reducible assumption) | (first | omega | (simp only [castL_self, seg_len, rowAt_one, rowAt_oneS, List.length_append, List.length_cons, List.length_nil, List.length_drop, List.length_take, List.length_eraseIdx, List.length_replicate, ByteArray.size_extract, bs_app, strOf_size, bytesL_len, maxI_eq] <;> omega)))) | ((first | (with_reducible refine iteB_ltt ?_ ?_) | (with_reducible refine iteB_let ?_ ?_) | (with_reducible refine iteB_dt ?_ ?_)); · (first | (with_reducible assumption) | (first | omega | (simp only [castL_self, seg_len, rowAt_one, rowAt_oneS, List.length_append, List.length_cons, List.length_nil, List.length_drop, List.length_take, List.length_eraseIdx, List.length_replicate, ByteArray.size_extract, bs_app, strOf_size, bytesL_len, maxI_eq] <;> omega)))) | ((first | (with_reducible refine iteB_ltf ?_ ?_) | (with_reducible refine iteB_lef ?_ ?_) | (with_reducible refine iteB_df ?_ ?_)); · (first | (with_reducible assumption) | (first | omega | (simp only [castL_self, seg_len, rowAt_one, rowAt_oneS, List.length_append, List.length_cons, List.length_nil, List.length_drop, List.length_take, List.length_eraseIdx, List.length_replicate, ByteArray.size_extract, bs_app, strOf_size, bytesL_len, maxI_eq] <;> omega)))) | ((first | (with_reducible refine andB_i ?_ ?_) | (with_reducible refine iteB_t ?_ ?_)); · (first | (with_reducible assumption) | (with_reducible exact decide_eq_true rfl) | (with_reducible exact sEq_self _) | ((with_reducible refine eqOK_i ?_); kernel_rfl))) | ((with_reducible refine iteB_f ?_ ?_); · (first | (with_reducible assumption) | (with_reducible exact decide_eq_true rfl) | (with_reducible exact sEq_self _) | ((with_reducible refine eqOK_i ?_); kernel_rfl))) | (with_reducible refine andB_in ?_ ?_) | (with_reducible refine andB_lt ?_ ?_) | (with_reducible refine andB_le ?_ ?_) | (with_reducible refine andB_d ?_ ?_) | (with_reducible refine andB_i ?_ ?_) | (with_reducible refine iteB_lts (fun hB => ?_) (fun hB => ?_)) | (with_reducible refine iteB_les (fun hB => ?_) (fun hB => ?_)) | (with_reducible refine iteB_ds (fun hB => ?_) (fun hB => ?_)) | (with_reducible refine iteB_s (fun hB => ?_) (fun hB => ?_)) | (with_reducible refine CD.wk_as ?_) | (with_reducible refine And.intro ?_ ?_))
  all_goals (conv => whnf)
  all_goals (try dsimp only)
  all_goals (try simp only [Nat.succ_eq_add_one, Nat.le_eq, castL_self])
  all_goals (try omega)
  all_goals (try (simp only [castL_self, seg_len, rowAt_one, rowAt_oneS, List.length_append, List.length_cons, List.length_nil, List.length_drop, List.length_take, List.length_eraseIdx, List.length_replicate, ByteArray.size_extract, bs_app, strOf_size, bytesL_len, maxI_eq] <;> omega))
  all_goals rfl
noncomputable def fourF (args : List V) : Option (List Bool × V) := match args with
  | [.int .u32 x] => some ([], .str (fourH x))
  | _ => none
theorem fourF_ok (args : List V) (c : List Bool) (v : V) (h : fourF args = some (c, v)) (hc : allB c) : PureAt Try.prog 56 args v := by
  unfold fourF at h
  split at h
  · cases h; exact four_at _
  · cases h
theorem reffourF_ok (args : List V) (c : List Bool) (v : V) (h : fourF args = some (c, v)) (hc : allB c) : PureAt Try.prog 58 args v := by
  unfold fourF at h
  split at h
  · cases h; exact reffour_at _
  · cases h
noncomputable def sumB : ByteArray → Int := hide fun s => ((crcL s.data.toList : Nat) : Int)
theorem sumB_eq (s : ByteArray) : sumB s = ((crcL s.data.toList : Nat) : Int) := by rw [sumB, hide_eq]
theorem sumX_two (a b : ByteArray) : sumX [a, b] = sumB (a ++ b) := by
  rw [sumX_eq', sumB_eq, crcL, ByteArray.data_append, Array.toList_append]
  show ((4294967295 ^^^ sumT (sumT 4294967295 a.data.toList) b.data.toList : Nat) : Int) = _
  rw [sumT, sumT, sumT, List.foldl_append]
theorem refsum_at (s : ByteArray) (hs : s.size ≤ 100000) : PureAt Try.prog 59 [.str s] (.int .u32 (sumB s)) := by
  rw [sumB_eq]
  refine pure_of_calls (A := #[.string s]) (X := .int .u32 (crcL s.data.toList : Nat)) (fun φ Y h => ?_) (fun φ => rfl) fun w => (ref_sum s w hs).mono ?_
  · obtain ⟨_, _, rfl, rfl, rfl⟩ := h
    rfl
  · rintro e w' ⟨rfl, rfl⟩
    exact ⟨rfl, Go.RowKit.Below.refl _ _⟩
noncomputable def refsumF (args : List V) : Option (List Bool × V) := match args with
  | [.str s] => some ([decide (s.size ≤ 100000)], .int .u32 (sumB s))
  | _ => none
theorem refsumF_ok (args : List V) (c : List Bool) (v : V) (h : refsumF args = some (c, v)) (hc : allB c) : PureAt Try.prog 59 args v := by
  unfold refsumF at h
  split at h
  · cases h; exact refsum_at _ (of_decide_eq_true hc.1)
  · cases h
noncomputable def tabFour : Tab := oneTab 56 fourF (oneTab 58 fourF (oneTab 59 refsumF (oneTab 57 sumF noTab)))
theorem tabFour_ok : TabOK Try.prog tabFour := oneTab_ok fourF_ok (oneTab_ok reffourF_ok (oneTab_ok refsumF_ok (oneTab_ok sumF_ok noTab_ok)))
noncomputable def frV : ByteArray → ByteArray := hide fun s => bif decide (65535 < (s.size : Int)) then ⟨#[]⟩ else fourH s.size ++ fourH (sumB (fourH s.size ++ s)) ++ s
theorem frV_eq (s : ByteArray) : frV s = bif decide (65535 < (s.size : Int)) then ⟨#[]⟩ else fourH s.size ++ fourH (sumB (fourH s.size ++ s)) ++ s := by rw [frV, hide_eq]
noncomputable def frE : ByteArray → Int := hide fun s => bif decide (65535 < (s.size : Int)) then 3 else 0
theorem frE_eq (s : ByteArray) : frE s = bif decide (65535 < (s.size : Int)) then 3 else 0 := by rw [frE, hide_eq]
theorem frame_at (s : ByteArray) : PureAt Try.prog 24 [.str s] (.tup [.str (frV s), .int .i64 (frE s)]) := by
  by_cases h : 65535 < (s.size : Int)
  · rw [frV_eq, frE_eq, decide_eq_true h, cond_true, cond_true]
    refine pure_of_W0 (tab := tabFour) (fuel := 3) (d := 4) tabFour_ok ?_
    repeat' (conv => whnf
             first | (with_reducible exact True.intro) | (with_reducible rfl) | (with_reducible exact castL_self _ _) | ((with_reducible refine V.same_t ?_); exact rfl) | (with_reducible refine iteB_n ?_) | (with_reducible refine iteB_ct ?_) | (with_reducible refine iteB_cf ?_) | (with_reducible refine iteB_bt ?_) | (with_reducible refine iteB_bf ?_) | (with_reducible refine iteB_tb ?_) | (with_reducible refine iteB_fb ?_) | ((with_reducible refine andB_room ?_ ?_ ?_); (· kernel_rfl); (· (first | omega | (simp only [castL_self, seg_len, rowAt_one, rowAt_oneS, List.length_append, List.length_cons, List.length_nil, List.length_drop, List.length_take, List.length_eraseIdx, List.length_replicate, ByteArray.size_extract, bs_app, strOf_size, bytesL_len, maxI_eq] <;> omega)))) | ((first | (with_reducible refine andB_in ?_ ?_) | (with_reducible refine andB_d ?_ ?_) | (with_reducible refine andB_lt ?_ ?_) | (with_reducible refine andB_le ?_ ?_)); · (first | (with_reducible assumption) | (first | omega | (simp only [castL_self, seg_len, rowAt_one, rowAt_oneS, List.length_append, List.length_cons, List.length_nil, List.length_drop, List.length_take, List.length_eraseIdx, List.length_replicate, ByteArray.size_extract, bs_app, strOf_size, bytesL_len, maxI_eq] <;> omega)))) | ((first | (with_reducible refine iteB_ltt ?_ ?_) | (with_reducible refine iteB_let ?_ ?_) | (with_reducible refine iteB_dt ?_ ?_)); · (first | (with_reducible assumption) | (first | omega | (simp only [castL_self, seg_len, rowAt_one, rowAt_oneS, List.length_append, List.length_cons, List.length_nil, List.length_drop, List.length_take, List.length_eraseIdx, List.length_replicate, ByteArray.size_extract, bs_app, strOf_size, bytesL_len, maxI_eq] <;> omega)))) | ((first | (with_reducible refine iteB_ltf ?_ ?_) | (with_reducible refine iteB_lef ?_ ?_) | (with_reducible refine iteB_df ?_ ?_)); · (first | (with_reducible assumption) | (first | omega | (simp only [castL_self, seg_len, rowAt_one, rowAt_oneS, List.length_append, List.length_cons, List.length_nil, List.length_drop, List.length_take, List.length_eraseIdx, List.length_replicate, ByteArray.size_extract, bs_app, strOf_size, bytesL_len, maxI_eq] <;> omega)))) | ((first | (with_reducible refine andB_i ?_ ?_) | (with_reducible refine iteB_t ?_ ?_)); · (first | (with_reducible assumption) | (with_reducible exact decide_eq_true rfl) | (with_reducible exact sEq_self _) | ((with_reducible refine eqOK_i ?_); kernel_rfl))) | ((with_reducible refine iteB_f ?_ ?_); · (first | (with_reducible assumption) | (with_reducible exact decide_eq_true rfl) | (with_reducible exact sEq_self _) | ((with_reducible refine eqOK_i ?_); kernel_rfl))) | (with_reducible refine andB_in ?_ ?_) | (with_reducible refine andB_lt ?_ ?_) | (with_reducible refine andB_le ?_ ?_) | (with_reducible refine andB_d ?_ ?_) | (with_reducible refine andB_i ?_ ?_) | (with_reducible refine iteB_lts (fun hB => ?_) (fun hB => ?_)) | (with_reducible refine iteB_les (fun hB => ?_) (fun hB => ?_)) | (with_reducible refine iteB_ds (fun hB => ?_) (fun hB => ?_)) | (with_reducible refine iteB_s (fun hB => ?_) (fun hB => ?_)) | (with_reducible refine CD.wk_as ?_) | (with_reducible refine And.intro ?_ ?_))
    all_goals (conv => whnf)
    all_goals (try dsimp only)
    all_goals (try simp only [Nat.succ_eq_add_one, Nat.le_eq, castL_self])
    all_goals (try omega)
    all_goals (try (simp only [castL_self, seg_len, rowAt_one, rowAt_oneS, List.length_append, List.length_cons, List.length_nil, List.length_drop, List.length_take, List.length_eraseIdx, List.length_replicate, ByteArray.size_extract, bs_app, strOf_size, bytesL_len, maxI_eq] <;> omega))
    all_goals trace_state
  · have hm : (s.size : Int) % 4294967296 = s.size := by omega
    have f1 := fourH_size ((s.size : Int) % 4294967296)
    have f2 := fourH_size (sumX [fourH ((s.size : Int) % 4294967296), s])
    have f3 := fourH_size (sumB (fourH ((s.size : Int) % 4294967296) ++ s))
    rw [frV_eq, frE_eq, decide_eq_false h, cond_false, cond_false]
    refine pure_of_W0 (tab := tabFour) (fuel := 3) (d := 4) tabFour_ok ?_
    repeat' (conv => whnf
             first | (with_reducible exact True.intro) | (with_reducible rfl) | (with_reducible exact castL_self _ _) | ((with_reducible refine V.same_t ?_); exact rfl) | (with_reducible refine iteB_n ?_) | (with_reducible refine iteB_ct ?_) | (with_reducible refine iteB_cf ?_) | (with_reducible refine iteB_bt ?_) | (with_reducible refine iteB_bf ?_) | (with_reducible refine iteB_tb ?_) | (with_reducible refine iteB_fb ?_) | ((with_reducible refine andB_room ?_ ?_ ?_); (· kernel_rfl); (· (first | omega | (simp only [castL_self, seg_len, rowAt_one, rowAt_oneS, List.length_append, List.length_cons, List.length_nil, List.length_drop, List.length_take, List.length_eraseIdx, List.length_replicate, ByteArray.size_extract, bs_app, strOf_size, bytesL_len, maxI_eq] <;> omega)))) | ((first | (with_reducible refine andB_in ?_ ?_) | (with_reducible refine andB_d ?_ ?_) | (with_reducible refine andB_lt ?_ ?_) | (with_reducible refine andB_le ?_ ?_)); · (first | (with_reducible assumption) | (first | omega | (simp only [castL_self, seg_len, rowAt_one, rowAt_oneS, List.length_append, List.length_cons, List.length_nil, List.length_drop, List.length_take, List.length_eraseIdx, List.length_replicate, ByteArray.size_extract, bs_app, strOf_size, bytesL_len, maxI_eq] <;> omega)))) | ((first | (with_reducible refine iteB_ltt ?_ ?_) | (with_reducible refine iteB_let ?_ ?_) | (with_reducible refine iteB_dt ?_ ?_)); · (first | (with_reducible assumption) | (first | omega | (simp only [castL_self, seg_len, rowAt_one, rowAt_oneS, List.length_append, List.length_cons, List.length_nil, List.length_drop, List.length_take, List.length_eraseIdx, List.length_replicate, ByteArray.size_extract, bs_app, strOf_size, bytesL_len, maxI_eq] <;> omega)))) | ((first | (with_reducible refine iteB_ltf ?_ ?_) | (with_reducible refine iteB_lef ?_ ?_) | (with_reducible refine iteB_df ?_ ?_)); · (first | (with_reducible assumption) | (first | omega | (simp only [castL_self, seg_len, rowAt_one, rowAt_oneS, List.length_append, List.length_cons, List.length_nil, List.length_drop, List.length_take, List.length_eraseIdx, List.length_replicate, ByteArray.size_extract, bs_app, strOf_size, bytesL_len, maxI_eq] <;> omega)))) | ((first | (with_reducible refine andB_i ?_ ?_) | (with_reducible refine iteB_t ?_ ?_)); · (first | (with_reducible assumption) | (with_reducible exact decide_eq_true rfl) | (with_reducible exact sEq_self _) | ((with_reducible refine eqOK_i ?_); kernel_rfl))) | ((with_reducible refine iteB_f ?_ ?_); · (first | (with_reducible assumption) | (with_reducible exact decide_eq_true rfl) | (with_reducible exact sEq_self _) | ((with_reducible refine eqOK_i ?_); kernel_rfl))) | (with_reducible refine andB_in ?_ ?_) | (with_reducible refine andB_lt ?_ ?_) | (with_reducible refine andB_le ?_ ?_) | (with_reducible refine andB_d ?_ ?_) | (with_reducible refine andB_i ?_ ?_) | (with_reducible refine iteB_lts (fun hB => ?_) (fun hB => ?_)) | (with_reducible refine iteB_les (fun hB => ?_) (fun hB => ?_)) | (with_reducible refine iteB_ds (fun hB => ?_) (fun hB => ?_)) | (with_reducible refine iteB_s (fun hB => ?_) (fun hB => ?_)) | (with_reducible refine CD.wk_as ?_) | (with_reducible refine And.intro ?_ ?_))
    all_goals (conv => whnf)
    all_goals (try dsimp only)
    all_goals (try simp only [Nat.succ_eq_add_one, Nat.le_eq, castL_self])
    all_goals (try omega)
    all_goals (try (simp only [castL_self, seg_len, rowAt_one, rowAt_oneS, List.length_append, List.length_cons, List.length_nil, List.length_drop, List.length_take, List.length_eraseIdx, List.length_replicate, ByteArray.size_extract, bs_app, strOf_size, bytesL_len, maxI_eq] <;> omega))
    all_goals first
      | (simp only [hm, sumX_two]; done)
      | trace_state
theorem refframe_at (s : ByteArray) : PureAt Try.prog 25 [.str s] (.tup [.str (frV s), .int .i64 (frE s)]) := by
  by_cases h : 65535 < (s.size : Int)
  · rw [frV_eq, frE_eq, decide_eq_true h, cond_true, cond_true]
    refine pure_of_W0 (tab := tabFour) (fuel := 3) (d := 4) tabFour_ok ?_
    repeat' (conv => whnf
             first | (with_reducible exact True.intro) | (with_reducible rfl) | (with_reducible exact castL_self _ _) | ((with_reducible refine V.same_t ?_); exact rfl) | (with_reducible refine iteB_n ?_) | (with_reducible refine iteB_ct ?_) | (with_reducible refine iteB_cf ?_) | (with_reducible refine iteB_bt ?_) | (with_reducible refine iteB_bf ?_) | (with_reducible refine iteB_tb ?_) | (with_reducible refine iteB_fb ?_) | ((with_reducible refine andB_room ?_ ?_ ?_); (· kernel_rfl); (· (first | omega | (simp only [castL_self, seg_len, rowAt_one, rowAt_oneS, List.length_append, List.length_cons, List.length_nil, List.length_drop, List.length_take, List.length_eraseIdx, List.length_replicate, ByteArray.size_extract, bs_app, strOf_size, bytesL_len, maxI_eq] <;> omega)))) | ((first | (with_reducible refine andB_in ?_ ?_) | (with_reducible refine andB_d ?_ ?_) | (with_reducible refine andB_lt ?_ ?_) | (with_reducible refine andB_le ?_ ?_)); · (first | (with_reducible assumption) | (first | omega | (simp only [castL_self, seg_len, rowAt_one, rowAt_oneS, List.length_append, List.length_cons, List.length_nil, List.length_drop, List.length_take, List.length_eraseIdx, List.length_replicate, ByteArray.size_extract, bs_app, strOf_size, bytesL_len, maxI_eq] <;> omega)))) | ((first | (with_reducible refine iteB_ltt ?_ ?_) | (with_reducible refine iteB_let ?_ ?_) | (with_reducible refine iteB_dt ?_ ?_)); · (first | (with_reducible assumption) | (first | omega | (simp only [castL_self, seg_len, rowAt_one, rowAt_oneS, List.length_append, List.length_cons, List.length_nil, List.length_drop, List.length_take, List.length_eraseIdx, List.length_replicate, ByteArray.size_extract, bs_app, strOf_size, bytesL_len, maxI_eq] <;> omega)))) | ((first | (with_reducible refine iteB_ltf ?_ ?_) | (with_reducible refine iteB_lef ?_ ?_) | (with_reducible refine iteB_df ?_ ?_)); · (first | (with_reducible assumption) | (first | omega | (simp only [castL_self, seg_len, rowAt_one, rowAt_oneS, List.length_append, List.length_cons, List.length_nil, List.length_drop, List.length_take, List.length_eraseIdx, List.length_replicate, ByteArray.size_extract, bs_app, strOf_size, bytesL_len, maxI_eq] <;> omega)))) | ((first | (with_reducible refine andB_i ?_ ?_) | (with_reducible refine iteB_t ?_ ?_)); · (first | (with_reducible assumption) | (with_reducible exact decide_eq_true rfl) | (with_reducible exact sEq_self _) | ((with_reducible refine eqOK_i ?_); kernel_rfl))) | ((with_reducible refine iteB_f ?_ ?_); · (first | (with_reducible assumption) | (with_reducible exact decide_eq_true rfl) | (with_reducible exact sEq_self _) | ((with_reducible refine eqOK_i ?_); kernel_rfl))) | (with_reducible refine andB_in ?_ ?_) | (with_reducible refine andB_lt ?_ ?_) | (with_reducible refine andB_le ?_ ?_) | (with_reducible refine andB_d ?_ ?_) | (with_reducible refine andB_i ?_ ?_) | (with_reducible refine iteB_lts (fun hB => ?_) (fun hB => ?_)) | (with_reducible refine iteB_les (fun hB => ?_) (fun hB => ?_)) | (with_reducible refine iteB_ds (fun hB => ?_) (fun hB => ?_)) | (with_reducible refine iteB_s (fun hB => ?_) (fun hB => ?_)) | (with_reducible refine CD.wk_as ?_) | (with_reducible refine And.intro ?_ ?_))
    all_goals (conv => whnf)
    all_goals (try dsimp only)
    all_goals (try simp only [Nat.succ_eq_add_one, Nat.le_eq, castL_self])
    all_goals (try omega)
    all_goals (try (simp only [castL_self, seg_len, rowAt_one, rowAt_oneS, List.length_append, List.length_cons, List.length_nil, List.length_drop, List.length_take, List.length_eraseIdx, List.length_replicate, ByteArray.size_extract, bs_app, strOf_size, bytesL_len, maxI_eq] <;> omega))
    all_goals trace_state
  · have hm : (s.size : Int) % 4294967296 = s.size := by omega
    have f1 := fourH_size ((s.size : Int) % 4294967296)
    have f2 := fourH_size (sumX [fourH ((s.size : Int) % 4294967296), s])
    have f3 := fourH_size (sumB (fourH ((s.size : Int) % 4294967296) ++ s))
    rw [frV_eq, frE_eq, decide_eq_false h, cond_false, cond_false]
    refine pure_of_W0 (tab := tabFour) (fuel := 3) (d := 4) tabFour_ok ?_
    repeat' (conv => whnf
             first | (with_reducible exact True.intro) | (with_reducible rfl) | (with_reducible exact castL_self _ _) | ((with_reducible refine V.same_t ?_); exact rfl) | (with_reducible refine iteB_n ?_) | (with_reducible refine iteB_ct ?_) | (with_reducible refine iteB_cf ?_) | (with_reducible refine iteB_bt ?_) | (with_reducible refine iteB_bf ?_) | (with_reducible refine iteB_tb ?_) | (with_reducible refine iteB_fb ?_) | ((with_reducible refine andB_room ?_ ?_ ?_); (· kernel_rfl); (· (first | omega | (simp only [castL_self, seg_len, rowAt_one, rowAt_oneS, List.length_append, List.length_cons, List.length_nil, List.length_drop, List.length_take, List.length_eraseIdx, List.length_replicate, ByteArray.size_extract, bs_app, strOf_size, bytesL_len, maxI_eq] <;> omega)))) | ((first | (with_reducible refine andB_in ?_ ?_) | (with_reducible refine andB_d ?_ ?_) | (with_reducible refine andB_lt ?_ ?_) | (with_reducible refine andB_le ?_ ?_)); · (first | (with_reducible assumption) | (first | omega | (simp only [castL_self, seg_len, rowAt_one, rowAt_oneS, List.length_append, List.length_cons, List.length_nil, List.length_drop, List.length_take, List.length_eraseIdx, List.length_replicate, ByteArray.size_extract, bs_app, strOf_size, bytesL_len, maxI_eq] <;> omega)))) | ((first | (with_reducible refine iteB_ltt ?_ ?_) | (with_reducible refine iteB_let ?_ ?_) | (with_reducible refine iteB_dt ?_ ?_)); · (first | (with_reducible assumption) | (first | omega | (simp only [castL_self, seg_len, rowAt_one, rowAt_oneS, List.length_append, List.length_cons, List.length_nil, List.length_drop, List.length_take, List.length_eraseIdx, List.length_replicate, ByteArray.size_extract, bs_app, strOf_size, bytesL_len, maxI_eq] <;> omega)))) | ((first | (with_reducible refine iteB_ltf ?_ ?_) | (with_reducible refine iteB_lef ?_ ?_) | (with_reducible refine iteB_df ?_ ?_)); · (first | (with_reducible assumption) | (first | omega | (simp only [castL_self, seg_len, rowAt_one, rowAt_oneS, List.length_append, List.length_cons, List.length_nil, List.length_drop, List.length_take, List.length_eraseIdx, List.length_replicate, ByteArray.size_extract, bs_app, strOf_size, bytesL_len, maxI_eq] <;> omega)))) | ((first | (with_reducible refine andB_i ?_ ?_) | (with_reducible refine iteB_t ?_ ?_)); · (first | (with_reducible assumption) | (with_reducible exact decide_eq_true rfl) | (with_reducible exact sEq_self _) | ((with_reducible refine eqOK_i ?_); kernel_rfl))) | ((with_reducible refine iteB_f ?_ ?_); · (first | (with_reducible assumption) | (with_reducible exact decide_eq_true rfl) | (with_reducible exact sEq_self _) | ((with_reducible refine eqOK_i ?_); kernel_rfl))) | (with_reducible refine andB_in ?_ ?_) | (with_reducible refine andB_lt ?_ ?_) | (with_reducible refine andB_le ?_ ?_) | (with_reducible refine andB_d ?_ ?_) | (with_reducible refine andB_i ?_ ?_) | (with_reducible refine iteB_lts (fun hB => ?_) (fun hB => ?_)) | (with_reducible refine iteB_les (fun hB => ?_) (fun hB => ?_)) | (with_reducible refine iteB_ds (fun hB => ?_) (fun hB => ?_)) | (with_reducible refine iteB_s (fun hB => ?_) (fun hB => ?_)) | (with_reducible refine CD.wk_as ?_) | (with_reducible refine And.intro ?_ ?_))
    all_goals (conv => whnf)
    all_goals (try dsimp only)
    all_goals (try simp only [Nat.succ_eq_add_one, Nat.le_eq, castL_self])
    all_goals (try omega)
    all_goals (try (simp only [castL_self, seg_len, rowAt_one, rowAt_oneS, List.length_append, List.length_cons, List.length_nil, List.length_drop, List.length_take, List.length_eraseIdx, List.length_replicate, ByteArray.size_extract, bs_app, strOf_size, bytesL_len, maxI_eq] <;> omega))
    all_goals first
      | (simp only [hm, sumX_two]; done)
      | trace_state
end Go.Proofs.Ytjjebdfjmbnhpaa
end

section
namespace Go.Proofs.Ytjjebdfjmbnhpaa
open Go.Sym
set_option linter.unusedVariables false

noncomputable def numH : ByteArray → Int := hide fun b => bAt b 0 + 256 * bAt b 1 + 65536 * bAt b 2 + 16777216 * bAt b 3
theorem numH_eq (b : ByteArray) : numH b = bAt b 0 + 256 * bAt b 1 + 65536 * bAt b 2 + 16777216 * bAt b 3 := by rw [numH, hide_eq]
noncomputable def frN (s : ByteArray) (o : Nat) : Nat := (numH (s.extract o (o + 4))).toNat
noncomputable def frOK : ByteArray → Nat → Bool := hide fun s o => decide (o + 8 ≤ s.size) && (decide (frN s o ≤ 65535) && (decide (o + 8 + frN s o ≤ s.size) && decide (sumB (s.extract o (o + 4) ++ s.extract (o + 8) (o + 8 + frN s o)) = numH (s.extract (o + 4) (o + 8)))))
theorem frOK_eq (s : ByteArray) (o : Nat) : frOK s o = (decide (o + 8 ≤ s.size) && (decide (frN s o ≤ 65535) && (decide (o + 8 + frN s o ≤ s.size) && decide (sumB (s.extract o (o + 4) ++ s.extract (o + 8) (o + 8 + frN s o)) = numH (s.extract (o + 4) (o + 8)))))) := by rw [frOK, hide_eq]
theorem frOK_is {s : ByteArray} {o : Nat} (h : frOK s o = true) : o + 8 ≤ s.size ∧ frN s o ≤ 65535 ∧ o + 8 + frN s o ≤ s.size ∧ sumB (s.extract o (o + 4) ++ s.extract (o + 8) (o + 8 + frN s o)) = numH (s.extract (o + 4) (o + 8)) := by
  rw [frOK_eq] at h
  simpa only [Bool.and_eq_true, decide_eq_true_eq] using h
noncomputable def scP (s : ByteArray) (o : Nat) : List ByteArray × Nat :=
  if h : frOK s o = true then (s.extract (o + 8) (o + 8 + frN s o) :: (scP s (o + 8 + frN s o)).1, (scP s (o + 8 + frN s o)).2) else ([], o)
termination_by s.size - o
decreasing_by all_goals (have := frOK_is h; omega)
theorem scP_step {s : ByteArray} {o : Nat} (h : frOK s o = true) : scP s o = (s.extract (o + 8) (o + 8 + frN s o) :: (scP s (o + 8 + frN s o)).1, (scP s (o + 8 + frN s o)).2) := by
  rw [scP, dif_pos h]
theorem scP_stop {s : ByteArray} {o : Nat} (h : frOK s o = false) : scP s o = ([], o) := by
  rw [scP, dif_neg (by rw [h]; decide)]
noncomputable def scL : ByteArray → List ByteArray := hide fun s => (scP s 0).1
noncomputable def scN : ByteArray → Nat := hide fun s => (scP s 0).2
theorem scL_eq (s : ByteArray) : scL s = (scP s 0).1 := by rw [scL, hide_eq]
theorem scN_eq (s : ByteArray) : scN s = (scP s 0).2 := by rw [scN, hide_eq]
def ScI (s : ByteArray) (x : List ByteArray × Nat) : Prop := x.1 ++ (scP s x.2).1 = scL s ∧ (scP s x.2).2 = scN s ∧ x.2 ≤ s.size ∧ x.1.length ≤ x.2
theorem ScI_0 (s : ByteArray) : ScI s ([], 0) := ⟨by rw [scL_eq]; rfl, by rw [scN_eq], Nat.zero_le _, Nat.le_refl _⟩
theorem ScI_step {s : ByteArray} {x : List ByteArray × Nat} (h : ScI s x) (hf : frOK s x.2 = true) : ScI s (x.1 ++ [s.extract (x.2 + 8) (x.2 + 8 + frN s x.2)], x.2 + 8 + frN s x.2) := by
  obtain ⟨h1, h2, h3, h4⟩ := h
  have := frOK_is hf
  rw [scP_step hf] at h1 h2
  refine ⟨?_, h2, this.2.2.1, ?_⟩
  · rw [← h1, List.append_assoc]; rfl
  · rw [List.length_append, List.length_singleton]
    show x.1.length + 1 ≤ x.2 + 8 + frN s x.2
    omega
theorem ScI_stop {s : ByteArray} {x : List ByteArray × Nat} (h : ScI s x) (hf : frOK s x.2 = false) : x.1 = scL s ∧ x.2 = scN s := by
  obtain ⟨h1, h2, h3, h4⟩ := h
  rw [scP_stop hf] at h1 h2
  exact ⟨by rw [← h1, List.append_nil], h2⟩
end Go.Proofs.Ytjjebdfjmbnhpaa
end

section
namespace Go.Proofs.Ytjjebdfjmbnhpaa
open Go.Sym
set_option linter.unusedVariables false
set_option linter.unusedSimpArgs false
set_option maxRecDepth 100000
set_option maxHeartbeats 4000000

theorem bAt_u8 (s : ByteArray) (i : Nat) : 0 ≤ bAt s i ∧ bAt s i < 256 := by
  have := UInt8.toNat_lt (s.data.toList.getD i 0)
  unfold bAt
  omega
theorem numH_in (b : ByteArray) : 0 ≤ numH b ∧ numH b < 4294967296 := by
  have h0 := bAt_u8 b 0
  have h1 := bAt_u8 b 1
  have h2 := bAt_u8 b 2
  have h3 := bAt_u8 b 3
  rw [numH_eq]
  omega
abbrev lor4 (b : ByteArray) : Int := IntKind.u32.wrap (Int.ofNat ((ofI .u32 (IntKind.u32.wrap (Int.ofNat ((ofI .u32 (IntKind.u32.wrap (Int.ofNat ((ofI .u32 (bAt b (Int.toNat 0) % 4294967296)).lor (ofI .u32 (bAt b (Int.toNat 1) % 4294967296 * 2 ^ min (Int.toNat 8) 32 % 4294967296)))))).lor (ofI .u32 (bAt b (Int.toNat 2) % 4294967296 * 2 ^ min (Int.toNat 16) 32 % 4294967296)))))).lor (ofI .u32 (bAt b (Int.toNat 3) % 4294967296 * 2 ^ min (Int.toNat 24) 32 % 4294967296))))
theorem ofI_u32 (q : Nat) (hq : q < 4294967296) : ofI .u32 (q : Int) = q := by
  have h : ((ofI .u32 (q : Int) : Nat) : Int) = (q : Int) % ((kM .u32 : Nat) : Int) := modN_eq (kM .u32) (by decide) q
  have hk : ((kM .u32 : Nat) : Int) = 4294967296 := rfl
  rw [hk] at h
  omega
theorem lor_add (x y k : Nat) (h : x < 2 ^ k) : Nat.lor x (y * 2 ^ k) = x + y * 2 ^ k := by
  have := Nat.two_pow_add_eq_or_of_lt (i := k) (b := x) h y
  rw [Nat.mul_comm y, Nat.add_comm x, this]
  exact Nat.or_comm _ _
theorem lor_step (x y k : Nat) (hx : x < 2 ^ k) (hy : y < 256) (hk : k ≤ 24) : IntKind.u32.wrap (Int.ofNat ((ofI .u32 ((x : Nat) : Int)).lor (ofI .u32 (((y : Nat) : Int) * 2 ^ k % 4294967296)))) = ((x + y * 2 ^ k : Nat) : Int) := by
  have hp : 2 ^ k ≤ 2 ^ 24 := Nat.pow_le_pow_right (by decide) hk
  have hz : y * 2 ^ k ≤ 4278190080 := Nat.le_trans (Nat.mul_le_mul (show y ≤ 255 by omega) hp) (by decide)
  have hx' : x < 16777216 := Nat.lt_of_lt_of_le hx (Nat.le_trans hp (by decide))
  have hl := lor_add x y k hx
  have e : ((y : Nat) : Int) * 2 ^ k = ((y * 2 ^ k : Nat) : Int) := by rw [Int.natCast_mul, Int.natCast_pow]; rfl
  rw [e]
  generalize y * 2 ^ k = z at *
  rw [show ((z : Nat) : Int) % 4294967296 = z by omega, ofI_u32 _ (by omega), ofI_u32 _ (by omega), hl]
  exact wrap_u32 (by simp only [Int.ofNat_eq_natCast]; omega) (by simp only [Int.ofNat_eq_natCast]; omega)
theorem lor4_eq (b : ByteArray) : lor4 b = numH b := by
  obtain ⟨q0, e0, h0⟩ : ∃ q : Nat, bAt b 0 = q ∧ q < 256 := ⟨(bAt b 0).toNat, by have := bAt_u8 b 0; omega, by have := bAt_u8 b 0; omega⟩
  obtain ⟨q1, e1, h1⟩ : ∃ q : Nat, bAt b 1 = q ∧ q < 256 := ⟨(bAt b 1).toNat, by have := bAt_u8 b 1; omega, by have := bAt_u8 b 1; omega⟩
  obtain ⟨q2, e2, h2⟩ : ∃ q : Nat, bAt b 2 = q ∧ q < 256 := ⟨(bAt b 2).toNat, by have := bAt_u8 b 2; omega, by have := bAt_u8 b 2; omega⟩
  obtain ⟨q3, e3, h3⟩ : ∃ q : Nat, bAt b 3 = q ∧ q < 256 := ⟨(bAt b 3).toNat, by have := bAt_u8 b 3; omega, by have := bAt_u8 b 3; omega⟩
  have t0 : (Int.toNat 0) = 0 := rfl
  have t1 : (Int.toNat 1) = 1 := rfl
  have t2 : (Int.toNat 2) = 2 := rfl
  have t3 : (Int.toNat 3) = 3 := rfl
  have m8 : min (Int.toNat 8) 32 = 8 := rfl
  have m16 : min (Int.toNat 16) 32 = 16 := rfl
  have m24 : min (Int.toNat 24) 32 = 24 := rfl
  unfold lor4
  rw [t0, t1, t2, t3, m8, m16, m24, e0, e1, e2, e3]
  rw [show ((q0 : Nat) : Int) % 4294967296 = q0 by omega, show ((q1 : Nat) : Int) % 4294967296 = q1 by omega, show ((q2 : Nat) : Int) % 4294967296 = q2 by omega, show ((q3 : Nat) : Int) % 4294967296 = q3 by omega]
  rw [lor_step q0 q1 8 (by omega) h1 (by decide), lor_step _ q2 16 (by omega) h2 (by decide), lor_step _ q3 24 (by omega) h3 (by decide), numH_eq, e0, e1, e2, e3]
  omega
theorem num_at (s : ByteArray) (o n : Int) (h0 : 0 ≤ o + n) (h1 : (o + n).toNat + 4 ≤ s.size) (h2 : s.size ≤ 1000000) : PureAt Try.prog 80 [.int .i64 n, .lptr [.str] [s] 0 0, .lptr [.int .i64] [o] 0 0] (.int .u32 (numH (s.extract (o + n).toNat ((o + n).toNat + 4)))) := by
  refine pure_of_W0 (tab := noTab) (fuel := 3) (d := 4) noTab_ok ?_
  repeat' (conv => whnf
           first | (with_reducible exact True.intro) | (with_reducible rfl) | (with_reducible exact castL_self _ _) | ((with_reducible refine V.same_t ?_); exact rfl) | (with_reducible refine iteB_n ?_) | (with_reducible refine iteB_ct ?_) | (with_reducible refine iteB_cf ?_) | (with_reducible refine iteB_bt ?_) | (with_reducible refine iteB_bf ?_) | (with_reducible refine iteB_tb ?_) | (with_reducible refine iteB_fb ?_) | ((with_reducible refine andB_room ?_ ?_ ?_); (· kernel_rfl); (· (first | omega | (simp only [castL_self, seg_len, rowAt_one, rowAt_oneS, List.length_append, List.length_cons, List.length_nil, List.length_drop, List.length_take, List.length_eraseIdx, List.length_replicate, ByteArray.size_extract, bs_app, strOf_size, bytesL_len, maxI_eq] <;> omega)))) | ((first | (with_reducible refine andB_in ?_ ?_) | (with_reducible refine andB_d ?_ ?_) | (with_reducible refine andB_lt ?_ ?_) | (with_reducible refine andB_le ?_ ?_)); · (first | (with_reducible assumption) | (first | omega | (simp only [castL_self, seg_len, rowAt_one, rowAt_oneS, List.length_append, List.length_cons, List.length_nil, List.length_drop, List.length_take, List.length_eraseIdx, List.length_replicate, ByteArray.size_extract, bs_app, strOf_size, bytesL_len, maxI_eq] <;> omega)))) | ((first | (with_reducible refine iteB_ltt ?_ ?_) | (with_reducible refine iteB_let ?_ ?_) | (with_reducible refine iteB_dt ?_ ?_)); · (first | (with_reducible assumption) | (first | omega | (simp only [castL_self, seg_len, rowAt_one, rowAt_oneS, List.length_append, List.length_cons, List.length_nil, List.length_drop, List.length_take, List.length_eraseIdx, List.length_replicate, ByteArray.size_extract, bs_app, strOf_size, bytesL_len, maxI_eq] <;> omega)))) | ((first | (with_reducible refine iteB_ltf ?_ ?_) | (with_reducible refine iteB_lef ?_ ?_) | (with_reducible refine iteB_df ?_ ?_)); · (first | (with_reducible assumption) | (first | omega | (simp only [castL_self, seg_len, rowAt_one, rowAt_oneS, List.length_append, List.length_cons, List.length_nil, List.length_drop, List.length_take, List.length_eraseIdx, List.length_replicate, ByteArray.size_extract, bs_app, strOf_size, bytesL_len, maxI_eq] <;> omega)))) | ((first | (with_reducible refine andB_i ?_ ?_) | (with_reducible refine iteB_t ?_ ?_)); · (first | (with_reducible assumption) | (with_reducible exact decide_eq_true rfl) | (with_reducible exact sEq_self _) | ((with_reducible refine eqOK_i ?_); kernel_rfl))) | ((with_reducible refine iteB_f ?_ ?_); · (first | (with_reducible assumption) | (with_reducible exact decide_eq_true rfl) | (with_reducible exact sEq_self _) | ((with_reducible refine eqOK_i ?_); kernel_rfl))) | (with_reducible refine andB_in ?_ ?_) | (with_reducible refine andB_lt ?_ ?_) | (with_reducible refine andB_le ?_ ?_) | (with_reducible refine andB_d ?_ ?_) | (with_reducible refine andB_i ?_ ?_) | (with_reducible refine iteB_lts (fun hB => ?_) (fun hB => ?_)) | (with_reducible refine iteB_les (fun hB => ?_) (fun hB => ?_)) | (with_reducible refine iteB_ds (fun hB => ?_) (fun hB => ?_)) | (with_reducible refine iteB_s (fun hB => ?_) (fun hB => ?_)) | (with_reducible refine CD.wk_as ?_) | (with_reducible refine And.intro ?_ ?_))
  all_goals (conv => whnf)
  all_goals (try dsimp only)
  all_goals (try simp only [Nat.succ_eq_add_one, Nat.le_eq, castL_self])
  all_goals (try omega)
  all_goals (try (simp only [castL_self, seg_len, rowAt_one, rowAt_oneS, List.length_append, List.length_cons, List.length_nil, List.length_drop, List.length_take, List.length_eraseIdx, List.length_replicate, ByteArray.size_extract, bs_app, strOf_size, bytesL_len, maxI_eq] <;> omega))
  all_goals (try simp only [rowAt_one, rowAt_oneS])
  all_goals
    refine congrArg (V.int .u32) ?_
    rw [show (o + n).toNat + 4 = (o + n + 4).toNat by omega]
    exact lor4_eq _
noncomputable def numF (args : List V) : Option (List Bool × V) := match args with
  | [.int .i64 n, .lptr e1 L1 0 0, .lptr e2 L2 0 0] => (match asL [.str] e1 L1, asL [.int .i64] e2 L2 with
    | some M1, some M2 => (match (M1 : List ByteArray), (M2 : List Int) with
      | [s], [o] => some ([leI 0 (o + n), decide ((o + n).toNat + 4 ≤ s.size), decide (s.size ≤ 1000000)], .int .u32 (numH (s.extract (o + n).toNat ((o + n).toNat + 4))))
      | _, _ => none)
    | _, _ => none)
  | _ => none
theorem numF_ok (args : List V) (c : List Bool) (v : V) (h : numF args = some (c, v)) (hc : allB c) : PureAt Try.prog 80 args v := by
  unfold numF at h
  split at h
  · rename_i n e1 L1 e2 L2
    split at h
    · rename_i M1 M2 h1 h2
      split at h
      · rename_i s o
        cases h
        obtain ⟨q1, e1⟩ := asL_eq h1
        obtain ⟨q2, e2⟩ := asL_eq h2
        subst q1 q2
        have e1 : L1 = [s] := e1.symm
        have e2 : L2 = [o] := e2.symm
        subst e1 e2
        obtain ⟨c1, c2, c3, _⟩ := hc
        rw [leI_eq] at c1
        exact num_at s o n (of_decide_eq_true c1) (of_decide_eq_true c2) (of_decide_eq_true c3)
      · cases h
    · cases h
  · cases h
noncomputable def tabScan : Tab := oneTab 80 numF tabFour
theorem tabScan_ok : TabOK Try.prog tabScan := oneTab_ok numF_ok tabFour_ok
end Go.Proofs.Ytjjebdfjmbnhpaa
end

section
namespace Go.Proofs.Ytjjebdfjmbnhpaa
open Go.Sym
set_option linter.unusedVariables false
set_option linter.unusedSimpArgs false
set_option maxRecDepth 100000
set_option maxHeartbeats 4000000

noncomputable def rfOf (c : Code) : Option (Code × Code) :=
  @Code.rec (fun _ => Option (Code × Code)) none (fun _ _ _ => none)
    (fun _ _ ia ib => match ia with
      | some r => some r
      | none => ib)
    (fun _ _ _ ia ib => match ia with
      | some r => some r
      | none => ib)
    (fun _ _ ib => ib) (fun _ ib => ib) (fun _ _ assign body _ _ => some (assign, body)) (fun _ => none) (fun _ ib => ib) (fun _ => none) (fun _ => none) none (fun _ => none) c
noncomputable def rfA (c : Code) : Code := match rfOf c with
  | some r => r.1
  | none => .skip
noncomputable def rfB (c : Code) : Code := match rfOf c with
  | some r => r.2
  | none => .skip
noncomputable def scH (s : ByteArray) (l : List ByteArray) (o : Nat) : List (Nat × EObj) := [(0, .cells [.rs 7 0 l.length l.length false 1] 40 false), (1, .cells [.int .i64 (o : Int)] 3 false), (2, .cells [.str s] 9 false), (3, .cells [.int .i64 (o : Int)] 3 false),
  (4, .cells [.fn 80 [] [.ptr 2 0, .ptr 3 0]] 122 false), (5, .dfr false), (6, .loop ⟨.ready, none, mkFrm 17 (slots 17 [(2, .ptr 0 0), (3, .ptr 1 0)]), [8, 9], rfA (bodyOf Try.prog 26), rfB (bodyOf Try.prog 26), 5⟩), (7, .rows [.str] l 9 false)]
noncomputable def scC (s : ByteArray) (l : List ByteArray) (o : Nat) : CD := ⟨56, [(0, .yld 6), (1, .ptr 2 0), (2, .ptr 3 0), (3, .ptr 4 0)], [], scH s l o, 8⟩
noncomputable def scEnd : ByteArray → Bool := hide fun s => decide (8 ≤ s.size - scN s)
noncomputable def scO (s : ByteArray) : OD := .ite (scEnd s) (.leaf .ret (scC s (scL s) (scN s))) (.leaf (.exit 0) (scC s (scL s) (scN s)))
theorem scan_loop (s : ByteArray) (hs : s.size ≤ 100000) (N : Nat) : LpD.ok Try.prog N 7 (bodyOf Try.prog 81) ⟨0, [], scC s [] 0, scO s⟩ := by
  refine LpD.ok_one (b := bodyAt Try.prog 81 0) rfl (loop_W tabScan_ok (fuel := 3) (d := 5) (X := { x : List ByteArray × Nat // ScI s x }) (fun x => scC s x.1.1 x.1.2) (fun x => s.size - x.1.2)
    (fun _ => scO s) (fun _ => noLpW) (fun _ => noLp) (fun _ => noLp_ad) (fun _ => noLp_ok _) ?_ ⟨([], 0), ScI_0 s⟩)
  rintro ⟨⟨l, o⟩, hI⟩
  dsimp only
  have ho : o ≤ s.size := hI.2.2.1
  have hlo : l.length ≤ o := hI.2.2.2
  have n4 := numH_in (s.extract o (o + 4))
  have n5 := numH_in (s.extract ((o : Int) + 4).toNat (((o : Int) + 4).toNat + 4))
  have t0 : ((o : Int) + 0).toNat = o := by omega
  have t4 : ((o : Int) + 4).toNat = o + 4 := by omega
  have t8 : ((o : Int) + 8).toNat = o + 8 := by omega
  have n0 : @Eq Int (numH (s.extract ((o : Int) + 0).toNat (((o : Int) + 0).toNat + 4))) (frN s o : Int) := by rw [t0]; unfold frN; omega
  have hf := frOK_eq s o
  by_cases c1 : o + 8 ≤ s.size
  · have hE : frOK s o = false → scEnd s = true := fun hf => by rw [scEnd, hide_eq]; exact decide_eq_true (by rw [← (ScI_stop hI hf).2]; omega)
    rw [decide_eq_true c1, Bool.true_and] at hf
    by_cases c2 : frN s o ≤ 65535
    · rw [decide_eq_true c2, Bool.true_and] at hf
      by_cases c3 : o + 8 + frN s o ≤ s.size
      · rw [decide_eq_true c3, Bool.true_and] at hf
        have hp : ((o : Int) + 8 + numH (s.extract ((o : Int) + 0).toNat (((o : Int) + 0).toNat + 4))).toNat = o + 8 + frN s o := by omega
        have hS : @Eq Int (sumX [s.extract (o : Int).toNat ((o : Int) + 4).toNat, s.extract ((o : Int) + 8).toNat ((o : Int) + 8 + numH (s.extract ((o : Int) + 0).toNat (((o : Int) + 0).toNat + 4))).toNat]) (sumB (s.extract o (o + 4) ++ s.extract (o + 8) (o + 8 + frN s o))) := by
          rw [sumX_two, t4, t8, hp]; rfl
        have hN : @Eq Int (numH (s.extract ((o : Int) + 4).toNat (((o : Int) + 4).toNat + 4))) (numH (s.extract (o + 4) (o + 8))) := by rw [t4]
        by_cases c4 : sumB (s.extract o (o + 4) ++ s.extract (o + 8) (o + 8 + frN s o)) = numH (s.extract (o + 4) (o + 8))
        · rw [decide_eq_true c4] at hf
          clear hE
          repeat' (conv => whnf
                   first | (with_reducible exact True.intro) | (with_reducible rfl) | (with_reducible exact castL_self _ _) | ((with_reducible refine V.same_t ?_); exact rfl) | (with_reducible refine iteB_n ?_) | (with_reducible refine iteB_ct ?_) | (with_reducible refine iteB_cf ?_) | (with_reducible refine iteB_bt ?_) | (with_reducible refine iteB_bf ?_) | (with_reducible refine iteB_tb ?_) | (with_reducible refine iteB_fb ?_) | ((with_reducible refine andB_room ?_ ?_ ?_); (· kernel_rfl); (· (first | omega | (simp only [castL_self, seg_len, rowAt_one, rowAt_oneS, List.length_append, List.length_cons, List.length_nil, List.length_drop, List.length_take, List.length_eraseIdx, List.length_replicate, ByteArray.size_extract, bs_app, strOf_size, bytesL_len, maxI_eq] <;> omega)))) | ((first | (with_reducible refine andB_in ?_ ?_) | (with_reducible refine andB_d ?_ ?_) | (with_reducible refine andB_lt ?_ ?_) | (with_reducible refine andB_le ?_ ?_)); · (first | (with_reducible assumption) | (first | omega | (simp only [castL_self, seg_len, rowAt_one, rowAt_oneS, List.length_append, List.length_cons, List.length_nil, List.length_drop, List.length_take, List.length_eraseIdx, List.length_replicate, ByteArray.size_extract, bs_app, strOf_size, bytesL_len, maxI_eq] <;> omega)))) | ((first | (with_reducible refine iteB_ltt ?_ ?_) | (with_reducible refine iteB_let ?_ ?_) | (with_reducible refine iteB_dt ?_ ?_)); · (first | (with_reducible assumption) | (first | omega | (simp only [castL_self, seg_len, rowAt_one, rowAt_oneS, List.length_append, List.length_cons, List.length_nil, List.length_drop, List.length_take, List.length_eraseIdx, List.length_replicate, ByteArray.size_extract, bs_app, strOf_size, bytesL_len, maxI_eq] <;> omega)))) | ((first | (with_reducible refine iteB_ltf ?_ ?_) | (with_reducible refine iteB_lef ?_ ?_) | (with_reducible refine iteB_df ?_ ?_)); · (first | (with_reducible assumption) | (first | omega | (simp only [castL_self, seg_len, rowAt_one, rowAt_oneS, List.length_append, List.length_cons, List.length_nil, List.length_drop, List.length_take, List.length_eraseIdx, List.length_replicate, ByteArray.size_extract, bs_app, strOf_size, bytesL_len, maxI_eq] <;> omega)))) | ((first | (with_reducible refine andB_i ?_ ?_) | (with_reducible refine iteB_t ?_ ?_)); · (first | (with_reducible assumption) | (with_reducible exact decide_eq_true rfl) | (with_reducible exact sEq_self _) | ((with_reducible refine eqOK_i ?_); kernel_rfl))) | ((with_reducible refine iteB_f ?_ ?_); · (first | (with_reducible assumption) | (with_reducible exact decide_eq_true rfl) | (with_reducible exact sEq_self _) | ((with_reducible refine eqOK_i ?_); kernel_rfl))) | (refine ⟨⟨(l ++ [s.extract (o + 8) (o + 8 + frN s o)], o + 8 + frN s o), ScI_step hI hf⟩, ?_, rfl, ?_⟩) | (with_reducible refine ⟨_, _, rfl, ?_⟩) | (with_reducible refine CD.wk_au ?_) | (with_reducible refine andB_in ?_ ?_) | (with_reducible refine andB_lt ?_ ?_) | (with_reducible refine andB_le ?_ ?_) | (with_reducible refine andB_d ?_ ?_) | (with_reducible refine andB_i ?_ ?_) | (with_reducible refine iteB_lts (fun hB => ?_) (fun hB => ?_)) | (with_reducible refine iteB_les (fun hB => ?_) (fun hB => ?_)) | (with_reducible refine iteB_ds (fun hB => ?_) (fun hB => ?_)) | (with_reducible refine iteB_s (fun hB => ?_) (fun hB => ?_)) | (with_reducible refine CD.wk_as ?_) | (with_reducible refine And.intro ?_ ?_))
          all_goals (conv => whnf)
          all_goals (try dsimp only)
          all_goals (try simp only [Nat.succ_eq_add_one, Nat.le_eq, castL_self])
          all_goals (try omega)
          all_goals (try (simp only [castL_self, seg_len, rowAt_one, rowAt_oneS, List.length_append, List.length_cons, List.length_nil, List.length_drop, List.length_take, List.length_eraseIdx, List.length_replicate, ByteArray.size_extract, bs_app, strOf_size, bytesL_len, maxI_eq] <;> omega))
          all_goals first
            | omega
            | (simp only [List.length_append, List.length_cons, List.length_nil]; done)
            | (rw [seg_all l rfl, t8, hp]; done)
            | (rw [t8, hp, seg_all l rfl]; rfl)
            | trace_state
        · rw [decide_eq_false c4] at hf
          have hE := hE hf
          obtain ⟨rfl, rfl⟩ := ScI_stop hI hf
          repeat' (conv => whnf
                   first | (with_reducible exact True.intro) | (with_reducible rfl) | (with_reducible exact castL_self _ _) | ((with_reducible refine V.same_t ?_); exact rfl) | (with_reducible refine iteB_n ?_) | (with_reducible refine iteB_ct ?_) | (with_reducible refine iteB_cf ?_) | (with_reducible refine iteB_bt ?_) | (with_reducible refine iteB_bf ?_) | (with_reducible refine iteB_tb ?_) | (with_reducible refine iteB_fb ?_) | ((with_reducible refine andB_room ?_ ?_ ?_); (· kernel_rfl); (· (first | omega | (simp only [castL_self, seg_len, rowAt_one, rowAt_oneS, List.length_append, List.length_cons, List.length_nil, List.length_drop, List.length_take, List.length_eraseIdx, List.length_replicate, ByteArray.size_extract, bs_app, strOf_size, bytesL_len, maxI_eq] <;> omega)))) | ((first | (with_reducible refine andB_in ?_ ?_) | (with_reducible refine andB_d ?_ ?_) | (with_reducible refine andB_lt ?_ ?_) | (with_reducible refine andB_le ?_ ?_)); · (first | (with_reducible assumption) | (first | omega | (simp only [castL_self, seg_len, rowAt_one, rowAt_oneS, List.length_append, List.length_cons, List.length_nil, List.length_drop, List.length_take, List.length_eraseIdx, List.length_replicate, ByteArray.size_extract, bs_app, strOf_size, bytesL_len, maxI_eq] <;> omega)))) | ((first | (with_reducible refine iteB_ltt ?_ ?_) | (with_reducible refine iteB_let ?_ ?_) | (with_reducible refine iteB_dt ?_ ?_)); · (first | (with_reducible assumption) | (first | omega | (simp only [castL_self, seg_len, rowAt_one, rowAt_oneS, List.length_append, List.length_cons, List.length_nil, List.length_drop, List.length_take, List.length_eraseIdx, List.length_replicate, ByteArray.size_extract, bs_app, strOf_size, bytesL_len, maxI_eq] <;> omega)))) | ((first | (with_reducible refine iteB_ltf ?_ ?_) | (with_reducible refine iteB_lef ?_ ?_) | (with_reducible refine iteB_df ?_ ?_)); · (first | (with_reducible assumption) | (first | omega | (simp only [castL_self, seg_len, rowAt_one, rowAt_oneS, List.length_append, List.length_cons, List.length_nil, List.length_drop, List.length_take, List.length_eraseIdx, List.length_replicate, ByteArray.size_extract, bs_app, strOf_size, bytesL_len, maxI_eq] <;> omega)))) | ((first | (with_reducible refine andB_i ?_ ?_) | (with_reducible refine iteB_t ?_ ?_)); · (first | (with_reducible assumption) | (with_reducible exact decide_eq_true rfl) | (with_reducible exact sEq_self _) | ((with_reducible refine eqOK_i ?_); kernel_rfl))) | ((with_reducible refine iteB_f ?_ ?_); · (first | (with_reducible assumption) | (with_reducible exact decide_eq_true rfl) | (with_reducible exact sEq_self _) | ((with_reducible refine eqOK_i ?_); kernel_rfl))) | (with_reducible refine ⟨_, _, rfl, ?_⟩) | (with_reducible refine CD.wk_au ?_) | (with_reducible refine andB_in ?_ ?_) | (with_reducible refine andB_lt ?_ ?_) | (with_reducible refine andB_le ?_ ?_) | (with_reducible refine andB_d ?_ ?_) | (with_reducible refine andB_i ?_ ?_) | (with_reducible refine iteB_lts (fun hB => ?_) (fun hB => ?_)) | (with_reducible refine iteB_les (fun hB => ?_) (fun hB => ?_)) | (with_reducible refine iteB_ds (fun hB => ?_) (fun hB => ?_)) | (with_reducible refine iteB_s (fun hB => ?_) (fun hB => ?_)) | (with_reducible refine CD.wk_as ?_) | (with_reducible refine And.intro ?_ ?_))
          all_goals (conv => whnf)
          all_goals (try dsimp only)
          all_goals (try simp only [Nat.succ_eq_add_one, Nat.le_eq, castL_self])
          all_goals (try omega)
          all_goals (try (simp only [castL_self, seg_len, rowAt_one, rowAt_oneS, List.length_append, List.length_cons, List.length_nil, List.length_drop, List.length_take, List.length_eraseIdx, List.length_replicate, ByteArray.size_extract, bs_app, strOf_size, bytesL_len, maxI_eq] <;> omega))
          all_goals trace_state
      · rw [decide_eq_false c3, Bool.false_and] at hf
        have hE := hE hf
        obtain ⟨rfl, rfl⟩ := ScI_stop hI hf
        repeat' (conv => whnf
                 first | (with_reducible exact True.intro) | (with_reducible rfl) | (with_reducible exact castL_self _ _) | ((with_reducible refine V.same_t ?_); exact rfl) | (with_reducible refine iteB_n ?_) | (with_reducible refine iteB_ct ?_) | (with_reducible refine iteB_cf ?_) | (with_reducible refine iteB_bt ?_) | (with_reducible refine iteB_bf ?_) | (with_reducible refine iteB_tb ?_) | (with_reducible refine iteB_fb ?_) | ((with_reducible refine andB_room ?_ ?_ ?_); (· kernel_rfl); (· (first | omega | (simp only [castL_self, seg_len, rowAt_one, rowAt_oneS, List.length_append, List.length_cons, List.length_nil, List.length_drop, List.length_take, List.length_eraseIdx, List.length_replicate, ByteArray.size_extract, bs_app, strOf_size, bytesL_len, maxI_eq] <;> omega)))) | ((first | (with_reducible refine andB_in ?_ ?_) | (with_reducible refine andB_d ?_ ?_) | (with_reducible refine andB_lt ?_ ?_) | (with_reducible refine andB_le ?_ ?_)); · (first | (with_reducible assumption) | (first | omega | (simp only [castL_self, seg_len, rowAt_one, rowAt_oneS, List.length_append, List.length_cons, List.length_nil, List.length_drop, List.length_take, List.length_eraseIdx, List.length_replicate, ByteArray.size_extract, bs_app, strOf_size, bytesL_len, maxI_eq] <;> omega)))) | ((first | (with_reducible refine iteB_ltt ?_ ?_) | (with_reducible refine iteB_let ?_ ?_) | (with_reducible refine iteB_dt ?_ ?_)); · (first | (with_reducible assumption) | (first | omega | (simp only [castL_self, seg_len, rowAt_one, rowAt_oneS, List.length_append, List.length_cons, List.length_nil, List.length_drop, List.length_take, List.length_eraseIdx, List.length_replicate, ByteArray.size_extract, bs_app, strOf_size, bytesL_len, maxI_eq] <;> omega)))) | ((first | (with_reducible refine iteB_ltf ?_ ?_) | (with_reducible refine iteB_lef ?_ ?_) | (with_reducible refine iteB_df ?_ ?_)); · (first | (with_reducible assumption) | (first | omega | (simp only [castL_self, seg_len, rowAt_one, rowAt_oneS, List.length_append, List.length_cons, List.length_nil, List.length_drop, List.length_take, List.length_eraseIdx, List.length_replicate, ByteArray.size_extract, bs_app, strOf_size, bytesL_len, maxI_eq] <;> omega)))) | ((first | (with_reducible refine andB_i ?_ ?_) | (with_reducible refine iteB_t ?_ ?_)); · (first | (with_reducible assumption) | (with_reducible exact decide_eq_true rfl) | (with_reducible exact sEq_self _) | ((with_reducible refine eqOK_i ?_); kernel_rfl))) | ((with_reducible refine iteB_f ?_ ?_); · (first | (with_reducible assumption) | (with_reducible exact decide_eq_true rfl) | (with_reducible exact sEq_self _) | ((with_reducible refine eqOK_i ?_); kernel_rfl))) | (with_reducible refine ⟨_, _, rfl, ?_⟩) | (with_reducible refine CD.wk_au ?_) | (with_reducible refine andB_in ?_ ?_) | (with_reducible refine andB_lt ?_ ?_) | (with_reducible refine andB_le ?_ ?_) | (with_reducible refine andB_d ?_ ?_) | (with_reducible refine andB_i ?_ ?_) | (with_reducible refine iteB_lts (fun hB => ?_) (fun hB => ?_)) | (with_reducible refine iteB_les (fun hB => ?_) (fun hB => ?_)) | (with_reducible refine iteB_ds (fun hB => ?_) (fun hB => ?_)) | (with_reducible refine iteB_s (fun hB => ?_) (fun hB => ?_)) | (with_reducible refine CD.wk_as ?_) | (with_reducible refine And.intro ?_ ?_))
        all_goals (conv => whnf)
        all_goals (try dsimp only)
        all_goals (try simp only [Nat.succ_eq_add_one, Nat.le_eq, castL_self])
        all_goals (try omega)
        all_goals (try (simp only [castL_self, seg_len, rowAt_one, rowAt_oneS, List.length_append, List.length_cons, List.length_nil, List.length_drop, List.length_take, List.length_eraseIdx, List.length_replicate, ByteArray.size_extract, bs_app, strOf_size, bytesL_len, maxI_eq] <;> omega))
        all_goals trace_state
    · rw [decide_eq_false c2, Bool.false_and] at hf
      have hE := hE hf
      obtain ⟨rfl, rfl⟩ := ScI_stop hI hf
      repeat' (conv => whnf
               first | (with_reducible exact True.intro) | (with_reducible rfl) | (with_reducible exact castL_self _ _) | ((with_reducible refine V.same_t ?_); exact rfl) | (with_reducible refine iteB_n ?_) | (with_reducible refine iteB_ct ?_) | (with_reducible refine iteB_cf ?_) | (with_reducible refine iteB_bt ?_) | (with_reducible refine iteB_bf ?_) | (with_reducible refine iteB_tb ?_) | (with_reducible refine iteB_fb ?_) | ((with_reducible refine andB_room ?_ ?_ ?_); (· kernel_rfl); (· (first | omega | (simp only [castL_self, seg_len, rowAt_one, rowAt_oneS, List.length_append, List.length_cons, List.length_nil, List.length_drop, List.length_take, List.length_eraseIdx, List.length_replicate, ByteArray.size_extract, bs_app, strOf_size, bytesL_len, maxI_eq] <;> omega)))) | ((first | (with_reducible refine andB_in ?_ ?_) | (with_reducible refine andB_d ?_ ?_) | (with_reducible refine andB_lt ?_ ?_) | (with_reducible refine andB_le ?_ ?_)); · (first | (with_reducible assumption) | (first | omega | (simp only [castL_self, seg_len, rowAt_one, rowAt_oneS, List.length_append, List.length_cons, List.length_nil, List.length_drop, List.length_take, List.length_eraseIdx, List.length_replicate, ByteArray.size_extract, bs_app, strOf_size, bytesL_len, maxI_eq] <;> omega)))) | ((first | (with_reducible refine iteB_ltt ?_ ?_) | (with_reducible refine iteB_let ?_ ?_) | (with_reducible refine iteB_dt ?_ ?_)); · (first | (with_reducible assumption) | (first | omega | (simp only [castL_self, seg_len, rowAt_one, rowAt_oneS, List.length_append, List.length_cons, List.length_nil, List.length_drop, List.length_take, List.length_eraseIdx, List.length_replicate, ByteArray.size_extract, bs_app, strOf_size, bytesL_len, maxI_eq] <;> omega)))) | ((first | (with_reducible refine iteB_ltf ?_ ?_) | (with_reducible refine iteB_lef ?_ ?_) | (with_reducible refine iteB_df ?_ ?_)); · (first | (with_reducible assumption) | (first | omega | (simp only [castL_self, seg_len, rowAt_one, rowAt_oneS, List.length_append, List.length_cons, List.length_nil, List.length_drop, List.length_take, List.length_eraseIdx, List.length_replicate, ByteArray.size_extract, bs_app, strOf_size, bytesL_len, maxI_eq] <;> omega)))) | ((first | (with_reducible refine andB_i ?_ ?_) | (with_reducible refine iteB_t ?_ ?_)); · (first | (with_reducible assumption) | (with_reducible exact decide_eq_true rfl) | (with_reducible exact sEq_self _) | ((with_reducible refine eqOK_i ?_); kernel_rfl))) | ((with_reducible refine iteB_f ?_ ?_); · (first | (with_reducible assumption) | (with_reducible exact decide_eq_true rfl) | (with_reducible exact sEq_self _) | ((with_reducible refine eqOK_i ?_); kernel_rfl))) | (with_reducible refine ⟨_, _, rfl, ?_⟩) | (with_reducible refine CD.wk_au ?_) | (with_reducible refine andB_in ?_ ?_) | (with_reducible refine andB_lt ?_ ?_) | (with_reducible refine andB_le ?_ ?_) | (with_reducible refine andB_d ?_ ?_) | (with_reducible refine andB_i ?_ ?_) | (with_reducible refine iteB_lts (fun hB => ?_) (fun hB => ?_)) | (with_reducible refine iteB_les (fun hB => ?_) (fun hB => ?_)) | (with_reducible refine iteB_ds (fun hB => ?_) (fun hB => ?_)) | (with_reducible refine iteB_s (fun hB => ?_) (fun hB => ?_)) | (with_reducible refine CD.wk_as ?_) | (with_reducible refine And.intro ?_ ?_))
      all_goals (conv => whnf)
      all_goals (try dsimp only)
      all_goals (try simp only [Nat.succ_eq_add_one, Nat.le_eq, castL_self])
      all_goals (try omega)
      all_goals (try (simp only [castL_self, seg_len, rowAt_one, rowAt_oneS, List.length_append, List.length_cons, List.length_nil, List.length_drop, List.length_take, List.length_eraseIdx, List.length_replicate, ByteArray.size_extract, bs_app, strOf_size, bytesL_len, maxI_eq] <;> omega))
      all_goals trace_state
  · rw [decide_eq_false c1, Bool.false_and] at hf
    obtain ⟨rfl, rfl⟩ := ScI_stop hI hf
    have hE : scEnd s = false := by rw [scEnd, hide_eq]; exact decide_eq_false (by omega)
    repeat' (conv => whnf
             first | (with_reducible exact True.intro) | (with_reducible rfl) | (with_reducible exact castL_self _ _) | ((with_reducible refine V.same_t ?_); exact rfl) | (with_reducible refine iteB_n ?_) | (with_reducible refine iteB_ct ?_) | (with_reducible refine iteB_cf ?_) | (with_reducible refine iteB_bt ?_) | (with_reducible refine iteB_bf ?_) | (with_reducible refine iteB_tb ?_) | (with_reducible refine iteB_fb ?_) | ((with_reducible refine andB_room ?_ ?_ ?_); (· kernel_rfl); (· (first | omega | (simp only [castL_self, seg_len, rowAt_one, rowAt_oneS, List.length_append, List.length_cons, List.length_nil, List.length_drop, List.length_take, List.length_eraseIdx, List.length_replicate, ByteArray.size_extract, bs_app, strOf_size, bytesL_len, maxI_eq] <;> omega)))) | ((first | (with_reducible refine andB_in ?_ ?_) | (with_reducible refine andB_d ?_ ?_) | (with_reducible refine andB_lt ?_ ?_) | (with_reducible refine andB_le ?_ ?_)); · (first | (with_reducible assumption) | (first | omega | (simp only [castL_self, seg_len, rowAt_one, rowAt_oneS, List.length_append, List.length_cons, List.length_nil, List.length_drop, List.length_take, List.length_eraseIdx, List.length_replicate, ByteArray.size_extract, bs_app, strOf_size, bytesL_len, maxI_eq] <;> omega)))) | ((first | (with_reducible refine iteB_ltt ?_ ?_) | (with_reducible refine iteB_let ?_ ?_) | (with_reducible refine iteB_dt ?_ ?_)); · (first | (with_reducible assumption) | (first | omega | (simp only [castL_self, seg_len, rowAt_one, rowAt_oneS, List.length_append, List.length_cons, List.length_nil, List.length_drop, List.length_take, List.length_eraseIdx, List.length_replicate, ByteArray.size_extract, bs_app, strOf_size, bytesL_len, maxI_eq] <;> omega)))) | ((first | (with_reducible refine iteB_ltf ?_ ?_) | (with_reducible refine iteB_lef ?_ ?_) | (with_reducible refine iteB_df ?_ ?_)); · (first | (with_reducible assumption) | (first | omega | (simp only [castL_self, seg_len, rowAt_one, rowAt_oneS, List.length_append, List.length_cons, List.length_nil, List.length_drop, List.length_take, List.length_eraseIdx, List.length_replicate, ByteArray.size_extract, bs_app, strOf_size, bytesL_len, maxI_eq] <;> omega)))) | ((first | (with_reducible refine andB_i ?_ ?_) | (with_reducible refine iteB_t ?_ ?_)); · (first | (with_reducible assumption) | (with_reducible exact decide_eq_true rfl) | (with_reducible exact sEq_self _) | ((with_reducible refine eqOK_i ?_); kernel_rfl))) | ((with_reducible refine iteB_f ?_ ?_); · (first | (with_reducible assumption) | (with_reducible exact decide_eq_true rfl) | (with_reducible exact sEq_self _) | ((with_reducible refine eqOK_i ?_); kernel_rfl))) | (with_reducible refine ⟨_, _, rfl, ?_⟩) | (with_reducible refine CD.wk_au ?_) | (with_reducible refine andB_in ?_ ?_) | (with_reducible refine andB_lt ?_ ?_) | (with_reducible refine andB_le ?_ ?_) | (with_reducible refine andB_d ?_ ?_) | (with_reducible refine andB_i ?_ ?_) | (with_reducible refine iteB_lts (fun hB => ?_) (fun hB => ?_)) | (with_reducible refine iteB_les (fun hB => ?_) (fun hB => ?_)) | (with_reducible refine iteB_ds (fun hB => ?_) (fun hB => ?_)) | (with_reducible refine iteB_s (fun hB => ?_) (fun hB => ?_)) | (with_reducible refine CD.wk_as ?_) | (with_reducible refine And.intro ?_ ?_))
    all_goals (conv => whnf)
    all_goals (try dsimp only)
    all_goals (try simp only [Nat.succ_eq_add_one, Nat.le_eq, castL_self])
    all_goals (try omega)
    all_goals (try (simp only [castL_self, seg_len, rowAt_one, rowAt_oneS, List.length_append, List.length_cons, List.length_nil, List.length_drop, List.length_take, List.length_eraseIdx, List.length_replicate, ByteArray.size_extract, bs_app, strOf_size, bytesL_len, maxI_eq] <;> omega))
    all_goals trace_state
end Go.Proofs.Ytjjebdfjmbnhpaa
end

section
namespace Go.Proofs.Ytjjebdfjmbnhpaa
open Go.Sym
set_option linter.unusedVariables false
set_option linter.unusedSimpArgs false
set_option maxRecDepth 100000
set_option maxHeartbeats 4000000

theorem scan_at (s : ByteArray) (hs : s.size ≤ 100000) : PureAt Try.prog 26 [.str s] (.tup [.lst [.str] (scL s) false, .int .i64 (((scN s : Nat) : Int))]) := by
  refine pure_of_G tabScan_ok (fuel := 3) (d := 5) [⟨81, 7, ⟨0, [], scC s [] 0, scO s⟩⟩] (fun g hg N => ?_) [] (fun _ _ h => by cases h) ?_
  · rw [List.mem_singleton.1 hg]
    exact scan_loop s hs N
  · repeat' (conv => whnf
             first | (with_reducible exact True.intro) | (with_reducible rfl) | (with_reducible exact castL_self _ _) | ((with_reducible refine V.same_t ?_); exact rfl) | (with_reducible refine iteB_n ?_) | (with_reducible refine iteB_ct ?_) | (with_reducible refine iteB_cf ?_) | (with_reducible refine iteB_bt ?_) | (with_reducible refine iteB_bf ?_) | (with_reducible refine iteB_tb ?_) | (with_reducible refine iteB_fb ?_) | ((with_reducible refine andB_room ?_ ?_ ?_); (· kernel_rfl); (· (first | omega | (simp only [castL_self, seg_len, rowAt_one, rowAt_oneS, List.length_append, List.length_cons, List.length_nil, List.length_drop, List.length_take, List.length_eraseIdx, List.length_replicate, ByteArray.size_extract, bs_app, strOf_size, bytesL_len, maxI_eq] <;> omega)))) | ((first | (with_reducible refine andB_in ?_ ?_) | (with_reducible refine andB_d ?_ ?_) | (with_reducible refine andB_lt ?_ ?_) | (with_reducible refine andB_le ?_ ?_)); · (first | (with_reducible assumption) | (first | omega | (simp only [castL_self, seg_len, rowAt_one, rowAt_oneS, List.length_append, List.length_cons, List.length_nil, List.length_drop, List.length_take, List.length_eraseIdx, List.length_replicate, ByteArray.size_extract, bs_app, strOf_size, bytesL_len, maxI_eq] <;> omega)))) | ((first | (with_reducible refine iteB_ltt ?_ ?_) | (with_reducible refine iteB_let ?_ ?_) | (with_reducible refine iteB_dt ?_ ?_)); · (first | (with_reducible assumption) | (first | omega | (simp only [castL_self, seg_len, rowAt_one, rowAt_oneS, List.length_append, List.length_cons, List.length_nil, List.length_drop, List.length_take, List.length_eraseIdx, List.length_replicate, ByteArray.size_extract, bs_app, strOf_size, bytesL_len, maxI_eq] <;> omega)))) | ((first | (with_reducible refine iteB_ltf ?_ ?_) | (with_reducible refine iteB_lef ?_ ?_) | (with_reducible refine iteB_df ?_ ?_)); · (first | (with_reducible assumption) | (first | omega | (simp only [castL_self, seg_len, rowAt_one, rowAt_oneS, List.length_append, List.length_cons, List.length_nil, List.length_drop, List.length_take, List.length_eraseIdx, List.length_replicate, ByteArray.size_extract, bs_app, strOf_size, bytesL_len, maxI_eq] <;> omega)))) | ((first | (with_reducible refine andB_i ?_ ?_) | (with_reducible refine iteB_t ?_ ?_)); · (first | (with_reducible assumption) | (with_reducible exact decide_eq_true rfl) | (with_reducible exact sEq_self _) | ((with_reducible refine eqOK_i ?_); kernel_rfl))) | ((with_reducible refine iteB_f ?_ ?_); · (first | (with_reducible assumption) | (with_reducible exact decide_eq_true rfl) | (with_reducible exact sEq_self _) | ((with_reducible refine eqOK_i ?_); kernel_rfl))) | (with_reducible refine ⟨_, _, rfl, ?_⟩) | (with_reducible refine CD.wk_au ?_) | (with_reducible refine andB_in ?_ ?_) | (with_reducible refine andB_lt ?_ ?_) | (with_reducible refine andB_le ?_ ?_) | (with_reducible refine andB_d ?_ ?_) | (with_reducible refine andB_i ?_ ?_) | (with_reducible refine iteB_lts (fun hB => ?_) (fun hB => ?_)) | (with_reducible refine iteB_les (fun hB => ?_) (fun hB => ?_)) | (with_reducible refine iteB_ds (fun hB => ?_) (fun hB => ?_)) | (with_reducible refine iteB_s (fun hB => ?_) (fun hB => ?_)) | (with_reducible refine CD.wk_as ?_) | (with_reducible refine And.intro ?_ ?_))
    all_goals (conv => whnf)
    all_goals (try dsimp only)
    all_goals (try simp only [Nat.succ_eq_add_one, Nat.le_eq, castL_self])
    all_goals (try omega)
    all_goals (try (simp only [castL_self, seg_len, rowAt_one, rowAt_oneS, List.length_append, List.length_cons, List.length_nil, List.length_drop, List.length_take, List.length_eraseIdx, List.length_replicate, ByteArray.size_extract, bs_app, strOf_size, bytesL_len, maxI_eq] <;> omega))
    all_goals first
      | rfl
      | exact congrArg (fun l => V.tup [V.lst [.str] l false, .int .i64 (((scN s : Nat) : Int))]) (seg_all (scL s) rfl)
      | kernel_rfl
      | trace_state
noncomputable def scanF (args : List V) : Option (List Bool × V) := match args with
  | [.str s] => some ([decide (s.size ≤ 100000)], .tup [.lst [.str] (scL s) false, .int .i64 (((scN s : Nat) : Int))])
  | _ => none
theorem scanF_ok (args : List V) (c : List Bool) (v : V) (h : scanF args = some (c, v)) (hc : allB c) : PureAt Try.prog 26 args v := by
  unfold scanF at h
  split at h
  · cases h; exact scan_at _ (of_decide_eq_true hc.1)
  · cases h
end Go.Proofs.Ytjjebdfjmbnhpaa
end

section
namespace Go.Proofs.Ytjjebdfjmbnhpaa
open Go.Sym
set_option linter.unusedVariables false
set_option linter.unusedSimpArgs false
set_option maxRecDepth 100000
set_option maxHeartbeats 4000000

theorem refnumber_at (b : ByteArray) (hb : b.size = 4) : PureAt Try.prog 61 [.str b] (.int .i64 (numH b)) := by
  have h0 := bAt_u8 b (Int.toNat 0)
  have h1 := bAt_u8 b (Int.toNat 1)
  have h2 := bAt_u8 b (Int.toNat 2)
  have h3 := bAt_u8 b (Int.toNat 3)
  have t0 : Int.toNat 0 = 0 := rfl
  have t1 : Int.toNat 1 = 1 := rfl
  have t2 : Int.toNat 2 = 2 := rfl
  have t3 : Int.toNat 3 = 3 := rfl
  rw [numH_eq]
  refine pure_of_W0 (tab := noTab) (fuel := 3) (d := 4) noTab_ok ?_
  repeat' (conv => whnf
           first | (with_reducible exact True.intro) | (with_reducible rfl) | (with_reducible exact castL_self _ _) | ((with_reducible refine V.same_t ?_); exact rfl) | (with_reducible refine iteB_n ?_) | (with_reducible refine iteB_ct ?_) | (with_reducible refine iteB_cf ?_) | (with_reducible refine iteB_bt ?_) | (with_reducible refine iteB_bf ?_) | (with_reducible refine iteB_tb ?_) | (with_reducible refine iteB_fb ?_) | ((with_reducible refine andB_room ?_ ?_ ?_); (· kernel_rfl); (· (first | omega | (simp only [castL_self, seg_len, rowAt_one, rowAt_oneS, List.length_append, List.length_cons, List.length_nil, List.length_drop, List.length_take, List.length_eraseIdx, List.length_replicate, ByteArray.size_extract, bs_app, strOf_size, bytesL_len, maxI_eq] <;> omega)))) | ((first | (with_reducible refine andB_in ?_ ?_) | (with_reducible refine andB_d ?_ ?_) | (with_reducible refine andB_lt ?_ ?_) | (with_reducible refine andB_le ?_ ?_)); · (first | (with_reducible assumption) | (first | omega | (simp only [castL_self, seg_len, rowAt_one, rowAt_oneS, List.length_append, List.length_cons, List.length_nil, List.length_drop, List.length_take, List.length_eraseIdx, List.length_replicate, ByteArray.size_extract, bs_app, strOf_size, bytesL_len, maxI_eq] <;> omega)))) | ((first | (with_reducible refine iteB_ltt ?_ ?_) | (with_reducible refine iteB_let ?_ ?_) | (with_reducible refine iteB_dt ?_ ?_)); · (first | (with_reducible assumption) | (first | omega | (simp only [castL_self, seg_len, rowAt_one, rowAt_oneS, List.length_append, List.length_cons, List.length_nil, List.length_drop, List.length_take, List.length_eraseIdx, List.length_replicate, ByteArray.size_extract, bs_app, strOf_size, bytesL_len, maxI_eq] <;> omega)))) | ((first | (with_reducible refine iteB_ltf ?_ ?_) | (with_reducible refine iteB_lef ?_ ?_) | (with_reducible refine iteB_df ?_ ?_)); · (first | (with_reducible assumption) | (first | omega | (simp only [castL_self, seg_len, rowAt_one, rowAt_oneS, List.length_append, List.length_cons, List.length_nil, List.length_drop, List.length_take, List.length_eraseIdx, List.length_replicate, ByteArray.size_extract, bs_app, strOf_size, bytesL_len, maxI_eq] <;> omega)))) | ((first | (with_reducible refine andB_i ?_ ?_) | (with_reducible refine iteB_t ?_ ?_)); · (first | (with_reducible assumption) | (with_reducible exact decide_eq_true rfl) | (with_reducible exact sEq_self _) | ((with_reducible refine eqOK_i ?_); kernel_rfl))) | ((with_reducible refine iteB_f ?_ ?_); · (first | (with_reducible assumption) | (with_reducible exact decide_eq_true rfl) | (with_reducible exact sEq_self _) | ((with_reducible refine eqOK_i ?_); kernel_rfl))) | (with_reducible refine andB_in ?_ ?_) | (with_reducible refine andB_lt ?_ ?_) | (with_reducible refine andB_le ?_ ?_) | (with_reducible refine andB_d ?_ ?_) | (with_reducible refine andB_i ?_ ?_) | (with_reducible refine iteB_lts (fun hB => ?_) (fun hB => ?_)) | (with_reducible refine iteB_les (fun hB => ?_) (fun hB => ?_)) | (with_reducible refine iteB_ds (fun hB => ?_) (fun hB => ?_)) | (with_reducible refine iteB_s (fun hB => ?_) (fun hB => ?_)) | (with_reducible refine CD.wk_as ?_) | (with_reducible refine And.intro ?_ ?_))
  all_goals (conv => whnf)
  all_goals (try dsimp only)
  all_goals (try simp only [Nat.succ_eq_add_one, Nat.le_eq, castL_self])
  all_goals (try omega)
  all_goals (try (simp only [castL_self, seg_len, rowAt_one, rowAt_oneS, List.length_append, List.length_cons, List.length_nil, List.length_drop, List.length_take, List.length_eraseIdx, List.length_replicate, ByteArray.size_extract, bs_app, strOf_size, bytesL_len, maxI_eq] <;> omega))
  all_goals first
    | rfl
    | (simp only [t0, t1, t2, t3]; done)
    | trace_state
noncomputable def refnumberF (args : List V) : Option (List Bool × V) := match args with
  | [.str s] => some ([decide (s.size = 4)], .int .i64 (numH s))
  | _ => none
theorem refnumberF_ok (args : List V) (c : List Bool) (v : V) (h : refnumberF args = some (c, v)) (hc : allB c) : PureAt Try.prog 61 args v := by
  unfold refnumberF at h
  split at h
  · cases h; exact refnumber_at _ (of_decide_eq_true hc.1)
  · cases h
noncomputable def frameF (args : List V) : Option (List Bool × V) := match args with
  | [.str s] => some ([], .tup [.str (frV s), .int .i64 (frE s)])
  | _ => none
theorem frameF_ok (args : List V) (c : List Bool) (v : V) (h : frameF args = some (c, v)) (hc : allB c) : PureAt Try.prog 24 args v := by
  unfold frameF at h
  split at h
  · cases h; exact frame_at _
  · cases h
theorem refframeF_ok (args : List V) (c : List Bool) (v : V) (h : frameF args = some (c, v)) (hc : allB c) : PureAt Try.prog 25 args v := by
  unfold frameF at h
  split at h
  · cases h; exact refframe_at _
  · cases h
noncomputable def tabRef : Tab := oneTab 61 refnumberF (oneTab 25 frameF noTab)
theorem tabRef_ok : TabOK Try.prog tabRef := oneTab_ok refnumberF_ok (oneTab_ok refframeF_ok noTab_ok)

theorem fourH_nat (q : Nat) : fourH (q : Int) = ⟨#[UInt8.ofNat (q % 256), UInt8.ofNat (q / 256 % 256), UInt8.ofNat (q / 65536 % 256), UInt8.ofNat (q / 16777216 % 256)]⟩ := by
  rw [fourH_eq]
  simp only [strOf, List.map]
  rw [show ((q : Int) % 256).toNat = q % 256 by omega, show ((q : Int) / 256 % 256).toNat = q / 256 % 256 by omega, show ((q : Int) / 65536 % 256).toNat = q / 65536 % 256 by omega, show ((q : Int) / 16777216 % 256).toNat = q / 16777216 % 256 by omega]
theorem u8_nat (b : UInt8) (m : Nat) (h : m % 256 = b.toNat) : UInt8.ofNat (m % 256) = b := by
  have := b.toNat_lt
  refine UInt8.toNat_inj.1 ?_
  rw [h]
  simp
theorem num_four (q : Nat) (hq : q < 4294967296) : numH (fourH (q : Int)) = q := by
  rw [fourH_nat, numH_eq]
  show (((UInt8.ofNat (q % 256)).toNat : Nat) : Int) + 256 * (((UInt8.ofNat (q / 256 % 256)).toNat : Nat) : Int) + 65536 * (((UInt8.ofNat (q / 65536 % 256)).toNat : Nat) : Int) + 16777216 * (((UInt8.ofNat (q / 16777216 % 256)).toNat : Nat) : Int) = _
  simp only [UInt8.toNat_ofNat', Nat.reducePow]
  omega
theorem four_num (b : ByteArray) (hb : b.size = 4) : fourH (numH b) = b := by
  obtain ⟨b0, b1, b2, b3, rfl⟩ : ∃ b0 b1 b2 b3, b = ⟨#[b0, b1, b2, b3]⟩ := by
    have hl : b.data.toList.length = 4 := by rw [Array.length_toList]; exact hb
    match hx : b.data.toList, hl with
    | [b0, b1, b2, b3], _ => exact ⟨b0, b1, b2, b3, ba_ext hx⟩
  have h0 := b0.toNat_lt
  have h1 := b1.toNat_lt
  have h2 := b2.toNat_lt
  have h3 := b3.toNat_lt
  have e : numH ⟨#[b0, b1, b2, b3]⟩ = ((b0.toNat + 256 * b1.toNat + 65536 * b2.toNat + 16777216 * b3.toNat : Nat) : Int) := by
    rw [numH_eq]
    show ((b0.toNat : Nat) : Int) + 256 * ((b1.toNat : Nat) : Int) + 65536 * ((b2.toNat : Nat) : Int) + 16777216 * ((b3.toNat : Nat) : Int) = _
    omega
  rw [e, fourH_nat, u8_nat b0 _ (by omega), u8_nat b1 _ (by omega), u8_nat b2 _ (by omega), u8_nat b3 _ (by omega)]
theorem ext_list (s : ByteArray) (i j : Nat) : (s.extract i j).data.toList = (s.data.toList.take j).drop i := by
  rw [ByteArray.data_extract, Array.toList_extract, List.extract_eq_take_drop, List.drop_take]
theorem ba_app_list (a b : ByteArray) : (a ++ b).data.toList = a.data.toList ++ b.data.toList := by
  rw [ByteArray.data_append, Array.toList_append]
theorem ext_app (s : ByteArray) (i j k : Nat) (h1 : i ≤ j) (h2 : j ≤ k) : s.extract i j ++ s.extract j k = s.extract i k := by
  refine ba_ext ?_
  rw [ba_app_list, ext_list, ext_list, ext_list]
  generalize s.data.toList = l
  have e : (l.take k).drop i = ((l.take k).drop i).take (j - i) ++ ((l.take k).drop i).drop (j - i) := (List.take_append_drop _ _).symm
  rw [e, List.drop_drop, show i + (j - i) = j by omega]
  congr 1
  rw [List.drop_take, List.drop_take, List.take_take, Nat.min_eq_left (by omega)]
theorem sumB_in (s : ByteArray) : 0 ≤ sumB s ∧ sumB s < 4294967296 := by
  have := crcL_lt s.data.toList
  rw [sumB_eq]; omega
theorem ba_app_inj {a b c d : ByteArray} (h : a.size = c.size) (e : a ++ b = c ++ d) : a = c ∧ b = d := by
  have e := congrArg (fun x : ByteArray => x.data.toList) e
  simp only [ba_app_list] at e
  have := List.append_inj e (by rw [Array.length_toList, Array.length_toList]; exact h)
  exact ⟨ba_ext this.1, ba_ext this.2⟩
theorem frame_eq (s : ByteArray) (o : Nat) (hn : frN s o ≤ 65535) (h : o + 8 + frN s o ≤ s.size) : sEq (frV (s.extract (o + 8) (o + 8 + frN s o))) (s.extract o (o + 8 + frN s o)) = decide (sumB (s.extract o (o + 4) ++ s.extract (o + 8) (o + 8 + frN s o)) = numH (s.extract (o + 4) (o + 8))) := by
  have hz : (s.extract (o + 8) (o + 8 + frN s o)).size = frN s o := by rw [ByteArray.size_extract]; omega
  have h4 : (s.extract o (o + 4)).size = 4 := by rw [ByteArray.size_extract]; omega
  have h4' : (s.extract (o + 4) (o + 8)).size = 4 := by rw [ByteArray.size_extract]; omega
  have hin := numH_in (s.extract o (o + 4))
  have hN : ((frN s o : Nat) : Int) = numH (s.extract o (o + 4)) := by unfold frN; omega
  have hc : decide (65535 < ((s.extract (o + 8) (o + 8 + frN s o)).size : Int)) = false := by rw [hz]; exact decide_eq_false (by omega)
  have hw : ((s.extract (o + 8) (o + 8 + frN s o)).size : Int) = numH (s.extract o (o + 4)) := by rw [hz]; exact hN
  have he : s.extract o (o + 8 + frN s o) = s.extract o (o + 4) ++ s.extract (o + 4) (o + 8) ++ s.extract (o + 8) (o + 8 + frN s o) := by
    rw [ext_app s o (o + 4) (o + 8) (by omega) (by omega), ext_app s o (o + 8) _ (by omega) (by omega)]
  rw [frV_eq, hc, cond_false, hw, four_num _ h4, he]
  obtain ⟨x1, x2⟩ := sumB_in (s.extract o (o + 4) ++ s.extract (o + 8) (o + 8 + frN s o))
  generalize sumB (s.extract o (o + 4) ++ s.extract (o + 8) (o + 8 + frN s o)) = x at *
  obtain ⟨q, rfl⟩ := Int.eq_ofNat_of_zero_le x1
  show decide (_ = _) = _
  refine decide_eq_decide.2 ⟨fun e => ?_, fun e => ?_⟩
  · have e2 := (ba_app_inj (by rw [ByteArray.size_append, ByteArray.size_append, fourH_size, h4']) e).1
    have e3 := (ba_app_inj rfl e2).2
    rw [← e3, num_four q (by omega)]
  · rw [e, four_num _ h4']
noncomputable def rsC (s : ByteArray) (l : List ByteArray) (o : Nat) : CD := ⟨69, [(0, .str s), (4, .rs 0 0 l.length l.length false 1), (5, .int .i64 (o : Int))], [], [(0, .rows [.str] l 9 false)], 1⟩
noncomputable def rsO (s : ByteArray) : OD := .leaf (.exit 0) (rsC s (scL s) (scN s))
theorem refscan_at (s : ByteArray) (hs : s.size ≤ 100000) : PureAt Try.prog 27 [.str s] (.tup [.lst [.str] (scL s) false, .int .i64 ((scN s : Nat) : Int)]) := by
  refine pure_of_loop tabRef_ok (fuel := 3) (d := 3) 3 (X := { x : List ByteArray × Nat // ScI s x })
    (fun x => rsC s x.1.1 x.1.2) (fun x => s.size - x.1.2)
    (fun _ => rsO s) ⟨([], 0), ScI_0 s⟩ [] rfl ?_ ?_
  · rintro ⟨⟨l, o⟩, hI⟩
    dsimp only
    have ho : o ≤ s.size := hI.2.2.1
    have hlo : l.length ≤ o := hI.2.2.2
    have n4 := numH_in (s.extract o (o + 4))
    have t0 : ((o : Int)).toNat = o := by omega
    have t4 : ((o : Int) + 4).toNat = o + 4 := by omega
    have t8 : ((o : Int) + 8).toNat = o + 8 := by omega
    have n0 : @Eq Int (numH (s.extract (o : Int).toNat ((o : Int) + 4).toNat)) (frN s o : Int) := by rw [t0, t4]; unfold frN; omega
    have hf := frOK_eq s o
    by_cases c1 : o + 8 ≤ s.size
    · rw [decide_eq_true c1, Bool.true_and] at hf
      by_cases c2 : frN s o ≤ 65535
      · rw [decide_eq_true c2, Bool.true_and] at hf
        by_cases c3 : o + 8 + frN s o ≤ s.size
        · rw [decide_eq_true c3, Bool.true_and] at hf
          have hp : ((o : Int) + 8 + numH (s.extract (o : Int).toNat ((o : Int) + 4).toNat)).toNat = o + 8 + frN s o := by omega
          have hS : sEq (frV (s.extract ((o : Int) + 8).toNat ((o : Int) + 8 + numH (s.extract (o : Int).toNat ((o : Int) + 4).toNat)).toNat)) (s.extract (o : Int).toNat ((o : Int) + 8 + numH (s.extract (o : Int).toNat ((o : Int) + 4).toNat)).toNat) = decide (sumB (s.extract o (o + 4) ++ s.extract (o + 8) (o + 8 + frN s o)) = numH (s.extract (o + 4) (o + 8))) := by
            rw [t8, hp]; exact frame_eq s o c2 c3
          rw [← hS] at hf
          cases c4 : sEq (frV (s.extract ((o : Int) + 8).toNat ((o : Int) + 8 + numH (s.extract (o : Int).toNat ((o : Int) + 4).toNat)).toNat)) (s.extract (o : Int).toNat ((o : Int) + 8 + numH (s.extract (o : Int).toNat ((o : Int) + 4).toNat)).toNat) with
          | true =>
            rw [c4] at hf
            repeat' (conv => whnf
                     first | (with_reducible exact True.intro) | (with_reducible rfl) | (with_reducible exact castL_self _ _) | ((with_reducible refine V.same_t ?_); exact rfl) | (with_reducible refine iteB_n ?_) | (with_reducible refine iteB_ct ?_) | (with_reducible refine iteB_cf ?_) | (with_reducible refine iteB_bt ?_) | (with_reducible refine iteB_bf ?_) | (with_reducible refine iteB_tb ?_) | (with_reducible refine iteB_fb ?_) | ((with_reducible refine andB_room ?_ ?_ ?_); (· kernel_rfl); (· (first | omega | (simp only [castL_self, seg_len, rowAt_one, rowAt_oneS, List.length_append, List.length_cons, List.length_nil, List.length_drop, List.length_take, List.length_eraseIdx, List.length_replicate, ByteArray.size_extract, bs_app, strOf_size, bytesL_len, maxI_eq] <;> omega)))) | ((first | (with_reducible refine andB_in ?_ ?_) | (with_reducible refine andB_d ?_ ?_) | (with_reducible refine andB_lt ?_ ?_) | (with_reducible refine andB_le ?_ ?_)); · (first | (with_reducible assumption) | (first | omega | (simp only [castL_self, seg_len, rowAt_one, rowAt_oneS, List.length_append, List.length_cons, List.length_nil, List.length_drop, List.length_take, List.length_eraseIdx, List.length_replicate, ByteArray.size_extract, bs_app, strOf_size, bytesL_len, maxI_eq] <;> omega)))) | ((first | (with_reducible refine iteB_ltt ?_ ?_) | (with_reducible refine iteB_let ?_ ?_) | (with_reducible refine iteB_dt ?_ ?_)); · (first | (with_reducible assumption) | (first | omega | (simp only [castL_self, seg_len, rowAt_one, rowAt_oneS, List.length_append, List.length_cons, List.length_nil, List.length_drop, List.length_take, List.length_eraseIdx, List.length_replicate, ByteArray.size_extract, bs_app, strOf_size, bytesL_len, maxI_eq] <;> omega)))) | ((first | (with_reducible refine iteB_ltf ?_ ?_) | (with_reducible refine iteB_lef ?_ ?_) | (with_reducible refine iteB_df ?_ ?_)); · (first | (with_reducible assumption) | (first | omega | (simp only [castL_self, seg_len, rowAt_one, rowAt_oneS, List.length_append, List.length_cons, List.length_nil, List.length_drop, List.length_take, List.length_eraseIdx, List.length_replicate, ByteArray.size_extract, bs_app, strOf_size, bytesL_len, maxI_eq] <;> omega)))) | ((first | (with_reducible refine andB_i ?_ ?_) | (with_reducible refine iteB_t ?_ ?_)); · (first | (with_reducible assumption) | (with_reducible exact decide_eq_true rfl) | (with_reducible exact sEq_self _) | ((with_reducible refine eqOK_i ?_); kernel_rfl))) | ((with_reducible refine iteB_f ?_ ?_); · (first | (with_reducible assumption) | (with_reducible exact decide_eq_true rfl) | (with_reducible exact sEq_self _) | ((with_reducible refine eqOK_i ?_); kernel_rfl))) | (refine ⟨⟨(l ++ [s.extract (o + 8) (o + 8 + frN s o)], o + 8 + frN s o), ScI_step hI hf⟩, ?_, rfl, ?_⟩) | (with_reducible refine CD.wk_au ?_) | (with_reducible refine andB_in ?_ ?_) | (with_reducible refine andB_lt ?_ ?_) | (with_reducible refine andB_le ?_ ?_) | (with_reducible refine andB_d ?_ ?_) | (with_reducible refine andB_i ?_ ?_) | (with_reducible refine iteB_lts (fun hB => ?_) (fun hB => ?_)) | (with_reducible refine iteB_les (fun hB => ?_) (fun hB => ?_)) | (with_reducible refine iteB_ds (fun hB => ?_) (fun hB => ?_)) | (with_reducible refine iteB_s (fun hB => ?_) (fun hB => ?_)) | (with_reducible refine CD.wk_as ?_) | (with_reducible refine And.intro ?_ ?_))
            all_goals (conv => whnf)
            all_goals (try dsimp only)
            all_goals (try simp only [Nat.succ_eq_add_one, Nat.le_eq, castL_self])
            all_goals (try omega)
            all_goals (try (simp only [castL_self, seg_len, rowAt_one, rowAt_oneS, List.length_append, List.length_cons, List.length_nil, List.length_drop, List.length_take, List.length_eraseIdx, List.length_replicate, ByteArray.size_extract, bs_app, strOf_size, bytesL_len, maxI_eq] <;> omega))
            all_goals first
              | (rw [t8, hp, seg_all l rfl]; rfl)
              | (refine ⟨?_, trivial⟩; rw [t8, hp, seg_all l rfl]; rfl)
              | trace_state
          | false =>
            rw [c4] at hf
            obtain ⟨rfl, rfl⟩ := ScI_stop hI hf
            repeat' (conv => whnf
                     first | (with_reducible exact True.intro) | (with_reducible rfl) | (with_reducible exact castL_self _ _) | ((with_reducible refine V.same_t ?_); exact rfl) | (with_reducible refine iteB_n ?_) | (with_reducible refine iteB_ct ?_) | (with_reducible refine iteB_cf ?_) | (with_reducible refine iteB_bt ?_) | (with_reducible refine iteB_bf ?_) | (with_reducible refine iteB_tb ?_) | (with_reducible refine iteB_fb ?_) | ((with_reducible refine andB_room ?_ ?_ ?_); (· kernel_rfl); (· (first | omega | (simp only [castL_self, seg_len, rowAt_one, rowAt_oneS, List.length_append, List.length_cons, List.length_nil, List.length_drop, List.length_take, List.length_eraseIdx, List.length_replicate, ByteArray.size_extract, bs_app, strOf_size, bytesL_len, maxI_eq] <;> omega)))) | ((first | (with_reducible refine andB_in ?_ ?_) | (with_reducible refine andB_d ?_ ?_) | (with_reducible refine andB_lt ?_ ?_) | (with_reducible refine andB_le ?_ ?_)); · (first | (with_reducible assumption) | (first | omega | (simp only [castL_self, seg_len, rowAt_one, rowAt_oneS, List.length_append, List.length_cons, List.length_nil, List.length_drop, List.length_take, List.length_eraseIdx, List.length_replicate, ByteArray.size_extract, bs_app, strOf_size, bytesL_len, maxI_eq] <;> omega)))) | ((first | (with_reducible refine iteB_ltt ?_ ?_) | (with_reducible refine iteB_let ?_ ?_) | (with_reducible refine iteB_dt ?_ ?_)); · (first | (with_reducible assumption) | (first | omega | (simp only [castL_self, seg_len, rowAt_one, rowAt_oneS, List.length_append, List.length_cons, List.length_nil, List.length_drop, List.length_take, List.length_eraseIdx, List.length_replicate, ByteArray.size_extract, bs_app, strOf_size, bytesL_len, maxI_eq] <;> omega)))) | ((first | (with_reducible refine iteB_ltf ?_ ?_) | (with_reducible refine iteB_lef ?_ ?_) | (with_reducible refine iteB_df ?_ ?_)); · (first | (with_reducible assumption) | (first | omega | (simp only [castL_self, seg_len, rowAt_one, rowAt_oneS, List.length_append, List.length_cons, List.length_nil, List.length_drop, List.length_take, List.length_eraseIdx, List.length_replicate, ByteArray.size_extract, bs_app, strOf_size, bytesL_len, maxI_eq] <;> omega)))) | ((first | (with_reducible refine andB_i ?_ ?_) | (with_reducible refine iteB_t ?_ ?_)); · (first | (with_reducible assumption) | (with_reducible exact decide_eq_true rfl) | (with_reducible exact sEq_self _) | ((with_reducible refine eqOK_i ?_); kernel_rfl))) | ((with_reducible refine iteB_f ?_ ?_); · (first | (with_reducible assumption) | (with_reducible exact decide_eq_true rfl) | (with_reducible exact sEq_self _) | ((with_reducible refine eqOK_i ?_); kernel_rfl))) | (with_reducible refine CD.wk_au ?_) | (with_reducible refine andB_in ?_ ?_) | (with_reducible refine andB_lt ?_ ?_) | (with_reducible refine andB_le ?_ ?_) | (with_reducible refine andB_d ?_ ?_) | (with_reducible refine andB_i ?_ ?_) | (with_reducible refine iteB_lts (fun hB => ?_) (fun hB => ?_)) | (with_reducible refine iteB_les (fun hB => ?_) (fun hB => ?_)) | (with_reducible refine iteB_ds (fun hB => ?_) (fun hB => ?_)) | (with_reducible refine iteB_s (fun hB => ?_) (fun hB => ?_)) | (with_reducible refine CD.wk_as ?_) | (with_reducible refine And.intro ?_ ?_))
            all_goals (conv => whnf)
            all_goals (try dsimp only)
            all_goals (try simp only [Nat.succ_eq_add_one, Nat.le_eq, castL_self])
            all_goals (try omega)
            all_goals (try (simp only [castL_self, seg_len, rowAt_one, rowAt_oneS, List.length_append, List.length_cons, List.length_nil, List.length_drop, List.length_take, List.length_eraseIdx, List.length_replicate, ByteArray.size_extract, bs_app, strOf_size, bytesL_len, maxI_eq] <;> omega))
            all_goals trace_state
        · rw [decide_eq_false c3, Bool.false_and] at hf
          obtain ⟨rfl, rfl⟩ := ScI_stop hI hf
          repeat' (conv => whnf
                   first | (with_reducible exact True.intro) | (with_reducible rfl) | (with_reducible exact castL_self _ _) | ((with_reducible refine V.same_t ?_); exact rfl) | (with_reducible refine iteB_n ?_) | (with_reducible refine iteB_ct ?_) | (with_reducible refine iteB_cf ?_) | (with_reducible refine iteB_bt ?_) | (with_reducible refine iteB_bf ?_) | (with_reducible refine iteB_tb ?_) | (with_reducible refine iteB_fb ?_) | ((with_reducible refine andB_room ?_ ?_ ?_); (· kernel_rfl); (· (first | omega | (simp only [castL_self, seg_len, rowAt_one, rowAt_oneS, List.length_append, List.length_cons, List.length_nil, List.length_drop, List.length_take, List.length_eraseIdx, List.length_replicate, ByteArray.size_extract, bs_app, strOf_size, bytesL_len, maxI_eq] <;> omega)))) | ((first | (with_reducible refine andB_in ?_ ?_) | (with_reducible refine andB_d ?_ ?_) | (with_reducible refine andB_lt ?_ ?_) | (with_reducible refine andB_le ?_ ?_)); · (first | (with_reducible assumption) | (first | omega | (simp only [castL_self, seg_len, rowAt_one, rowAt_oneS, List.length_append, List.length_cons, List.length_nil, List.length_drop, List.length_take, List.length_eraseIdx, List.length_replicate, ByteArray.size_extract, bs_app, strOf_size, bytesL_len, maxI_eq] <;> omega)))) | ((first | (with_reducible refine iteB_ltt ?_ ?_) | (with_reducible refine iteB_let ?_ ?_) | (with_reducible refine iteB_dt ?_ ?_)); · (first | (with_reducible assumption) | (first | omega | (simp only [castL_self, seg_len, rowAt_one, rowAt_oneS, List.length_append, List.length_cons, List.length_nil, List.length_drop, List.length_take, List.length_eraseIdx, List.length_replicate, ByteArray.size_extract, bs_app, strOf_size, bytesL_len, maxI_eq] <;> omega)))) | ((first | (with_reducible refine iteB_ltf ?_ ?_) | (with_reducible refine iteB_lef ?_ ?_) | (with_reducible refine iteB_df ?_ ?_)); · (first | (with_reducible assumption) | (first | omega | (simp only [castL_self, seg_len, rowAt_one, rowAt_oneS, List.length_append, List.length_cons, List.length_nil, List.length_drop, List.length_take, List.length_eraseIdx, List.length_replicate, ByteArray.size_extract, bs_app, strOf_size, bytesL_len, maxI_eq] <;> omega)))) | ((first | (with_reducible refine andB_i ?_ ?_) | (with_reducible refine iteB_t ?_ ?_)); · (first | (with_reducible assumption) | (with_reducible exact decide_eq_true rfl) | (with_reducible exact sEq_self _) | ((with_reducible refine eqOK_i ?_); kernel_rfl))) | ((with_reducible refine iteB_f ?_ ?_); · (first | (with_reducible assumption) | (with_reducible exact decide_eq_true rfl) | (with_reducible exact sEq_self _) | ((with_reducible refine eqOK_i ?_); kernel_rfl))) | (with_reducible refine CD.wk_au ?_) | (with_reducible refine andB_in ?_ ?_) | (with_reducible refine andB_lt ?_ ?_) | (with_reducible refine andB_le ?_ ?_) | (with_reducible refine andB_d ?_ ?_) | (with_reducible refine andB_i ?_ ?_) | (with_reducible refine iteB_lts (fun hB => ?_) (fun hB => ?_)) | (with_reducible refine iteB_les (fun hB => ?_) (fun hB => ?_)) | (with_reducible refine iteB_ds (fun hB => ?_) (fun hB => ?_)) | (with_reducible refine iteB_s (fun hB => ?_) (fun hB => ?_)) | (with_reducible refine CD.wk_as ?_) | (with_reducible refine And.intro ?_ ?_))
          all_goals (conv => whnf)
          all_goals (try dsimp only)
          all_goals (try simp only [Nat.succ_eq_add_one, Nat.le_eq, castL_self])
          all_goals (try omega)
          all_goals (try (simp only [castL_self, seg_len, rowAt_one, rowAt_oneS, List.length_append, List.length_cons, List.length_nil, List.length_drop, List.length_take, List.length_eraseIdx, List.length_replicate, ByteArray.size_extract, bs_app, strOf_size, bytesL_len, maxI_eq] <;> omega))
          all_goals trace_state
      · rw [decide_eq_false c2, Bool.false_and] at hf
        obtain ⟨rfl, rfl⟩ := ScI_stop hI hf
        repeat' (conv => whnf
                 first | (with_reducible exact True.intro) | (with_reducible rfl) | (with_reducible exact castL_self _ _) | ((with_reducible refine V.same_t ?_); exact rfl) | (with_reducible refine iteB_n ?_) | (with_reducible refine iteB_ct ?_) | (with_reducible refine iteB_cf ?_) | (with_reducible refine iteB_bt ?_) | (with_reducible refine iteB_bf ?_) | (with_reducible refine iteB_tb ?_) | (with_reducible refine iteB_fb ?_) | ((with_reducible refine andB_room ?_ ?_ ?_); (· kernel_rfl); (· (first | omega | (simp only [castL_self, seg_len, rowAt_one, rowAt_oneS, List.length_append, List.length_cons, List.length_nil, List.length_drop, List.length_take, List.length_eraseIdx, List.length_replicate, ByteArray.size_extract, bs_app, strOf_size, bytesL_len, maxI_eq] <;> omega)))) | ((first | (with_reducible refine andB_in ?_ ?_) | (with_reducible refine andB_d ?_ ?_) | (with_reducible refine andB_lt ?_ ?_) | (with_reducible refine andB_le ?_ ?_)); · (first | (with_reducible assumption) | (first | omega | (simp only [castL_self, seg_len, rowAt_one, rowAt_oneS, List.length_append, List.length_cons, List.length_nil, List.length_drop, List.length_take, List.length_eraseIdx, List.length_replicate, ByteArray.size_extract, bs_app, strOf_size, bytesL_len, maxI_eq] <;> omega)))) | ((first | (with_reducible refine iteB_ltt ?_ ?_) | (with_reducible refine iteB_let ?_ ?_) | (with_reducible refine iteB_dt ?_ ?_)); · (first | (with_reducible assumption) | (first | omega | (simp only [castL_self, seg_len, rowAt_one, rowAt_oneS, List.length_append, List.length_cons, List.length_nil, List.length_drop, List.length_take, List.length_eraseIdx, List.length_replicate, ByteArray.size_extract, bs_app, strOf_size, bytesL_len, maxI_eq] <;> omega)))) | ((first | (with_reducible refine iteB_ltf ?_ ?_) | (with_reducible refine iteB_lef ?_ ?_) | (with_reducible refine iteB_df ?_ ?_)); · (first | (with_reducible assumption) | (first | omega | (simp only [castL_self, seg_len, rowAt_one, rowAt_oneS, List.length_append, List.length_cons, List.length_nil, List.length_drop, List.length_take, List.length_eraseIdx, List.length_replicate, ByteArray.size_extract, bs_app, strOf_size, bytesL_len, maxI_eq] <;> omega)))) | ((first | (with_reducible refine andB_i ?_ ?_) | (with_reducible refine iteB_t ?_ ?_)); · (first | (with_reducible assumption) | (with_reducible exact decide_eq_true rfl) | (with_reducible exact sEq_self _) | ((with_reducible refine eqOK_i ?_); kernel_rfl))) | ((with_reducible refine iteB_f ?_ ?_); · (first | (with_reducible assumption) | (with_reducible exact decide_eq_true rfl) | (with_reducible exact sEq_self _) | ((with_reducible refine eqOK_i ?_); kernel_rfl))) | (with_reducible refine CD.wk_au ?_) | (with_reducible refine andB_in ?_ ?_) | (with_reducible refine andB_lt ?_ ?_) | (with_reducible refine andB_le ?_ ?_) | (with_reducible refine andB_d ?_ ?_) | (with_reducible refine andB_i ?_ ?_) | (with_reducible refine iteB_lts (fun hB => ?_) (fun hB => ?_)) | (with_reducible refine iteB_les (fun hB => ?_) (fun hB => ?_)) | (with_reducible refine iteB_ds (fun hB => ?_) (fun hB => ?_)) | (with_reducible refine iteB_s (fun hB => ?_) (fun hB => ?_)) | (with_reducible refine CD.wk_as ?_) | (with_reducible refine And.intro ?_ ?_))
        all_goals (conv => whnf)
        all_goals (try dsimp only)
        all_goals (try simp only [Nat.succ_eq_add_one, Nat.le_eq, castL_self])
        all_goals (try omega)
        all_goals (try (simp only [castL_self, seg_len, rowAt_one, rowAt_oneS, List.length_append, List.length_cons, List.length_nil, List.length_drop, List.length_take, List.length_eraseIdx, List.length_replicate, ByteArray.size_extract, bs_app, strOf_size, bytesL_len, maxI_eq] <;> omega))
        all_goals trace_state
    · rw [decide_eq_false c1, Bool.false_and] at hf
      obtain ⟨rfl, rfl⟩ := ScI_stop hI hf
      repeat' (conv => whnf
               first | (with_reducible exact True.intro) | (with_reducible rfl) | (with_reducible exact castL_self _ _) | ((with_reducible refine V.same_t ?_); exact rfl) | (with_reducible refine iteB_n ?_) | (with_reducible refine iteB_ct ?_) | (with_reducible refine iteB_cf ?_) | (with_reducible refine iteB_bt ?_) | (with_reducible refine iteB_bf ?_) | (with_reducible refine iteB_tb ?_) | (with_reducible refine iteB_fb ?_) | ((with_reducible refine andB_room ?_ ?_ ?_); (· kernel_rfl); (· (first | omega | (simp only [castL_self, seg_len, rowAt_one, rowAt_oneS, List.length_append, List.length_cons, List.length_nil, List.length_drop, List.length_take, List.length_eraseIdx, List.length_replicate, ByteArray.size_extract, bs_app, strOf_size, bytesL_len, maxI_eq] <;> omega)))) | ((first | (with_reducible refine andB_in ?_ ?_) | (with_reducible refine andB_d ?_ ?_) | (with_reducible refine andB_lt ?_ ?_) | (with_reducible refine andB_le ?_ ?_)); · (first | (with_reducible assumption) | (first | omega | (simp only [castL_self, seg_len, rowAt_one, rowAt_oneS, List.length_append, List.length_cons, List.length_nil, List.length_drop, List.length_take, List.length_eraseIdx, List.length_replicate, ByteArray.size_extract, bs_app, strOf_size, bytesL_len, maxI_eq] <;> omega)))) | ((first | (with_reducible refine iteB_ltt ?_ ?_) | (with_reducible refine iteB_let ?_ ?_) | (with_reducible refine iteB_dt ?_ ?_)); · (first | (with_reducible assumption) | (first | omega | (simp only [castL_self, seg_len, rowAt_one, rowAt_oneS, List.length_append, List.length_cons, List.length_nil, List.length_drop, List.length_take, List.length_eraseIdx, List.length_replicate, ByteArray.size_extract, bs_app, strOf_size, bytesL_len, maxI_eq] <;> omega)))) | ((first | (with_reducible refine iteB_ltf ?_ ?_) | (with_reducible refine iteB_lef ?_ ?_) | (with_reducible refine iteB_df ?_ ?_)); · (first | (with_reducible assumption) | (first | omega | (simp only [castL_self, seg_len, rowAt_one, rowAt_oneS, List.length_append, List.length_cons, List.length_nil, List.length_drop, List.length_take, List.length_eraseIdx, List.length_replicate, ByteArray.size_extract, bs_app, strOf_size, bytesL_len, maxI_eq] <;> omega)))) | ((first | (with_reducible refine andB_i ?_ ?_) | (with_reducible refine iteB_t ?_ ?_)); · (first | (with_reducible assumption) | (with_reducible exact decide_eq_true rfl) | (with_reducible exact sEq_self _) | ((with_reducible refine eqOK_i ?_); kernel_rfl))) | ((with_reducible refine iteB_f ?_ ?_); · (first | (with_reducible assumption) | (with_reducible exact decide_eq_true rfl) | (with_reducible exact sEq_self _) | ((with_reducible refine eqOK_i ?_); kernel_rfl))) | (with_reducible refine CD.wk_au ?_) | (with_reducible refine andB_in ?_ ?_) | (with_reducible refine andB_lt ?_ ?_) | (with_reducible refine andB_le ?_ ?_) | (with_reducible refine andB_d ?_ ?_) | (with_reducible refine andB_i ?_ ?_) | (with_reducible refine iteB_lts (fun hB => ?_) (fun hB => ?_)) | (with_reducible refine iteB_les (fun hB => ?_) (fun hB => ?_)) | (with_reducible refine iteB_ds (fun hB => ?_) (fun hB => ?_)) | (with_reducible refine iteB_s (fun hB => ?_) (fun hB => ?_)) | (with_reducible refine CD.wk_as ?_) | (with_reducible refine And.intro ?_ ?_))
      all_goals (conv => whnf)
      all_goals (try dsimp only)
      all_goals (try simp only [Nat.succ_eq_add_one, Nat.le_eq, castL_self])
      all_goals (try omega)
      all_goals (try (simp only [castL_self, seg_len, rowAt_one, rowAt_oneS, List.length_append, List.length_cons, List.length_nil, List.length_drop, List.length_take, List.length_eraseIdx, List.length_replicate, ByteArray.size_extract, bs_app, strOf_size, bytesL_len, maxI_eq] <;> omega))
      all_goals trace_state
  · repeat' (conv => whnf
             first | (with_reducible exact True.intro) | (with_reducible rfl) | (with_reducible exact castL_self _ _) | ((with_reducible refine V.same_t ?_); exact rfl) | (with_reducible refine iteB_n ?_) | (with_reducible refine iteB_ct ?_) | (with_reducible refine iteB_cf ?_) | (with_reducible refine iteB_bt ?_) | (with_reducible refine iteB_bf ?_) | (with_reducible refine iteB_tb ?_) | (with_reducible refine iteB_fb ?_) | ((with_reducible refine andB_room ?_ ?_ ?_); (· kernel_rfl); (· (first | omega | (simp only [castL_self, seg_len, rowAt_one, rowAt_oneS, List.length_append, List.length_cons, List.length_nil, List.length_drop, List.length_take, List.length_eraseIdx, List.length_replicate, ByteArray.size_extract, bs_app, strOf_size, bytesL_len, maxI_eq] <;> omega)))) | ((first | (with_reducible refine andB_in ?_ ?_) | (with_reducible refine andB_d ?_ ?_) | (with_reducible refine andB_lt ?_ ?_) | (with_reducible refine andB_le ?_ ?_)); · (first | (with_reducible assumption) | (first | omega | (simp only [castL_self, seg_len, rowAt_one, rowAt_oneS, List.length_append, List.length_cons, List.length_nil, List.length_drop, List.length_take, List.length_eraseIdx, List.length_replicate, ByteArray.size_extract, bs_app, strOf_size, bytesL_len, maxI_eq] <;> omega)))) | ((first | (with_reducible refine iteB_ltt ?_ ?_) | (with_reducible refine iteB_let ?_ ?_) | (with_reducible refine iteB_dt ?_ ?_)); · (first | (with_reducible assumption) | (first | omega | (simp only [castL_self, seg_len, rowAt_one, rowAt_oneS, List.length_append, List.length_cons, List.length_nil, List.length_drop, List.length_take, List.length_eraseIdx, List.length_replicate, ByteArray.size_extract, bs_app, strOf_size, bytesL_len, maxI_eq] <;> omega)))) | ((first | (with_reducible refine iteB_ltf ?_ ?_) | (with_reducible refine iteB_lef ?_ ?_) | (with_reducible refine iteB_df ?_ ?_)); · (first | (with_reducible assumption) | (first | omega | (simp only [castL_self, seg_len, rowAt_one, rowAt_oneS, List.length_append, List.length_cons, List.length_nil, List.length_drop, List.length_take, List.length_eraseIdx, List.length_replicate, ByteArray.size_extract, bs_app, strOf_size, bytesL_len, maxI_eq] <;> omega)))) | ((first | (with_reducible refine andB_i ?_ ?_) | (with_reducible refine iteB_t ?_ ?_)); · (first | (with_reducible assumption) | (with_reducible exact decide_eq_true rfl) | (with_reducible exact sEq_self _) | ((with_reducible refine eqOK_i ?_); kernel_rfl))) | ((with_reducible refine iteB_f ?_ ?_); · (first | (with_reducible assumption) | (with_reducible exact decide_eq_true rfl) | (with_reducible exact sEq_self _) | ((with_reducible refine eqOK_i ?_); kernel_rfl))) | (with_reducible refine CD.wk_au ?_) | (with_reducible refine andB_in ?_ ?_) | (with_reducible refine andB_lt ?_ ?_) | (with_reducible refine andB_le ?_ ?_) | (with_reducible refine andB_d ?_ ?_) | (with_reducible refine andB_i ?_ ?_) | (with_reducible refine iteB_lts (fun hB => ?_) (fun hB => ?_)) | (with_reducible refine iteB_les (fun hB => ?_) (fun hB => ?_)) | (with_reducible refine iteB_ds (fun hB => ?_) (fun hB => ?_)) | (with_reducible refine iteB_s (fun hB => ?_) (fun hB => ?_)) | (with_reducible refine CD.wk_as ?_) | (with_reducible refine And.intro ?_ ?_))
    all_goals (conv => whnf)
    all_goals (try dsimp only)
    all_goals (try simp only [Nat.succ_eq_add_one, Nat.le_eq, castL_self])
    all_goals (try omega)
    all_goals (try (simp only [castL_self, seg_len, rowAt_one, rowAt_oneS, List.length_append, List.length_cons, List.length_nil, List.length_drop, List.length_take, List.length_eraseIdx, List.length_replicate, ByteArray.size_extract, bs_app, strOf_size, bytesL_len, maxI_eq] <;> omega))
    all_goals first
      | rfl
      | exact congrArg (fun l => V.tup [V.lst [.str] l false, .int .i64 (((scN s : Nat) : Int))]) (seg_all (scL s) rfl)
      | trace_state
end Go.Proofs.Ytjjebdfjmbnhpaa
end
