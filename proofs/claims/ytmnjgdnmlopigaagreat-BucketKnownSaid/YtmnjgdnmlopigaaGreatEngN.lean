/-
  The evaluator is sound: what it answers, the call returns, in whatever world; what lay there before the call is as it was.
-/
import Derived.Test.YtmnjgdnmlopigaaGreatEngM
import Derived.RecoverIn
namespace Go.Eng
open Go.RowKit (Below)
set_option linter.unusedSimpArgs false
set_option linter.unusedVariables false

section
variable {P : Program} {self : ESelf} {ro r : Option Nat} {n : Nat}

theorem range_sound (hs : SelfOK P self) (f : Operand) (ps : Array Tmp) (assign body : Code) : CodeOK P ro r n (.rangeFunc f ps assign body) (rangeE P self ro f ps assign body) := by
  intro c e c' h base ρ0 w0 ρ A w h0 h1 h2 hr
  unfold rangeE at h
  split at h
  · cases h
  rename_i s1 d marks hopen
  -- the statement is entered
  have hent : ∃ ρ1 w1 MARKS D, ρ.le ρ1 ∧ SRel base ρ1 s1 w1 ∧ Below base w w1 ∧ ρ1 d = some D ∧ DRel ρ1 marks MARKS ∧
      (∀ fn, (Instr.enterLoop fn A.tmps ps assign body r).run P w = .ok (w1.heap.size, MARKS) (w1.alloc (.loop { state := .ready, pending := none, fn, tmps := A.tmps, params := ps, assign, body, defers := D.B }))) := by
    cases ro with
    | none =>
      have h0 : r = none := h0
      subst h0
      cases hopen
      have hle := Env.le_put ⟨w.heap.size, 0, 0⟩ hr.s.fresh
      refine ⟨_, w.alloc (.deferred (some [])), [{ target := .collected w.heap.size, args := #[] }], ⟨w.heap.size, 0, 0⟩, hle, hr.s.new (.dfr false) (.deferred (some [])) 0 rfl rfl, below_new hr.s.le rfl, Env.put_same, ⟨_, _, Env.put_same, rfl, rfl⟩, fun fn => ?_⟩
      have := run_enterLoop_outer (P := P) (w := w) fn A.tmps ps assign body
      rw [World.size_alloc]
      exact this
    | some l0 =>
      obtain ⟨x, hx, rfl⟩ := h0
      have hopen : (match c.st.heap.get l0 with
        | some (.loop r) => some (c.st, r.defers, [])
        | _ => none : Option (St × Nat × List EDef)) = some (s1, d, marks) := hopen
      split at hopen
      · rename_i rl hg
        cases hopen
        obtain ⟨y, hy, _, L, D, l1, l2, l3, l4, l5, l6, l7, l8, l9⟩ := hr.s.obj' hg (h1.sub _ _ hx)
        rw [h1.sub _ _ hx] at hy; cases hy
        refine ⟨ρ, w, [], D, ρ.le_refl, hr.s, Below.refl _ _, l8, rfl, fun fn => ?_⟩
        rw [← l9]
        exact run_enterLoop_inner l1 fn A.tmps ps assign body
      · cases hopen
  obtain ⟨ρ1, w1, MARKS, D, g1, g2, g3, g4, g5, g6⟩ := hent
  split at h
  · rename_i g first cap hf
    cases hbo : bodyOK P g with
    | false => simp [hbo] at h
    | true =>
    simp only [hbo, cond_true] at h
    -- the record
    have hle2 := Env.le_put ⟨w1.heap.size, 0, 0⟩ g2.fresh
    have hf' := evF_rel hr.f f _ hf
    have hf2 := VRel.mono (Env.le_trans g1 hle2) _ _ hf'
    simp only [VRel] at hf2
    obtain ⟨A1, C1, e1, e2, e3⟩ := hf2
    refine wpIn_rangeFunc fun fn _ => ?_
    let L : Loop := { state := .ready, pending := none, fn, tmps := A.tmps, params := ps, assign, body, defers := D.B }
    let w2 : World := w1.alloc (.loop L)
    have hS2 : SRel base (ρ1.put s1.next ⟨w1.heap.size, 0, 0⟩) (s1.new (.loop ⟨.ready, none, c.tmps, ps.toList, assign, body, d⟩)) w2 :=
      g2.new _ (.loop L) 0 rfl ⟨L, D, rfl, rfl, rfl, (hr.f.mono g1).mono hle2, rfl, rfl, rfl, hle2.sub _ _ g4, rfl⟩
    have hB2 : Below base w1 w2 := below_new g2.le rfl
    have hargs : LRel (ρ1.put s1.next ⟨w1.heap.size, 0, 0⟩) (lapp (lapp first [.yld s1.next]) cap) (A1 ++ #[Value.func (.yield w1.heap.size) #[] #[]] ++ C1).toList := by
      rw [lapp_eq, lapp_eq]
      simp only [Array.toList_append]
      exact (e2.append (LRel.cons (by simp only [VRel]; exact ⟨_, _, _, Env.put_same, rfl⟩) LRel.nil)).append e3
    have hself : ∃ ee s2, self (.fn g (lapp (lapp first [.yld s1.next]) cap)) (s1.new (.loop ⟨.ready, none, c.tmps, ps.toList, assign, body, d⟩)) = some (ee, s2) := by
      cases hh : self (.fn g (lapp (lapp first [.yld s1.next]) cap)) (s1.new (.loop ⟨.ready, none, c.tmps, ps.toList, assign, body, d⟩)) with
      | none => rw [hh] at h; cases h
      | some p => exact ⟨p.1, p.2, rfl⟩
    obtain ⟨ee, s2, hself⟩ := hself
    rw [hself] at h
    refine ⟨w1.heap.size, MARKS, w2, { target := .fn (.func g) C1, args := A1 ++ #[Value.func (.yield w1.heap.size) #[] #[]] }, w2, g, _, w2, g6 fn, ?_, fun _ _ => RF_fn _ _, ?_, fun hh => by simp [RF_depth] at hh, callsIn_RF ((hs _ _ _ _ hself base _ w2 hS2 (n - 1) _ hargs).mono ?_)⟩
    · have em : Array.map A.eval #[Operand.const (Value.func (.yield w1.heap.size) #[] #[])] = #[Value.func (.yield w1.heap.size) #[] #[]] := by simp [Act.eval]
      simp only [resolve, rangeCall, e1, Deferred.ofValue, Sem.run_pure, em]
    · simp only [invoke]
      exact run_callFunc hbo _
    · rintro E w3 ⟨ρ3, k1, k2, k3, k4⟩
      have hle3 : ρ.le ρ3 := Env.le_trans g1 (Env.le_trans hle2 k1)
      have hB3 : Below base w w3 := (g3.trans hB2).trans k4
      have hmarks : DRel ρ3 (marks ++ c.defers) (MARKS ++ A.defers) := by
        have m1 := g5.mono (Env.le_trans hle2 k1)
        have m2 := hr.d.mono hle3
        clear h hopen
        revert m1
        generalize marks = ms
        generalize MARKS = MS
        induction ms generalizing MS with
        | nil => intro m1; have m1 : MS = [] := m1; subst m1; exact m2
        | cons a ms ih =>
          intro m1
          cases a with
          | mark k => obtain ⟨x, Y, q1, rfl, q2⟩ := m1; exact ⟨x, Y ++ A.defers, q1, rfl, ih Y q2⟩
          | call k a b => obtain ⟨A', C', Y, rfl, q1, q2, q3⟩ := m1; exact ⟨A', C', Y ++ A.defers, rfl, q1, q2, ih Y q3⟩
      cases ee with
      | pan v =>
        obtain ⟨X, rfl, k5⟩ := k2
        simp only at h
        cases h
        exact CPost.mk (Env.le_trans h1 hle3) (h2.trans hB3) ⟨hr.f.mono hle3, hmarks, k3⟩ ⟨X, rfl, k5⟩
      | ret v =>
        obtain ⟨X, rfl, k5⟩ := k2
        simp only at h
        split at h
        · rename_i rl hg
          have hnb : rl.state ≠ .busy := by intro e; rw [e] at h; cases h
          have h : (match jumpE rl.pending with
              | some e => some (e, (⟨c.tmps, marks ++ c.defers, s2.upd s1.next (.loop { rl with state := .exhausted })⟩ : Cfg))
              | none => none) = some (e, c') := by
            cases hst : rl.state <;> rw [hst] at h <;> first | exact absurd hst hnb | exact h
          have hy2 : ρ3 s1.next = some ⟨w1.heap.size, 0, 0⟩ := k1.sub _ _ Env.put_same
          obtain ⟨y, hy, _, L3, D3, l1, l2, l3, l4, l5, l6, l7, l8, l9⟩ := k3.obj' hg hy2
          rw [hy2] at hy; cases hy
          simp only at l1
          have hend := run_endLoop (P := P) l1 (by rw [l2]; exact hnb)
          have hS4 : SRel base ρ3 (s2.upd s1.next (.loop { rl with state := .exhausted })) (w3.putObj w1.heap.size (.loop { L3 with state := .exhausted })) :=
            k3.upd hg hy2 _ (.loop { L3 with state := .exhausted }) rfl ⟨_, D3, rfl, rfl, l3, l4, l5, l6, l7, l8, l9⟩
          have hB4 : Below base w (w3.putObj w1.heap.size (.loop { L3 with state := .exhausted })) := hB3.trans (below_set g2.le rfl)
          have hrel : Rel base ρ3 ⟨c.tmps, marks ++ c.defers, s2.upd s1.next (.loop { rl with state := .exhausted })⟩ { A with defers := MARKS ++ A.defers } (w3.putObj w1.heap.size (.loop { L3 with state := .exhausted })) :=
            ⟨hr.f.mono hle3, hmarks, hS4⟩
          generalize (⟨c.tmps, marks ++ c.defers, s2.upd s1.next (.loop { rl with state := .exhausted })⟩ : Cfg) = c4 at h hrel
          refine ⟨_, _, hend, ?_⟩
          split
          · rename_i hj
            rw [← l3, hj] at h
            simp only [jumpE] at h
            cases h
            exact CPost.mk (Env.le_trans h1 hle3) (h2.trans hB4) hrel rfl
          · rename_i j hj
            rw [← l3, hj] at h
            cases j <;> simp only [jumpE, reduceCtorEq] at h
            · cases h
              exact wpIn_exit (CPost.mk (Env.le_trans h1 hle3) (h2.trans hB4) hrel rfl)
            · cases h
              exact wpIn_ret (CPost.mk (Env.le_trans h1 hle3) (h2.trans hB4) hrel rfl)
        · cases h
  · cases h

theorem code_sound (hs : SelfOK P self) (fuel : Nat) : ∀ x : Code, CodeOK P ro r n x (runF (compC P self fuel ro x))
  | .skip => fun c e c' h base ρ0 w0 ρ A w h0 h1 h2 hr => by
    have h : some (EExit.normal, c) = some (e, c') := h
    cases h
    exact wpIn_skip (CPost.mk h1 h2 hr rfl)
  | .label l => fun c e c' h base ρ0 w0 ρ A w h0 h1 h2 hr => by
    have h : some (EExit.normal, c) = some (e, c') := h
    cases h
    exact wpIn_label (CPost.mk h1 h2 hr rfl)
  | .ret => fun c e c' h base ρ0 w0 ρ A w h0 h1 h2 hr => by
    have h : some (EExit.ret, c) = some (e, c') := h
    cases h
    exact wpIn_ret (CPost.mk h1 h2 hr rfl)
  | .exit id => fun c e c' h base ρ0 w0 ρ A w h0 h1 h2 hr => by
    have h : some (EExit.exit id, c) = some (e, c') := h
    cases h
    exact wpIn_exit (CPost.mk h1 h2 hr rfl)
  | .goto l => fun c e c' h base ρ0 w0 ρ A w h0 h1 h2 hr => by
    have h : none = some (e, c') := h
    cases h
  | .scope b => scope_sound (code_sound hs fuel b)
  | .refuse why => fun c e c' h base ρ0 w0 ρ A w h0 h1 h2 hr => by
    have h : none = some (e, c') := h
    cases h
  | .region id ops draw => region_sound hs id ops draw
  | .seq a b => seq_sound (code_sound hs fuel a) (code_sound hs fuel b)
  | .cond x a b => cond_sound (code_sound hs fuel a) (code_sound hs fuel b)
  | .block id b => block_sound (code_sound hs fuel b)
  | .loop b => loop_sound (code_sound hs fuel b) fuel
  | .rangeFunc f ps assign body => range_sound hs f ps assign body

theorem params_rel {ρ : Env} : ∀ (ps : List Tmp) {vs : List V} {As : List Value}, LRel ρ vs As → ∀ {f : Frm} {T : Array Value}, FRel ρ f T →
    FRel ρ (setParams f ps vs) ((ps.zip As).foldl (fun (tmps : Array Value) (x : Tmp × Value) => tmps.setIfInBounds x.1 x.2) T)
  | [], vs, As, h, f, T, hf => by simpa [setParams] using hf
  | p :: ps, [], As, h, f, T, hf => by have h : As = [] := h; subst h; simpa [setParams] using hf
  | p :: ps, v :: vs, As, h, f, T, hf => by
    obtain ⟨X, Y, rfl, h1, h2⟩ := h
    simp only [setParams, List.zip_cons_cons, List.foldl_cons]
    exact params_rel ps h2 (hf.set h1 p)

theorem round_sound (hs : SelfOK P self) (fuel l : Nat) (args : List V) (s : St) (e : EEnd) (s' : St) (h : runRound P self fuel l args s = some (e, s')) (base : Nat) (ρ : Env) (w : World) (hS : SRel base ρ s w) (n : Nat)
    (x : Blk) (L : Loop) (A : Array Value) (hx : ρ l = some x) (hL : w.heap[x.B]? = some (.loop L)) (hA : LRel ρ args A.toList) :
    RoundIn Fence.wide n P x.B L.fn ((L.params.zip A).foldl (fun tmps (t, a) => tmps.setIfInBounds t a) L.tmps) L.assign L.body w (Post base ρ w e s') := by
  unfold runRound at h
  split at h
  · rename_i rl hg
    obtain ⟨y, hy, hbase, L', D, l1, l2, l3, l4, l5, l6, l7, l8, l9⟩ := hS.obj' hg hx
    rw [hx] at hy; cases hy
    rw [hL] at l1
    cases l1
    have hfr : FRel ρ (setParams rl.tmps rl.params args) ((L.params.zip A).foldl (fun tmps (t, a) => tmps.setIfInBounds t a) L.tmps) := by
      have := params_rel rl.params hA l4
      rw [← l5] at this ⊢
      rw [← Array.foldl_toList, Array.toList_zip]
      exact this
    split at h
    · rename_i c1 hc1
      split at h
      · rename_i r1 hg1
        split at h
        · rename_i hst
          refine roundIn_of_wpIn trivial ?_
          have hrr : RR ρ (some l) (some x.B) := ⟨x, hx, rfl⟩
          rw [l6, l7]
          refine wpIn_mono (F := RF (some x.B)) (code_sound hs fuel rl.assign _ _ _ hc1 base ρ w ρ { tmps := _, defers := [] } w hrr ρ.le_refl (Below.refl _ _) ⟨hfr, rfl, hS⟩) ?_
          rintro E A1 w1 ⟨ρ1, g1, g2, g3, g4, g5, g6⟩
          have g2 : E = .normal := g2
          subst g2
          have hx1 : ρ1 l = some x := g1.sub _ _ hx
          obtain ⟨y1, hy1, hb1, L1, D1, q1, q2, q3, q4, q5, q6, q7, q8, q9⟩ := g5.obj' hg1 hx1
          rw [hx1] at hy1; cases hy1
          refine ⟨_, run_beginRound q1 (by rw [q2]; exact hst), ?_⟩
          have hS2 : SRel base ρ1 (c1.st.upd l (.loop { r1 with state := .busy })) (w1.putObj x.B (.loop { L1 with state := .busy })) :=
            g5.upd hg1 hx1 _ (.loop { L1 with state := .busy }) rfl ⟨_, D1, rfl, rfl, q3, q4, q5, q6, q7, q8, q9⟩
          have hB2 : Below base w (w1.putObj x.B (.loop { L1 with state := .busy })) := g6.trans (below_set hbase rfl)
          split at h
          · rename_i e2 c2 hc2
            refine wpIn_mono (F := RF (some x.B)) (code_sound hs fuel rl.body _ _ _ hc2 base ρ w ρ1 A1 _ hrr g1 hB2 ⟨g3, g4, hS2⟩) ?_
            rintro E2 A2 w2 ⟨ρ2, k1, k2, k3, k4, k5, k6⟩
            split at h
            · rename_i r2 hg2
              have hx2 : ρ2 l = some x := k1.sub _ _ hx
              obtain ⟨y2, hy2, hb2, L2, D2, t1, t2, t3, t4, t5, t6, t7, t8, t9⟩ := k5.obj' hg2 hx2
              rw [hx2] at hy2; cases hy2
              cases e2 with
              | normal =>
                have k2 : E2 = .normal := k2
                subst k2
                simp only at h
                cases h
                refine ⟨_, _, run_endRound none t1, ρ2, k1, ⟨_, rfl, by simp only [VRel]; rfl⟩, ?_, k6.trans (below_set hbase rfl)⟩
                exact k5.upd hg2 hx2 _ (.loop _) rfl ⟨_, D2, rfl, rfl, rfl, t4, t5, t6, t7, t8, t9⟩
              | ret =>
                have k2 : E2 = .ret := k2
                subst k2
                simp only at h
                cases h
                refine ⟨_, _, run_endRound (some .ret) t1, ρ2, k1, ⟨_, rfl, by simp only [VRel]; rfl⟩, ?_, k6.trans (below_set hbase rfl)⟩
                exact k5.upd hg2 hx2 _ (.loop _) rfl ⟨_, D2, rfl, rfl, rfl, t4, t5, t6, t7, t8, t9⟩
              | exit id =>
                have k2 : E2 = .exit id := k2
                subst k2
                simp only at h
                cases h
                refine ⟨_, _, run_endRound (some (.exit id)) t1, ρ2, k1, ⟨_, rfl, by simp only [VRel]; rfl⟩, ?_, k6.trans (below_set hbase rfl)⟩
                exact k5.upd hg2 hx2 _ (.loop _) rfl ⟨_, D2, rfl, rfl, rfl, t4, t5, t6, t7, t8, t9⟩
              | pan v => simp only at h; cases h
            · cases h
          · cases h
        · cases h
      · cases h
    · cases h
  · cases h


def resVar (T : Array Value) : ResultVar → Sem Value
  | .tmp t => pure (T.getD t undef)
  | .cell a t => do loadVar t (← asAddr (T.getD a undef))
theorem FRelA.get {ρ : Env} {f : Frm} {A : Array Value} (h : FRelA ρ f A) (k : Nat) (hk : f.get k ≠ .any) : VRel ρ (f.get k) (A.getD k undef) := by
  obtain ⟨h1, d, h2, h3, h4⟩ := h
  rw [Frm.get_eq, blt_iff] at hk ⊢
  rw [Array.getD_eq_getD_getElem?]
  by_cases hl : k < f.n
  · rw [decide_eq_true hl] at hk ⊢
    have hk' : k < A.size := by omega
    have := h4 k A[k] (Array.getElem?_eq_getElem hk')
    rw [Array.getElem?_eq_getElem hk']
    exact this.resolve_left hk
  · rw [decide_eq_false hl]
    have hk' : A.size ≤ k := by omega
    rw [Array.getElem?_eq_none hk']
    show VRel ρ .undef (.tuple #[])
    simp only [VRel]
theorem results_rel {base : Nat} {ρ : Env} {s : St} {w : World} (h : SRel base ρ s w) {f : Frm} {T : Array Value} (hf : FRelA ρ f T) : ∀ {rs : List ResultVar} {l : List V}, resultsE P s f rs = some l →
    ∃ L : List Value, (rs.mapM (resVar T)).run P w = .ok L w ∧ LRel ρ l L
  | [], l, hq => by simp only [resultsE] at hq; cases hq; exact ⟨[], by simp, LRel.nil⟩
  | .tmp t :: rs, l, hq => by
    simp only [resultsE] at hq
    split at hq
    · rename_i l' hl
      split at hq
      · cases hq
      rename_i hne
      cases hq
      obtain ⟨L, h1, h2⟩ := results_rel h hf hl
      exact ⟨T.getD t undef :: L, by simp only [List.mapM_cons, resVar, Sem.run_bind, Sem.run_pure, Result.andThen_ok, h1], LRel.cons (hf.get t hne) h2⟩
    · cases hq
  | .cell a t :: rs, l, hq => by
    simp only [resultsE] at hq
    split at hq
    · rename_i v hv
      split at hq
      · rename_i l' hl
        cases hq
        obtain ⟨L, h1, h2⟩ := results_rel h hf hl
        have ha := hf.get a (fun e => by rw [e] at hv; cases hv)
        obtain ⟨X, h3, h4⟩ := qLoad_rel (P := P) h hv ha
        have hp : ∃ ad, T.getD a undef = .pointer (some ad) := by
          unfold qLoad at hv
          split at hv
          · rename_i e
            rw [e] at ha
            simp only [VRel] at ha
            obtain ⟨B, O, S, _, e2⟩ := ha
            exact ⟨_, e2⟩
          · cases hv
        obtain ⟨ad, hp⟩ := hp
        rw [hp] at h3
        have h5 : (loadVar t ad).run P w = .ok X w := h3
        refine ⟨X :: L, ?_, LRel.cons h4 h2⟩
        simp only [List.mapM_cons, resVar, Sem.run_bind, Sem.run_pure, Result.andThen_ok, h1, hp, asAddr, h5]
      · cases hq
    · cases hq

theorem result_rel {base : Nat} {ρ : Env} {s : St} {w : World} (h : SRel base ρ s w) {f : Frm} {T : Array Value} (hf : FRelA ρ f T) {fn : Func} {v : V} (hq : resultE P s f fn.results.toList = some v) :
    ∃ X, (results fn T).run P w = .ok X w ∧ VRel ρ v X := by
  unfold resultE at hq
  have key : ∀ l, resultsE P s f fn.results.toList = some l → ∃ L : List Value, LRel ρ l L ∧ (results fn T).run P w = .ok (if h : L.toArray.size = 1 then L.toArray[0] else .tuple L.toArray) w := by
    intro l hl
    obtain ⟨L, h1, h2⟩ := results_rel (P := P) h hf hl
    refine ⟨L, h2, ?_⟩
    have e : results fn T = (do
        let vs ← fn.results.mapM (resVar T)
        pure (if h : vs.size = 1 then vs[0] else .tuple vs)) := by
      unfold results
      congr 1
    rw [e]
    simp only [Sem.run_bind, Array.mapM_eq_mapM_toList, Sem.run_map, h1, Result.andThen_ok, Sem.run_pure]
  split at hq
  · rename_i v' hl
    cases hq
    obtain ⟨L, h1, h2⟩ := key _ hl
    obtain ⟨X, Y, rfl, h3, h4⟩ := h1
    have h4 : Y = [] := h4
    subst h4
    exact ⟨X, by simpa using h2, h3⟩
  · rename_i l hne hl
    cases hq
    obtain ⟨L, h1, h2⟩ := key _ hl
    have hlen := h1.length
    have hne1 : ¬ L.toArray.size = 1 := by
      intro e
      simp only [List.size_toArray] at e
      rw [e] at hlen
      obtain ⟨a, rfl⟩ := List.length_eq_one_iff.1 hlen
      exact hne a rfl
    refine ⟨.tuple L.toArray, by rw [h2, dif_neg hne1], ?_⟩
    cases l with
    | nil =>
      have h1 : L = [] := h1
      subst h1
      simp only [VRel]
    | cons a l => simp only [VRel]; exact ⟨_, rfl, by simpa using h1⟩
  · cases hq

/-- how a frame is left: 'none': it returns; a value: it is panicking with it; true: that was recovered -/
def DMRel (ρ : Env) : DM → FrameMode → Prop
  | none, u => u = .returning
  | some (v, b), u => ∃ X, u = .panicking [{ v := X, recovered := b }] ∧ VRel ρ v X
theorem DMRel.mono {ρ ρ' : Env} (h : ρ.le ρ') : ∀ {m : DM} {u : FrameMode}, DMRel ρ m u → DMRel ρ' m u
  | none, _, r => r
  | some _, _, ⟨X, h1, h2⟩ => ⟨X, h1, VRel.mono h _ _ h2⟩
theorem DMRel.settle {ρ : Env} : ∀ {m : DM} {u : FrameMode}, DMRel ρ m u → DMRel ρ (settleE m) (settle u)
  | none, _, r => by have r : _ = _ := r; subst r; rfl
  | some (v, false), _, ⟨X, h1, h2⟩ => by subst h1; exact ⟨X, rfl, h2⟩
  | some (v, true), _, ⟨X, h1, h2⟩ => by subst h1; rfl
theorem DMRel.run {ρ : Env} : ∀ {m : DM} {u : FrameMode}, DMRel ρ m u → u ≠ .run
  | none, _, r => by have r : _ = _ := r; subst r; simp
  | some (v, b), _, ⟨X, h1, h2⟩ => by subst h1; simp
def DPost (base : Nat) (ρ : Env) (w : World) (e : EExit) (c' : Cfg) (m' : DM) (c₀ : Frame) (cs : List Frame) : Exit → Act → List Frame → World → Prop :=
  fun E A' cs' w' => ∃ ρ' u', ρ.le ρ' ∧ XRel ρ' e E ∧ Rel base ρ' c' A' w' ∧ Below base w w' ∧ cs' = { c₀ with mode := u' } :: cs ∧ DMRel ρ' m' u'
def CodeDOK (P : Program) (n : Nat) (x : Code) (f : Cfg → DM → Option (EExit × Cfg × DM)) : Prop :=
  ∀ c m e c' m', f c m = some (e, c', m') → ∀ base ρ0 w0 ρ A w (c₀ : Frame) (cs : List Frame), ρ0.le ρ → Below base w0 w → Rel base ρ c A w → DMRel ρ m c₀.mode →
    x.wpSIn Fence.wide n P (DPost base ρ0 w0 e c' m' c₀ cs) A (c₀ :: cs) w
theorem wpSIn_mono {F : Fence} {c : Code} {Q Q' : Exit → Act → List Frame → World → Prop} {a : Act} {cs : List Frame} {w : World} (h : c.wpSIn F n P Q a cs w) (hq : ∀ e a cs w, Q e a cs w → Q' e a cs w) : c.wpSIn F n P Q' a cs w :=
  fun b k hb hr hF hroom => let ⟨e, a', cs', w', l, q, r⟩ := h b k hb hr hF hroom; ⟨e, a', cs', w', l, hq _ _ _ _ q, r⟩
theorem plain_sound {x : Code} {f : Cfg → Option (EExit × Cfg)} (hx : CodeOK P none none n x f) : CodeDOK P n x fun c m => withD m (f c) := by
  intro c m e c' m' h base ρ0 w0 ρ A w c₀ cs h1 h2 hr hm
  cases hf : f c with
  | none => simp [hf, withD] at h
  | some p =>
    obtain ⟨e1, c1⟩ := p
    have hnp : ∀ v, e1 ≠ .pan v := fun v ev => by subst ev; simp [hf, withD] at h
    have h : some (e1, c1, m) = some (e, c', m') := by
      cases e1 with
      | pan v => exact absurd rfl (hnp v)
      | _ => simpa [hf, withD] using h
    simp only [Option.some.injEq, Prod.mk.injEq] at h
    obtain ⟨rfl, rfl, rfl⟩ := h
    refine wpSIn_of_wpIn rfl (wpIn_mono (F := RF none) (hx c _ _ hf base ρ w ρ A w rfl ρ.le_refl (Below.refl _ _) hr) ?_)
    rintro E A1 w1 ⟨ρ', g1, g2, g3, g4, g5, g6⟩
    have g3 : FRel ρ' c1.tmps A1.tmps := by
      cases e1 with
      | pan v => exact absurd rfl (hnp v)
      | _ => exact g3
    exact ⟨ρ', c₀.mode, Env.le_trans h1 g1, g2, ⟨g3, g4, g5⟩, h2.trans g6, rfl, hm.mono g1⟩

theorem run_rec {A : Act} {o : Oper} (h : isRec o.op = true) {w : World} : (execOp A.eval o).run P w = .ok .recover w := by
  unfold isRec at h
  split at h
  · rename_i cl ho
    split at h
    · rename_i hc
      have ha : cl.args = #[] := by simpa using h
      unfold execOp
      simp [ho, resolve, hc, invoke, Go.builtin, ha]
    · cases h
  · cases h
theorem rec_noDefer {o : Oper} (h : isRec o.op = true) : o.about P = fun _ _ => none := by
  unfold isRec at h
  split at h
  · rename_i cl ho
    split at h
    · rename_i hc
      funext w ρ
      unfold Oper.about
      simp [ho, resolve, hc, Target.leads]
    · cases h
  · cases h

theorem rec_sound (ops : Array Oper) : ∀ (l : List Oper) (idx : List Nat), idx.map (ops[·]?) = l.map some → ∀ c m e c' m', recE P l c m = some (e, c', m') →
    ∀ base ρ0 w0 ρ A w (c₀ : Frame) (cs : List Frame), ρ0.le ρ → Below base w0 w → Rel base ρ c A w → DMRel ρ m c₀.mode → wpOpsSIn Fence.wide n P ops (DPost base ρ0 w0 e c' m' c₀ cs) idx A (c₀ :: cs) w := by
  intro l
  induction l with
  | nil =>
    intro idx hi c m e c' m' h base ρ0 w0 ρ A w c₀ cs h1 h2 hr hm
    have hi : idx = [] := by simpa using hi
    subst hi
    simp only [recE] at h
    cases h
    exact ⟨ρ, c₀.mode, h1, rfl, hr, h2, rfl, hm⟩
  | cons o l ih =>
    intro idx hi c m e c' m' h base ρ0 w0 ρ A w c₀ cs h1 h2 hr hm
    cases idx with
    | nil => simp at hi
    | cons i idx =>
    simp only [List.map_cons, List.cons.injEq] at hi
    obtain ⟨hio, hi⟩ := hi
    simp only [recE] at h
    split at h
    · cases h
    rename_i hg
    have hw : Region.wanted o (yielded ops A.tmps) = true := by unfold Region.wanted; rw [hg]
    simp only [wpOpsSIn, hio, hw, if_true]
    refine ⟨fun f' _ => trivial, ?_⟩
    cases hrec : isRec o.op with
    | true =>
      rw [hrec, cond_true] at h
      rw [run_rec hrec]
      simp only
      split at h
      · rename_i v
        obtain ⟨X, hu, hX⟩ := hm
        have e1 : recoverD (c₀ :: cs) = some (X, { c₀ with mode := .panicking [{ v := X, recovered := true }] } :: cs) := by simp [recoverD, hu]
        rw [e1]
        exact ih idx hi _ _ e c' m' h base ρ0 w0 ρ _ w { c₀ with mode := .panicking [{ v := X, recovered := true }] } cs h1 h2 ⟨putE_rel hr.f hX o.dst, by rw [put_defers]; exact hr.d, hr.s⟩ ⟨X, rfl, hX⟩
      · rename_i m1 hne
        have e1 : recoverD (c₀ :: cs) = none := by
          cases m with
          | none => have hm : _ = _ := hm; simp [recoverD, hm]
          | some p =>
            obtain ⟨v, b⟩ := p
            cases b with
            | false => exact absurd rfl (hne v)
            | true => obtain ⟨X, hu, hX⟩ := hm; simp [recoverD, hu]
        rw [e1]
        exact ih idx hi _ _ e c' m' h base ρ0 w0 ρ _ w c₀ cs h1 h2 ⟨putE_rel hr.f (by simp only [VRel]) o.dst, by rw [put_defers]; exact hr.d, hr.s⟩ hm
    | false =>
      rw [hrec, cond_false] at h
      split at h
      · rename_i v hv
        obtain ⟨X, g1, g2⟩ := qop_rel hr.s (evF_rel hr.f) hv
        rw [g1]
        exact ih idx hi _ _ e c' m' h base ρ0 w0 ρ _ w c₀ cs h1 h2 ⟨putE_rel hr.f g2 o.dst, by rw [put_defers]; exact hr.d, hr.s⟩ hm
      · cases h

theorem seqD_sound {a b : Code} {fa fb : Cfg → DM → Option (EExit × Cfg × DM)} (ha : CodeDOK P n a fa) (hb : CodeDOK P n b fb) : CodeDOK P n (.seq a b) (seqD fa fb) := by
  intro c m e c' m' h base ρ0 w0 ρ A w c₀ cs h1 h2 hr hm
  refine wpSIn_seq ?_
  unfold seqD at h
  split at h
  · rename_i c1 m1 hc1
    refine wpSIn_mono (ha c m _ _ _ hc1 base ρ0 w0 ρ A w c₀ cs h1 h2 hr hm) ?_
    rintro E A1 cs1 w1 ⟨ρ', u', g1, g2, g3, g4, rfl, g5⟩
    have g2 : E = .normal := g2
    subst g2
    exact hb c1 m1 e c' m' h base ρ0 w0 ρ' A1 w1 { c₀ with mode := u' } cs g1 g4 g3 g5
  · rename_i hne
    refine wpSIn_mono (ha c m e c' m' h base ρ0 w0 ρ A w c₀ cs h1 h2 hr hm) ?_
    rintro E A1 cs1 w1 hp
    cases E with
    | normal =>
      obtain ⟨ρ', u', g1, g2, g3, g4, rfl, g5⟩ := hp
      cases e with
      | normal => exact absurd h (hne c' m')
      | exit id => cases g2
      | ret => cases g2
      | pan v => obtain ⟨X, g2, _⟩ := g2; cases g2
    | _ => exact hp

theorem condD_sound {x : Operand} {a b : Code} {fa fb : Cfg → DM → Option (EExit × Cfg × DM)} (ha : CodeDOK P n a fa) (hb : CodeDOK P n b fb) : CodeDOK P n (.cond x a b) (condD x fa fb) := by
  intro c m e c' m' h base ρ0 w0 ρ A w c₀ cs h1 h2 hr hm
  unfold condD at h
  split at h
  · rename_i hx
    have := evF_rel hr.f _ _ hx
    simp only [VRel] at this
    exact wpSIn_cond this (ha c m e c' m' h base ρ0 w0 ρ A w c₀ cs h1 h2 hr hm)
  · rename_i hx
    have := evF_rel hr.f _ _ hx
    simp only [VRel] at this
    exact wpSIn_cond this (hb c m e c' m' h base ρ0 w0 ρ A w c₀ cs h1 h2 hr hm)
  · cases h

theorem codeD_sound (hs : SelfOK P self) (fuel : Nat) : ∀ x : Code, CodeDOK P n x (runD (compD P self fuel x))
  | .skip => plain_sound (code_sound hs fuel .skip)
  | .label l => plain_sound (code_sound hs fuel (.label l))
  | .ret => plain_sound (code_sound hs fuel .ret)
  | .exit id => plain_sound (code_sound hs fuel (.exit id))
  | .goto l => plain_sound (code_sound hs fuel (.goto l))
  | .scope b => plain_sound (code_sound hs fuel (.scope b))
  | .refuse why => plain_sound (code_sound hs fuel (.refuse why))
  | .region id ops true => plain_sound (code_sound hs fuel (.region id ops true))
  | .region id ops false => by
    intro c m e c' m' h base ρ0 w0 ρ A w c₀ cs h1 h2 hr hm
    have h : (bif hasRec ops.toList then recE P ops.toList c m else withD m (runCode P self fuel none (.region id ops false) c)) = some (e, c', m') := h
    cases hd : hasRec ops.toList with
    | true =>
      rw [hd, cond_true] at h
      exact wpSIn_region (rec_sound ops ops.toList _ (range_map ops) c m e c' m' h base ρ0 w0 ρ A w c₀ cs h1 h2 hr hm)
    | false =>
      rw [hd, cond_false] at h
      exact plain_sound (code_sound hs fuel (.region id ops false)) c m e c' m' h base ρ0 w0 ρ A w c₀ cs h1 h2 hr hm
  | .seq a b => seqD_sound (codeD_sound hs fuel a) (codeD_sound hs fuel b)
  | .cond x a b => condD_sound (codeD_sound hs fuel a) (codeD_sound hs fuel b)
  | .block id b => plain_sound (code_sound hs fuel (.block id b))
  | .loop b => plain_sound (code_sound hs fuel (.loop b))
  | .rangeFunc f ps assign body => plain_sound (code_sound hs fuel (.rangeFunc f ps assign body))

theorem hOf_le {n : Nat} (h : n ≤ 4096) : n ≤ 2 ^ hOf n := by
  unfold hOf
  have bl : ∀ a b : Nat, Nat.ble a b = decide (a ≤ b) := by intro a b; rw [Bool.eq_iff_iff]; simp
  simp only [bl]
  by_cases h1 : n ≤ 1
  · simp [h1]
  by_cases h2 : n ≤ 2
  · simp [h1, h2]
  by_cases h4 : n ≤ 4
  · simp [h1, h2, h4]
  by_cases h8 : n ≤ 8
  · simp [h1, h2, h4, h8]
  by_cases h16 : n ≤ 16
  · simp [h1, h2, h4, h8, h16]
  by_cases h32 : n ≤ 32
  · simp [h1, h2, h4, h8, h16, h32]
  by_cases h64 : n ≤ 64
  · simp [h1, h2, h4, h8, h16, h32, h64]
  by_cases h128 : n ≤ 128
  · simp [h1, h2, h4, h8, h16, h32, h64, h128]
  by_cases h256 : n ≤ 256
  · simp [h1, h2, h4, h8, h16, h32, h64, h128, h256]
  by_cases h512 : n ≤ 512
  · simp [h1, h2, h4, h8, h16, h32, h64, h128, h256, h512]
  by_cases h1024 : n ≤ 1024
  · simp [h1, h2, h4, h8, h16, h32, h64, h128, h256, h512, h1024]
  · simp [h1, h2, h4, h8, h16, h32, h64, h128, h256, h512, h1024]; omega

theorem mkFrm_rel {ρ : Env} {args : List V} {A : Array Value} (h : LRel ρ args A.toList) {n : Nat} (hn : args.length ≤ n) (hm : n ≤ 4096) : FRel ρ (mkFrm n args) (A ++ Array.replicate (n - A.size) undef) := by
  have hl := h.length
  simp only [Array.length_toList] at hl
  refine ⟨by simp [mkFrm]; omega, hOf n, B.ofList_full _ _ _, hOf_le hm, fun i X hi => ?_⟩
  have hi2 : i < n := by
    have := (Array.getElem?_eq_some_iff.1 hi).1
    simp at this; omega
  have hle := hOf_le hm
  show VRel ρ ((B.ofList .undef (hOf n) args).get i) X
  rw [B.ofList_get _ _ _ _ (by omega), List.getD_eq_getElem?_getD]
  rw [Array.getElem?_append] at hi
  by_cases hia : i < A.size
  · rw [if_pos hia] at hi
    have e : args[i]? = some args[i] := List.getElem?_eq_getElem (by omega)
    obtain ⟨Y, h1, h2⟩ := h.get e
    simp only [Array.getElem?_toList] at h1
    rw [hi] at h1; cases h1
    rw [e]; exact h2
  · rw [if_neg hia] at hi
    rw [List.getElem?_eq_none (by omega)]
    rw [Array.getElem?_replicate] at hi
    split at hi
    · cases hi
      show VRel ρ .undef (.tuple #[])
      simp only [VRel]
    · cases hi

theorem def_sound (hs : SelfOK P self) (fuel : Nat) {g : FuncId} {args : List V} {m m' : DM} {s s' : St} (h : runDef P self fuel g args m s = some (m', s')) {base : Nat} {ρ : Env} {w : World} (hS : SRel base ρ s w) {A : Array Value}
    (hA : LRel ρ args A.toList) {u : FrameMode} (hm : DMRel ρ m u) {R : Ending → FrameMode → World → Prop}
    (hR : ∀ X u' w' ρ', ρ.le ρ' → SRel base ρ' s' w' → Below base w w' → DMRel ρ' m' u' → R (.returned X) u' w') : CallsDIn Fence.wide n P g A u w R := by
  unfold runDef at h
  split at h
  · rename_i fn hfn
    split at h
    · rename_i c hc
      simp only [llen_eq] at h
      cases hb : (Nat.ble args.length fn.ntmps && Nat.ble fn.ntmps 4096) with
      | false => simp [hb] at h
      | true =>
      simp only [hb, Bool.not_true, cond_false] at h
      simp only [Bool.and_eq_true, Nat.ble_eq] at hb
      have hfr := mkFrm_rel hA hb.1 hb.2
      refine callsDIn_of_wpSIn hfn hc trivial fun c₀ cs hu => ?_
      subst hu
      split at h
      · rename_i e c' m1 hc1
        have hw := codeD_sound (n := n) hs fuel c _ _ _ _ _ hc1 base ρ w ρ { tmps := _, defers := [] } w c₀ cs ρ.le_refl (Below.refl _ _) ⟨hfr, rfl, hS⟩ hm
        have fin : (match c'.defers with
          | [] => match resultE P c'.st c'.tmps fn.results.toList with
            | some _ => some (m1, c'.st)
            | none => none
          | _ :: _ => none) = some (m', s') → ∀ (A1 : Act) (cs1 : List Frame) (w1 : World) (ρ' : Env) (u' : FrameMode), ρ.le ρ' → Rel base ρ' c' A1 w1 → Below base w w1 → cs1 = { c₀ with mode := u' } :: cs → DMRel ρ' m1 u' →
            A1.defers = [] ∧ ∃ u', cs1 = { c₀ with mode := u' } :: cs ∧ ∃ v, (results fn A1.tmps).run P w1 = .ok v w1 ∧ R (.returned v) u' w1 := by
          intro hh A1 cs1 w1 ρ' u' g1 g3 g4 g5 g6
          split at hh
          · rename_i hd
            split at hh
            · rename_i v hv
              cases hh
              obtain ⟨X, q1, q2⟩ := result_rel (P := P) g3.s g3.f.toA hv
              have hdd := g3.d
              rw [hd] at hdd
              exact ⟨hdd, u', g5, X, q1, hR X u' w1 ρ' g1 g3.s g4 g6⟩
            · cases hh
          · cases hh
        refine wpSIn_mono hw ?_
        rintro E A1 cs1 w1 ⟨ρ', u', g1, g2, g3, g4, g5, g6⟩
        split at h
        · have g2 : E = .normal := g2
          subst g2
          exact fin h A1 cs1 w1 ρ' u' g1 g3 g4 g5 g6
        · have g2 : E = .ret := g2
          subst g2
          exact fin h A1 cs1 w1 ρ' u' g1 g3 g4 g5 g6
        · cases h
      · cases h
    · cases h
  · cases h

theorem leave_sound (hs : SelfOK P self) (fuel : Nat) (fn : Func) {f : Frm} {T : Array Value} {base : Nat} {ρ0 : Env} {w0 : World} {e : EEnd} {s' : St} : ∀ (ds : List EDef) (D : List Deferred) (s : St) (w : World) (ρ : Env) (m : DM) (u : FrameMode),
    leaveE P self fuel fn f m ds s = some (e, s') → ρ0.le ρ → Below base w0 w → FRelA ρ f T → SRel base ρ s w → DRel ρ ds D → DMRel ρ m u → LeavesInM Fence.wide n P fn T (Post base ρ0 w0 e s') D u w
  | [], D, s, w, ρ, m, u, h, h1, h2, hf, hS, hD, hm => by
    have hD : D = [] := hD
    subst hD
    simp only [leaveE] at h
    split at h
    · rename_i v
      cases h
      obtain ⟨X, rfl, hX⟩ := hm
      exact ⟨ρ, h1, ⟨X, rfl, hX⟩, hS, h2⟩
    · cases h
    · split at h
      · rename_i v hv
        cases h
        have hm : u = .returning := hm
        subst hm
        obtain ⟨X, g1, g2⟩ := result_rel (P := P) hS hf hv
        exact ⟨X, g1, ρ, h1, ⟨X, rfl, g2⟩, hS, h2⟩
      · cases h
  | .mark k :: ds, D, s, w, ρ, m, u, h, h1, h2, hf, hS, hD, hm => by
    obtain ⟨x, Y, g1, rfl, g2⟩ := hD
    simp only [leaveE] at h
    split at h
    · rename_i hg
      obtain ⟨y, hy, hb, hO⟩ := hS.obj' hg g1
      rw [g1] at hy; cases hy
      have hO : w.heap[x.B]? = some (.deferred (some [])) := hO
      refine ⟨hm.run, .inl ⟨_, _, rfl, run_takeDeferred hO, ?_⟩⟩
      exact leave_sound hs fuel fn ds Y _ _ ρ m u h h1 (h2.trans (below_set hb rfl)) hf (hS.upd hg g1 (.dfr true) (.deferred none) rfl rfl) g2 hm
    · cases h
  | .call g a c :: ds, D, s, w, ρ, m, u, h, h1, h2, hf, hS, hD, hm => by
    obtain ⟨A1, C1, Y, rfl, q1, q2, q3⟩ := hD
    simp only [leaveE] at h
    cases hb : bodyOK P g with
    | false => rw [hb] at h; cases h
    | true =>
      rw [hb, cond_true] at h
      split at h
      · rename_i m1 s1 hd
        have hrun : (invoke (.fn (.func g) C1) A1).run P w = .ok (.enter g (A1 ++ C1)) w := by
          simp only [invoke]
          exact run_callFunc hb _
        refine ⟨hm.run, .inr ⟨fun hh => by simp [Fence.wide] at hh, .func g, C1, g, A1 ++ C1, rfl, hrun, fun _ _ => trivial, ?_⟩⟩
        refine def_sound hs fuel hd hS (by rw [lapp_eq, Array.toList_append]; exact q1.append q2) hm fun X u' w' ρ' g1 g2 g3 g4 => ?_
        exact leave_sound hs fuel fn ds Y s1 w' ρ' _ _ h (Env.le_trans h1 g1) (h2.trans g3) (hf.mono g1) g2 (q3.mono g1) g4.settle
      · cases h

theorem fn_sound (hs : SelfOK P self) (fuel : Nat) (g : FuncId) (args : List V) (s : St) (e : EEnd) (s' : St) (h : runFn P self fuel g args s = some (e, s')) (base : Nat) (ρ : Env) (w : World) (hS : SRel base ρ s w) (n : Nat)
    (A : Array Value) (hA : LRel ρ args A.toList) : CallsIn Fence.wide n P g A w (Post base ρ w e s') := by
  unfold runFn at h
  split at h
  · rename_i fn hfn
    split at h
    · rename_i c hc
      simp only [llen_eq] at h
      cases hb : (Nat.ble args.length fn.ntmps && Nat.ble fn.ntmps 4096) with
      | false => simp [hb] at h
      | true =>
      simp only [hb, Bool.not_true, cond_false] at h
      simp only [Bool.and_eq_true, Nat.ble_eq] at hb
      have hfr := mkFrm_rel hA hb.1 hb.2
      refine callsIn_of_wp_marks hfn hc trivial ?_
      have run : ∀ (e1 : EExit) (c1 : Cfg), runCode P self fuel none c ⟨mkFrm fn.ntmps args, [], s⟩ = some (e1, c1) →
          (∀ (E : Exit) (A1 : Act) (w1 : World), CPost base ρ w e1 c1 E A1 w1 → bodyPostM Fence.wide n P fn (Post base ρ w e s') E A1 w1) →
          c.wpIn Fence.wide n P (bodyPostM Fence.wide n P fn (Post base ρ w e s')) { tmps := A ++ Array.replicate (fn.ntmps - A.size) undef, defers := [] } w := by
        intro e1 c1 h1 h2
        exact wpIn_mono (F := RF none) (code_sound (r := none) (ro := none) hs fuel c _ _ _ h1 base ρ w ρ { tmps := _, defers := [] } w rfl ρ.le_refl (Below.refl _ _) ⟨hfr, rfl, hS⟩) h2
      split at h
      · rename_i c1 h1
        refine run _ _ h1 ?_
        rintro E A1 w1 ⟨ρ1, g1, g2, g3, g4, g5, g6⟩
        have g2 : E = .normal := g2
        subst g2
        exact leave_sound hs fuel fn _ _ _ _ ρ1 none .returning h g1 g6 (FRel.toA g3) g5 g4 rfl
      · rename_i c1 h1
        refine run _ _ h1 ?_
        rintro E A1 w1 ⟨ρ1, g1, g2, g3, g4, g5, g6⟩
        have g2 : E = .ret := g2
        subst g2
        exact leave_sound hs fuel fn _ _ _ _ ρ1 none .returning h g1 g6 (FRel.toA g3) g5 g4 rfl
      · rename_i v c1 h1
        refine run _ _ h1 ?_
        rintro E A1 w1 ⟨ρ1, g1, ⟨X, rfl, g2⟩, g3, g4, g5, g6⟩
        exact leave_sound hs fuel fn _ _ _ _ ρ1 (some (v, false)) _ h g1 g6 g3 g5 g4 ⟨X, rfl, g2⟩
      · cases h
    · cases h
  · cases h

theorem call_sound {known : ESelf} (hk : SelfOK P known) (fuel : Nat) : ∀ d, SelfOK P (callE P known fuel d)
  | 0 => fun t s e s' h => by
    have h : none = some (e, s') := h
    cases h
  | d + 1 => fun t s e s' h base ρ w hS n => by
    have h : (match known t s with
      | some r => some r
      | none => runT P (callE P known fuel d) fuel t s) = some (e, s') := h
    split at h
    · rename_i r hr
      cases h
      exact hk t s e s' hr base ρ w hS n
    · cases t with
      | fn g args => exact fun A hA => fn_sound (call_sound hk fuel d) fuel g args s e s' h base ρ w hS n A hA
      | round l args => exact fun x L A hx hL hA _ => round_sound (call_sound hk fuel d) fuel l args s e s' h base ρ w hS n x L A hx hL hA

theorem none_ok : SelfOK P (fun _ _ => none) := fun _ _ _ _ h => by cases h

/-- the evaluator's st0: nothing is known of the world -/
def st0 : St := ⟨.leaf, 0⟩
theorem st0_get (b : Nat) (o : EObj) (h : st0.heap.get b = some o) : False := by
  have e : st0.heap.get b = none := T.get_leaf b
  rw [e] at h; cases h
def env0 : Env := ⟨fun _ => none, 0⟩
theorem st0_rel (w : World) : SRel w.heap.size env0 st0 w where
  le := Nat.le_refl _
  obj := fun b o x h => (st0_get b o h).elim
  inj := fun b b' o o' x x' h => (st0_get b o h).elim
  dom := fun b x h => by cases h
  top := Nat.le_refl _

/-- what the evaluator answers of a call with plain arguments, the call answers -/
theorem calls_of_eval {known : ESelf} (hk : SelfOK P known) {fuel d : Nat} {g : FuncId} {args : List V} {v : V} {s' : St} (h : callE P known fuel d (.fn g args) st0 = some (.ret v, s')) (w : World) {A : Array Value}
    (hA : LRel env0 args A.toList) : Calls P g A w fun E w' => ∃ ρ' X, E = .returned X ∧ VRel ρ' v X ∧ SRel w.heap.size ρ' s' w' ∧ Below w.heap.size w w' := by
  have := call_sound hk fuel d (.fn g args) st0 (.ret v) s' h w.heap.size _ w (st0_rel w) 0 A hA
  refine (callsIn_wide.1 this).mono ?_
  rintro E w' ⟨ρ', _, ⟨X, rfl, h1⟩, h2, h3⟩
  exact ⟨ρ', X, rfl, h1, h2, h3⟩
end
end Go.Eng
