/-
  Texts of this claim, one behind the other: SymN SymW. Each says its own conditions.
-/
import Derived.Test.YtechbadkbiognaaFlaM12
import Derived.RecoverIn

set_option linter.unusedVariables false
set_option linter.unusedSimpArgs false
set_option linter.unusedSectionVars false
section
namespace Go.Sym
set_option linter.unusedSimpArgs false
set_option linter.unusedVariables false

section
variable {P : Program} {self : ESelf} {ro r : Option Nat} {n k : Nat}

theorem range_sound (hs : SelfOK P self) (f : Operand) (ps : Array Tmp) (assign body : Code) : CodeOK P ro r n k (.rangeFunc f ps assign body) (rangeE P self ro f ps assign body) := by
  intro c e c' h own ρ0 w0 ρ A w hk h0 h1 h2 hr
  unfold rangeE at h
  split at h
  · cases h
  rename_i s1 d marks hopen
  -- the statement is entered
  have hent : ∃ ρ1 w1 MARKS D, ρ.le ρ1 ∧ SRel own ρ1 s1 w1 ∧ Fr own w w1 ∧ ρ1 d = some D ∧ DRel ρ1 marks MARKS ∧
      (∀ fn, (Instr.enterLoop fn A.tmps ps assign body r).run P w = .ok (w1.heap.size, MARKS) (w1.alloc (.loop { state := .ready, pending := none, fn, tmps := A.tmps, params := ps, assign, body, defers := D.B }))) := by
    cases ro with
    | none =>
      have h0 : r = none := h0
      subst h0
      cases hopen
      have hle := Env.le_put ⟨w.heap.size, 0, 0⟩ hr.s.fresh
      refine ⟨_, w.alloc (.deferred (some [])), [{ target := .collected w.heap.size, args := #[] }], ⟨w.heap.size, 0, 0⟩, hle, hr.s.new (.dfr false) (.deferred (some [])) 0 rfl rfl, fr_new hr.s.le rfl, Env.put_same, ⟨_, _, Env.put_same, rfl, rfl⟩, fun fn => ?_⟩
      have := run_enterLoop_outer (P := P) (w := w) fn A.tmps ps assign body
      rw [World.size_alloc]
      exact this
    | some l0 =>
      obtain ⟨x, hx, rfl⟩ := h0
      have hopen : (match c.st.heap.get l0 with
        | some (.loop r) => some (c.st, r.defers, [])
        | _ => none : Option (St × Nat × List EDef)) = some (s1, d, marks) := hopen
      split at hopen
      · rename_i rl hg
        cases hopen
        obtain ⟨y, hy, _, L, D, l1, l2, l3, l4, l5, l6, l7, l8, l9⟩ := hr.s.obj' hg (h1.sub.1 _ _ hx)
        rw [h1.sub.1 _ _ hx] at hy; cases hy
        refine ⟨ρ, w, [], D, ρ.le_refl, hr.s, Fr.refl _ _, l8, rfl, fun fn => ?_⟩
        rw [← l9]
        exact run_enterLoop_inner l1 fn A.tmps ps assign body
      · cases hopen
  obtain ⟨ρ1, w1, MARKS, D, g1, g2, g3, g4, g5, g6⟩ := hent
  split at h
  · rename_i g first cap hf
    cases hbo : bodyOK P g with
    | false => simp [hbo] at h
    | true =>
    simp only [hbo, cond_true] at h
    -- the record
    have hle2 := Env.le_put ⟨w1.heap.size, 0, 0⟩ g2.fresh
    have hf' := evF_rel hr.f f _ hf
    have hf2 := VRel.mono (Env.le_trans g1 hle2) _ _ hf'
    simp only [VRel] at hf2
    obtain ⟨A1, C1, e1, e2, e3⟩ := hf2
    refine wpIn_rangeFunc fun fn _ => ?_
    let L : Loop := { state := .ready, pending := none, fn, tmps := A.tmps, params := ps, assign, body, defers := D.B }
    let w2 : World := w1.alloc (.loop L)
    have hS2 : SRel own (ρ1.put s1.next ⟨w1.heap.size, 0, 0⟩) (s1.new (.loop ⟨.ready, none, c.tmps, ps.toList, assign, body, d⟩)) w2 :=
      g2.new _ (.loop L) 0 rfl ⟨L, D, rfl, rfl, rfl, (hr.f.mono g1).mono hle2, rfl, rfl, rfl, hle2.sub.1 _ _ g4, rfl⟩
    have hB2 : Fr own w1 w2 := fr_new g2.le rfl
    have hargs : LRel (ρ1.put s1.next ⟨w1.heap.size, 0, 0⟩) (lapp (lapp first [.yld s1.next]) cap) (A1 ++ #[Value.func (.yield w1.heap.size) #[] #[]] ++ C1).toList := by
      rw [lapp_eq, lapp_eq]
      simp only [Array.toList_append]
      exact (e2.append (LRel.cons (by simp only [VRel]; exact ⟨_, _, _, Env.put_same, rfl⟩) LRel.nil)).append e3
    have hself : ∃ ee s2, self (.fn g (lapp (lapp first [.yld s1.next]) cap)) (s1.new (.loop ⟨.ready, none, c.tmps, ps.toList, assign, body, d⟩)) = some (ee, s2) := by
      cases hh : self (.fn g (lapp (lapp first [.yld s1.next]) cap)) (s1.new (.loop ⟨.ready, none, c.tmps, ps.toList, assign, body, d⟩)) with
      | none => rw [hh] at h; cases h
      | some p => exact ⟨p.1, p.2, rfl⟩
    obtain ⟨ee, s2, hself⟩ := hself
    rw [hself] at h
    refine ⟨w1.heap.size, MARKS, w2, { target := .fn (.func g) C1, args := A1 ++ #[Value.func (.yield w1.heap.size) #[] #[]] }, w2, g, _, w2, g6 fn, ?_, fun _ _ => RF_fn _ _, ?_, fun hh => by simp [RF_depth] at hh, callsIn_RF ((hs _ _ _ _ hself own _ w2 hS2 (n - 1) _ hargs).mono ?_)⟩
    · have em : Array.map A.eval #[Operand.const (Value.func (.yield w1.heap.size) #[] #[])] = #[Value.func (.yield w1.heap.size) #[] #[]] := by simp [Act.eval]
      simp only [resolve, rangeCall, e1, Deferred.ofValue, Sem.run_pure, em]
    · simp only [invoke]
      exact run_callFunc hbo _
    · rintro E w3 ⟨ρ3, k1, k2, k3, k4⟩
      have hle3 : ρ.le ρ3 := Env.le_trans g1 (Env.le_trans hle2 k1)
      have hB3 : Fr own w w3 := (g3.trans hB2).trans k4
      have hmarks : DRel ρ3 (marks ++ c.defers) (MARKS ++ A.defers) := by
        have m1 := g5.mono (Env.le_trans hle2 k1)
        have m2 := hr.d.mono hle3
        clear h hopen
        revert m1
        generalize marks = ms
        generalize MARKS = MS
        induction ms generalizing MS with
        | nil => intro m1; have m1 : MS = [] := m1; subst m1; exact m2
        | cons a ms ih =>
          intro m1
          cases a with
          | mark k => obtain ⟨x, Y, q1, rfl, q2⟩ := m1; exact ⟨x, Y ++ A.defers, q1, rfl, ih Y q2⟩
          | call k a b => obtain ⟨A', C', Y, rfl, q1, q2, q3⟩ := m1; exact ⟨A', C', Y ++ A.defers, rfl, q1, q2, ih Y q3⟩
      cases ee with
      | pan v =>
        obtain ⟨X, rfl, k5⟩ := k2
        simp only at h
        cases h
        exact CPost.mk (Env.le_trans h1 hle3) (h2.trans hB3) ⟨hr.f.mono hle3, hmarks, k3⟩ ⟨X, rfl, k5⟩
      | ret v =>
        obtain ⟨X, rfl, k5⟩ := k2
        simp only at h
        split at h
        · rename_i rl hg
          have hnb : rl.state ≠ .busy := by intro e; rw [e] at h; cases h
          have h : (match jumpE rl.pending with
              | some e => some (e, (⟨c.tmps, marks ++ c.defers, s2.upd s1.next (.loop { rl with state := .exhausted })⟩ : Cfg))
              | none => none) = some (e, c') := by
            cases hst : rl.state <;> rw [hst] at h <;> first | exact absurd hst hnb | exact h
          have hy2 : ρ3 s1.next = some ⟨w1.heap.size, 0, 0⟩ := k1.sub.1 _ _ Env.put_same
          obtain ⟨y, hy, _, L3, D3, l1, l2, l3, l4, l5, l6, l7, l8, l9⟩ := k3.obj' hg hy2
          rw [hy2] at hy; cases hy
          simp only at l1
          have hend := run_endLoop (P := P) l1 (by rw [l2]; exact hnb)
          have hS4 : SRel own ρ3 (s2.upd s1.next (.loop { rl with state := .exhausted })) (w3.putObj w1.heap.size (.loop { L3 with state := .exhausted })) :=
            k3.upd hg hy2 _ (.loop { L3 with state := .exhausted }) rfl ⟨_, D3, rfl, rfl, l3, l4, l5, l6, l7, l8, l9⟩
          have hB4 : Fr own w (w3.putObj w1.heap.size (.loop { L3 with state := .exhausted })) := hB3.trans (fr_set (g2.le _ (Nat.le_refl _)) rfl)
          have hrel : Rel own ρ3 ⟨c.tmps, marks ++ c.defers, s2.upd s1.next (.loop { rl with state := .exhausted })⟩ { A with defers := MARKS ++ A.defers } (w3.putObj w1.heap.size (.loop { L3 with state := .exhausted })) :=
            ⟨hr.f.mono hle3, hmarks, hS4⟩
          generalize (⟨c.tmps, marks ++ c.defers, s2.upd s1.next (.loop { rl with state := .exhausted })⟩ : Cfg) = c4 at h hrel
          refine ⟨_, _, hend, ?_⟩
          split
          · rename_i hj
            rw [← l3, hj] at h
            simp only [jumpE] at h
            cases h
            exact CPost.mk (Env.le_trans h1 hle3) (h2.trans hB4) hrel rfl
          · rename_i j hj
            rw [← l3, hj] at h
            cases j <;> simp only [jumpE, reduceCtorEq] at h
            · cases h
              exact wpIn_exit (CPost.mk (Env.le_trans h1 hle3) (h2.trans hB4) hrel rfl)
            · cases h
              exact wpIn_ret (CPost.mk (Env.le_trans h1 hle3) (h2.trans hB4) hrel rfl)
        · cases h
  · cases h

theorem loopF_sound {lp : LpF} {b : Code} {f : Cfg → Option (EExit × Cfg)} (hf : CodeOK P ro r n k (.loop b) f) (hl : ∀ id F, firstR b = some id → lp id = some F → CodeOK P ro r n k (.loop b) F) : CodeOK P ro r n k (.loop b) (loopF lp b f) := by
  unfold loopF
  split
  · split
    · exact hl _ _ ‹_› ‹_›
    · exact hf
  · exact hf
def LpOK (P : Program) (ro r : Option Nat) (n k : Nat) (lp : LpF) : Code → Prop
  | .loop b => (∀ id F, firstR b = some id → lp id = some F → CodeOK P ro r n k (.loop b) F) ∧ LpOK P ro r n k lp b
  | .seq a b => LpOK P ro r n k lp a ∧ LpOK P ro r n k lp b
  | .cond _ a b => LpOK P ro r n k lp a ∧ LpOK P ro r n k lp b
  | .block _ b => LpOK P ro r n k lp b
  | .scope b => LpOK P ro r n k lp b
  | _ => True
theorem noLp_ok : ∀ x : Code, LpOK P ro r n k noLp x
  | .loop b => ⟨fun id F _ h => (by cases h), noLp_ok b⟩
  | .seq a b => ⟨noLp_ok a, noLp_ok b⟩
  | .cond _ a b => ⟨noLp_ok a, noLp_ok b⟩
  | .block _ b => noLp_ok b
  | .scope b => noLp_ok b
  | .skip => trivial
  | .label _ => trivial
  | .ret => trivial
  | .exit _ => trivial
  | .goto _ => trivial
  | .refuse _ => trivial
  | .region .. => trivial
  | .rangeFunc .. => trivial

theorem codeL_sound (hs : SelfOK P self) (fuel : Nat) (lp : LpF) : ∀ x : Code, LpOK P ro r n k lp x → CodeOK P ro r n k x (runF (compC P self fuel ro lp x))
  | .skip, _ => fun c e c' h own ρ0 w0 ρ A w hk h0 h1 h2 hr => by
    have h : some (EExit.normal, c) = some (e, c') := h
    cases h
    exact wpIn_skip (CPost.mk h1 h2 hr rfl)
  | .label l, _ => fun c e c' h own ρ0 w0 ρ A w hk h0 h1 h2 hr => by
    have h : some (EExit.normal, c) = some (e, c') := h
    cases h
    exact wpIn_label (CPost.mk h1 h2 hr rfl)
  | .ret, _ => fun c e c' h own ρ0 w0 ρ A w hk h0 h1 h2 hr => by
    have h : some (EExit.ret, c) = some (e, c') := h
    cases h
    exact wpIn_ret (CPost.mk h1 h2 hr rfl)
  | .exit id, _ => fun c e c' h own ρ0 w0 ρ A w hk h0 h1 h2 hr => by
    have h : some (EExit.exit id, c) = some (e, c') := h
    cases h
    exact wpIn_exit (CPost.mk h1 h2 hr rfl)
  | .goto l, _ => fun c e c' h own ρ0 w0 ρ A w hk h0 h1 h2 hr => by
    have h : none = some (e, c') := h
    cases h
  | .scope b, hl => scope_sound (codeL_sound hs fuel lp b hl)
  | .refuse why, _ => fun c e c' h own ρ0 w0 ρ A w hk h0 h1 h2 hr => by
    have h : none = some (e, c') := h
    cases h
  | .region id ops draw, _ => region_sound hs id ops draw
  | .seq a b, hl => seq_sound (codeL_sound hs fuel lp a hl.1) (codeL_sound hs fuel lp b hl.2)
  | .cond x a b, hl => cond_sound (codeL_sound hs fuel lp a hl.1) (codeL_sound hs fuel lp b hl.2)
  | .block id b, hl => block_sound (codeL_sound hs fuel lp b hl)
  | .loop b, hl => loopF_sound (loop_sound (codeL_sound hs fuel lp b hl.2) fuel) hl.1
  | .rangeFunc f ps assign body, _ => range_sound hs f ps assign body
theorem code_sound (hs : SelfOK P self) (fuel : Nat) (x : Code) : CodeOK P ro r n k x (runF (compC P self fuel ro noLp x)) := codeL_sound hs fuel noLp x (noLp_ok x)

theorem params_rel {ρ : Env} : ∀ (ps : List Tmp) {vs : List V} {As : List Value}, LRel ρ vs As → ∀ {f : Frm} {T : Array Value}, FRel ρ f T →
    FRel ρ (setParams f ps vs) ((ps.zip As).foldl (fun (tmps : Array Value) (x : Tmp × Value) => tmps.setIfInBounds x.1 x.2) T)
  | [], vs, As, h, f, T, hf => by simpa [setParams] using hf
  | p :: ps, [], As, h, f, T, hf => by have h : As = [] := h; subst h; simpa [setParams] using hf
  | p :: ps, v :: vs, As, h, f, T, hf => by
    obtain ⟨X, Y, rfl, h1, h2⟩ := h
    simp only [setParams, List.zip_cons_cons, List.foldl_cons]
    exact params_rel ps h2 (hf.set h1 p)

theorem round_sound (hs : SelfOK P self) (fuel l : Nat) (args : List V) (s : St) (e : EEnd) (s' : St) (h : runRound P self fuel l args s = some (e, s')) (own : Own) (ρ : Env) (w : World) (hS : SRel own ρ s w) (n : Nat)
    (x : Blk) (L : Loop) (A : Array Value) (hx : ρ l = some x) (hL : w.heap[x.B]? = some (.loop L)) (hA : LRel ρ args A.toList) :
    RoundIn Fence.wide n P x.B L.fn ((L.params.zip A).foldl (fun tmps (t, a) => tmps.setIfInBounds t a) L.tmps) L.assign L.body w (Post own ρ w e s') := by
  unfold runRound at h
  split at h
  · rename_i rl hg
    obtain ⟨y, hy, hbase, L', D, l1, l2, l3, l4, l5, l6, l7, l8, l9⟩ := hS.obj' hg hx
    rw [hx] at hy; cases hy
    rw [hL] at l1
    cases l1
    have hfr : FRel ρ (setParams rl.tmps rl.params args) ((L.params.zip A).foldl (fun tmps (t, a) => tmps.setIfInBounds t a) L.tmps) := by
      have := params_rel rl.params hA l4
      rw [← l5] at this ⊢
      rw [← Array.foldl_toList, Array.toList_zip]
      exact this
    split at h
    · rename_i c1 hc1
      split at h
      · rename_i r1 hg1
        split at h
        · rename_i hst
          refine roundIn_of_wpIn trivial ?_
          have hrr : RR ρ (some l) (some x.B) := ⟨x, hx, rfl⟩
          rw [l6, l7]
          refine wpIn_mono (F := RF (some x.B)) (code_sound (k := s.next) hs fuel rl.assign _ _ _ hc1 own ρ w ρ { tmps := _, defers := [] } w ⟨hS.top, hS.dom⟩ hrr ρ.le_refl (Fr.refl _ _) ⟨hfr, rfl, hS⟩) ?_
          rintro E A1 w1 ⟨ρ1, g1, g2, g3, g4, g5, g6⟩
          have g2 : E = .normal := g2
          subst g2
          have hx1 : ρ1 l = some x := g1.sub.1 _ _ hx
          obtain ⟨y1, hy1, hb1, L1, D1, q1, q2, q3, q4, q5, q6, q7, q8, q9⟩ := g5.obj' hg1 hx1
          rw [hx1] at hy1; cases hy1
          refine ⟨_, run_beginRound q1 (by rw [q2]; exact hst), ?_⟩
          have hS2 : SRel own ρ1 (c1.st.upd l (.loop { r1 with state := .busy })) (w1.putObj x.B (.loop { L1 with state := .busy })) :=
            g5.upd hg1 hx1 _ (.loop { L1 with state := .busy }) rfl ⟨_, D1, rfl, rfl, q3, q4, q5, q6, q7, q8, q9⟩
          have hB2 : Fr own w (w1.putObj x.B (.loop { L1 with state := .busy })) := g6.trans (fr_set hbase.1 rfl)
          split at h
          · rename_i e2 c2 hc2
            refine wpIn_mono (F := RF (some x.B)) (code_sound (k := s.next) hs fuel rl.body _ _ _ hc2 own ρ w ρ1 A1 _ ⟨hS.top, hS.dom⟩ hrr g1 hB2 ⟨g3, g4, hS2⟩) ?_
            rintro E2 A2 w2 ⟨ρ2, k1, k2, k3, k4, k5, k6⟩
            split at h
            · rename_i r2 hg2
              have hx2 : ρ2 l = some x := k1.sub.1 _ _ hx
              obtain ⟨y2, hy2, hb2, L2, D2, t1, t2, t3, t4, t5, t6, t7, t8, t9⟩ := k5.obj' hg2 hx2
              rw [hx2] at hy2; cases hy2
              cases e2 with
              | normal =>
                have k2 : E2 = .normal := k2
                subst k2
                simp only at h
                cases h
                refine ⟨_, _, run_endRound none t1, ρ2, k1, ⟨_, rfl, by simp only [VRel]; rfl⟩, ?_, k6.trans (fr_set hbase.1 rfl)⟩
                exact k5.upd hg2 hx2 _ (.loop _) rfl ⟨_, D2, rfl, rfl, rfl, t4, t5, t6, t7, t8, t9⟩
              | ret =>
                have k2 : E2 = .ret := k2
                subst k2
                simp only at h
                cases h
                refine ⟨_, _, run_endRound (some .ret) t1, ρ2, k1, ⟨_, rfl, by simp only [VRel]; rfl⟩, ?_, k6.trans (fr_set hbase.1 rfl)⟩
                exact k5.upd hg2 hx2 _ (.loop _) rfl ⟨_, D2, rfl, rfl, rfl, t4, t5, t6, t7, t8, t9⟩
              | exit id =>
                have k2 : E2 = .exit id := k2
                subst k2
                simp only at h
                cases h
                refine ⟨_, _, run_endRound (some (.exit id)) t1, ρ2, k1, ⟨_, rfl, by simp only [VRel]; rfl⟩, ?_, k6.trans (fr_set hbase.1 rfl)⟩
                exact k5.upd hg2 hx2 _ (.loop _) rfl ⟨_, D2, rfl, rfl, rfl, t4, t5, t6, t7, t8, t9⟩
              | pan v => simp only at h; cases h
            · cases h
          · cases h
        · cases h
      · cases h
    · cases h
  · cases h


def resVar (T : Array Value) : ResultVar → Sem Value
  | .tmp t => pure (T.getD t undef)
  | .cell a t => do loadVar t (← asAddr (T.getD a undef))
theorem results_rel {own : Own} {ρ : Env} {s : St} {w : World} (h : SRel own ρ s w) {f : Frm} {T : Array Value} (hf : FRelA ρ f T) : ∀ {rs : List ResultVar} {l : List V}, resultsE P s f rs = some l →
    ∃ L : List Value, (rs.mapM (resVar T)).run P w = .ok L w ∧ LRel ρ l L
  | [], l, hq => by simp only [resultsE] at hq; cases hq; exact ⟨[], by simp, LRel.nil⟩
  | .tmp t :: rs, l, hq => by
    simp only [resultsE] at hq
    split at hq
    · rename_i l' hl
      split at hq
      · cases hq
      rename_i hne
      cases hq
      obtain ⟨L, h1, h2⟩ := results_rel h hf hl
      exact ⟨T.getD t undef :: L, by simp only [List.mapM_cons, resVar, Sem.run_bind, Sem.run_pure, Result.andThen_ok, h1], LRel.cons (hf.get t) h2⟩
    · cases hq
  | .cell a t :: rs, l, hq => by
    simp only [resultsE] at hq
    split at hq
    · rename_i v hv
      split at hq
      · rename_i l' hl
        cases hq
        obtain ⟨L, h1, h2⟩ := results_rel h hf hl
        obtain ⟨cc, hv, hcc⟩ := chkQ_some hv
        have ha := hf.get a
        obtain ⟨X, h3, h4⟩ := qLoad_rel (P := P) h hv hcc ha
        have hp : ∃ ad, T.getD a undef = .pointer (some ad) := by
          unfold qLoad at hv
          split at hv
          · rename_i e
            rw [e] at ha
            simp only [VRel] at ha
            obtain ⟨B, O, S, _, e2⟩ := ha
            exact ⟨_, e2⟩
          · rename_i e
            rw [e] at ha
            simp only [VRel] at ha
            obtain ⟨B, O, S, _, e2⟩ := ha
            exact ⟨_, e2⟩
          · rename_i e
            rw [e] at ha
            simp only [VRel] at ha
            obtain ⟨B, o, e2, _⟩ := ha
            exact ⟨_, e2⟩
          · cases hv
        obtain ⟨ad, hp⟩ := hp
        rw [hp] at h3
        have h5 : (loadVar t ad).run P w = .ok X w := h3
        refine ⟨X :: L, ?_, LRel.cons h4 h2⟩
        simp only [List.mapM_cons, resVar, Sem.run_bind, Sem.run_pure, Result.andThen_ok, h1, hp, asAddr, h5]
      · cases hq
    · cases hq

theorem result_rel {own : Own} {ρ : Env} {s : St} {w : World} (h : SRel own ρ s w) {f : Frm} {T : Array Value} (hf : FRelA ρ f T) {fn : Func} {v : V} (hq : resultE P s f fn.results.toList = some v) :
    ∃ X, (results fn T).run P w = .ok X w ∧ VRel ρ v X := by
  unfold resultE at hq
  have key : ∀ l, resultsE P s f fn.results.toList = some l → ∃ L : List Value, LRel ρ l L ∧ (results fn T).run P w = .ok (if h : L.toArray.size = 1 then L.toArray[0] else .tuple L.toArray) w := by
    intro l hl
    obtain ⟨L, h1, h2⟩ := results_rel (P := P) h hf hl
    refine ⟨L, h2, ?_⟩
    have e : results fn T = (do
        let vs ← fn.results.mapM (resVar T)
        pure (if h : vs.size = 1 then vs[0] else .tuple vs)) := by
      unfold results
      congr 1
    rw [e]
    simp only [Sem.run_bind, Array.mapM_eq_mapM_toList, Sem.run_map, h1, Result.andThen_ok, Sem.run_pure]
  split at hq
  · rename_i v' hl
    cases hq
    obtain ⟨L, h1, h2⟩ := key _ hl
    obtain ⟨X, Y, rfl, h3, h4⟩ := h1
    have h4 : Y = [] := h4
    subst h4
    exact ⟨X, by simpa using h2, h3⟩
  · rename_i l hne hl
    cases hq
    obtain ⟨L, h1, h2⟩ := key _ hl
    have hlen := h1.length
    have hne1 : ¬ L.toArray.size = 1 := by
      intro e
      simp only [List.size_toArray] at e
      rw [e] at hlen
      obtain ⟨a, rfl⟩ := List.length_eq_one_iff.1 hlen
      exact hne a rfl
    refine ⟨.tuple L.toArray, by rw [h2, dif_neg hne1], ?_⟩
    cases l with
    | nil =>
      have h1 : L = [] := h1
      subst h1
      simp only [VRel]
    | cons a l => simp only [VRel]; exact ⟨_, rfl, by simpa using h1⟩
  · cases hq

def DMRel (ρ : Env) : DM → FrameMode → Prop
  | none, u => u = .returning
  | some (v, b), u => ∃ X, u = .panicking [{ v := X, recovered := b }] ∧ VRel ρ v X
theorem DMRel.mono {ρ ρ' : Env} (h : ρ.le ρ') : ∀ {m : DM} {u : FrameMode}, DMRel ρ m u → DMRel ρ' m u
  | none, _, r => r
  | some _, _, ⟨X, h1, h2⟩ => ⟨X, h1, VRel.mono h _ _ h2⟩
theorem DMRel.settle {ρ : Env} : ∀ {m : DM} {u : FrameMode}, DMRel ρ m u → DMRel ρ (settleE m) (settle u)
  | none, _, r => by have r : _ = _ := r; subst r; rfl
  | some (v, false), _, ⟨X, h1, h2⟩ => by subst h1; exact ⟨X, rfl, h2⟩
  | some (v, true), _, ⟨X, h1, h2⟩ => by subst h1; rfl
theorem DMRel.run {ρ : Env} : ∀ {m : DM} {u : FrameMode}, DMRel ρ m u → u ≠ .run
  | none, _, r => by have r : _ = _ := r; subst r; simp
  | some (v, b), _, ⟨X, h1, h2⟩ => by subst h1; simp
def DPost (own : Own) (ρ : Env) (w : World) (e : EExit) (c' : Cfg) (m' : DM) (c₀ : Frame) (cs : List Frame) : Exit → Act → List Frame → World → Prop :=
  fun E A' cs' w' => ∃ ρ' u', ρ.le ρ' ∧ XRel ρ' e E ∧ Rel own ρ' c' A' w' ∧ Fr own w w' ∧ cs' = { c₀ with mode := u' } :: cs ∧ DMRel ρ' m' u'
def CodeDOK (P : Program) (n : Nat) (x : Code) (f : Cfg → DM → Option (EExit × Cfg × DM)) : Prop :=
  ∀ c m e c' m', f c m = some (e, c', m') → ∀ own ρ0 w0 ρ A w (c₀ : Frame) (cs : List Frame), ρ0.le ρ → Fr own w0 w → Rel own ρ c A w → DMRel ρ m c₀.mode →
    x.wpSIn Fence.wide n P (DPost own ρ0 w0 e c' m' c₀ cs) A (c₀ :: cs) w
theorem wpSIn_mono {F : Fence} {c : Code} {Q Q' : Exit → Act → List Frame → World → Prop} {a : Act} {cs : List Frame} {w : World} (h : c.wpSIn F n P Q a cs w) (hq : ∀ e a cs w, Q e a cs w → Q' e a cs w) : c.wpSIn F n P Q' a cs w :=
  fun b k hb hr hF hroom => let ⟨e, a', cs', w', l, q, r⟩ := h b k hb hr hF hroom; ⟨e, a', cs', w', l, hq _ _ _ _ q, r⟩
theorem plain_sound {x : Code} {f : Cfg → Option (EExit × Cfg)} (hx : ∀ k, CodeOK P none none n k x f) : CodeDOK P n x fun c m => withD m (f c) := by
  intro c m e c' m' h own ρ0 w0 ρ A w c₀ cs h1 h2 hr hm
  cases hf : f c with
  | none => simp [hf, withD] at h
  | some p =>
    obtain ⟨e1, c1⟩ := p
    have hnp : ∀ v, e1 ≠ .pan v := fun v ev => by subst ev; simp [hf, withD] at h
    have h : some (e1, c1, m) = some (e, c', m') := by
      cases e1 with
      | pan v => exact absurd rfl (hnp v)
      | _ => simpa [hf, withD] using h
    simp only [Option.some.injEq, Prod.mk.injEq] at h
    obtain ⟨rfl, rfl, rfl⟩ := h
    refine wpSIn_of_wpIn rfl (wpIn_mono (F := RF none) (hx c.st.next c _ _ hf own ρ w ρ A w ⟨hr.s.top, hr.s.dom⟩ rfl ρ.le_refl (Fr.refl _ _) hr) ?_)
    rintro E A1 w1 ⟨ρ', g1, g2, g3, g4, g5, g6⟩
    have g3 : FRel ρ' c1.tmps A1.tmps := by
      cases e1 with
      | pan v => exact absurd rfl (hnp v)
      | _ => exact g3
    exact ⟨ρ', c₀.mode, Env.le_trans h1 g1, g2, ⟨g3, g4, g5⟩, h2.trans g6, rfl, hm.mono g1⟩

theorem run_rec {A : Act} {o : Oper} (h : isRec o.op = true) {w : World} : (execOp A.eval o).run P w = .ok .recover w := by
  unfold isRec at h
  split at h
  · rename_i cl ho
    split at h
    · rename_i hc
      have ha : cl.args = #[] := by simpa using h
      unfold execOp
      simp [ho, resolve, hc, invoke, Go.builtin, ha]
    · cases h
  · cases h
theorem rec_sound (ops : Array Oper) : ∀ (l : List Oper) (idx : List Nat), idx.map (ops[·]?) = l.map some → ∀ c m e c' m', recE P l c m = some (e, c', m') →
    ∀ own ρ0 w0 ρ A w (c₀ : Frame) (cs : List Frame), ρ0.le ρ → Fr own w0 w → Rel own ρ c A w → DMRel ρ m c₀.mode → wpOpsSIn Fence.wide n P ops (DPost own ρ0 w0 e c' m' c₀ cs) idx A (c₀ :: cs) w := by
  intro l
  induction l with
  | nil =>
    intro idx hi c m e c' m' h own ρ0 w0 ρ A w c₀ cs h1 h2 hr hm
    have hi : idx = [] := by simpa using hi
    subst hi
    simp only [recE] at h
    cases h
    exact ⟨ρ, c₀.mode, h1, rfl, hr, h2, rfl, hm⟩
  | cons o l ih =>
    intro idx hi c m e c' m' h own ρ0 w0 ρ A w c₀ cs h1 h2 hr hm
    cases idx with
    | nil => simp at hi
    | cons i idx =>
    simp only [List.map_cons, List.cons.injEq] at hi
    obtain ⟨hio, hi⟩ := hi
    simp only [recE] at h
    split at h
    · cases h
    rename_i hg
    have hw : Region.wanted o (yielded ops A.tmps) = true := by unfold Region.wanted; rw [hg]
    simp only [wpOpsSIn, hio, hw, if_true]
    refine ⟨fun f' _ => trivial, ?_⟩
    cases hrec : isRec o.op with
    | true =>
      rw [hrec, cond_true] at h
      rw [run_rec hrec]
      simp only
      split at h
      · rename_i v
        obtain ⟨X, hu, hX⟩ := hm
        have e1 : recoverD (c₀ :: cs) = some (X, { c₀ with mode := .panicking [{ v := X, recovered := true }] } :: cs) := by simp [recoverD, hu]
        rw [e1]
        exact ih idx hi _ _ e c' m' h own ρ0 w0 ρ _ w { c₀ with mode := .panicking [{ v := X, recovered := true }] } cs h1 h2 ⟨putE_rel hr.f hX o.dst, by rw [put_defers]; exact hr.d, hr.s⟩ ⟨X, rfl, hX⟩
      · rename_i m1 hne
        have e1 : recoverD (c₀ :: cs) = none := by
          cases m with
          | none => have hm : _ = _ := hm; simp [recoverD, hm]
          | some p =>
            obtain ⟨v, b⟩ := p
            cases b with
            | false => exact absurd rfl (hne v)
            | true => obtain ⟨X, hu, hX⟩ := hm; simp [recoverD, hu]
        rw [e1]
        exact ih idx hi _ _ e c' m' h own ρ0 w0 ρ _ w c₀ cs h1 h2 ⟨putE_rel hr.f (by simp only [VRel]) o.dst, by rw [put_defers]; exact hr.d, hr.s⟩ hm
    | false =>
      rw [hrec, cond_false] at h
      split at h
      · rename_i v hv
        obtain ⟨cq, hvq, hcq⟩ := chkQ_some hv
        obtain ⟨X, g1, g2⟩ := qop_rel hr.s (evF_rel hr.f) hvq hcq
        rw [g1]
        exact ih idx hi _ _ e c' m' h own ρ0 w0 ρ _ w c₀ cs h1 h2 ⟨putE_rel hr.f g2 o.dst, by rw [put_defers]; exact hr.d, hr.s⟩ hm
      · cases h

theorem seqD_sound {a b : Code} {fa fb : Cfg → DM → Option (EExit × Cfg × DM)} (ha : CodeDOK P n a fa) (hb : CodeDOK P n b fb) : CodeDOK P n (.seq a b) (seqD fa fb) := by
  intro c m e c' m' h own ρ0 w0 ρ A w c₀ cs h1 h2 hr hm
  refine wpSIn_seq ?_
  unfold seqD at h
  split at h
  · rename_i c1 m1 hc1
    refine wpSIn_mono (ha c m _ _ _ hc1 own ρ0 w0 ρ A w c₀ cs h1 h2 hr hm) ?_
    rintro E A1 cs1 w1 ⟨ρ', u', g1, g2, g3, g4, rfl, g5⟩
    have g2 : E = .normal := g2
    subst g2
    exact hb c1 m1 e c' m' h own ρ0 w0 ρ' A1 w1 { c₀ with mode := u' } cs g1 g4 g3 g5
  · rename_i hne
    refine wpSIn_mono (ha c m e c' m' h own ρ0 w0 ρ A w c₀ cs h1 h2 hr hm) ?_
    rintro E A1 cs1 w1 hp
    cases E with
    | normal =>
      obtain ⟨ρ', u', g1, g2, g3, g4, rfl, g5⟩ := hp
      cases e with
      | normal => exact absurd h (hne c' m')
      | exit id => cases g2
      | ret => cases g2
      | pan v => obtain ⟨X, g2, _⟩ := g2; cases g2
    | _ => exact hp

theorem condD_sound {x : Operand} {a b : Code} {fa fb : Cfg → DM → Option (EExit × Cfg × DM)} (ha : CodeDOK P n a fa) (hb : CodeDOK P n b fb) : CodeDOK P n (.cond x a b) (condD x fa fb) := by
  intro c m e c' m' h own ρ0 w0 ρ A w c₀ cs h1 h2 hr hm
  unfold condD at h
  split at h
  · rename_i hx
    have := evF_rel hr.f _ _ hx
    simp only [VRel] at this
    exact wpSIn_cond this (ha c m e c' m' h own ρ0 w0 ρ A w c₀ cs h1 h2 hr hm)
  · rename_i hx
    have := evF_rel hr.f _ _ hx
    simp only [VRel] at this
    exact wpSIn_cond this (hb c m e c' m' h own ρ0 w0 ρ A w c₀ cs h1 h2 hr hm)
  · cases h

theorem codeD_sound (hs : SelfOK P self) (fuel : Nat) : ∀ x : Code, CodeDOK P n x (runD (compD P self fuel x))
  | .skip => plain_sound (fun k => code_sound hs fuel .skip)
  | .label l => plain_sound (fun k => code_sound hs fuel (.label l))
  | .ret => plain_sound (fun k => code_sound hs fuel .ret)
  | .exit id => plain_sound (fun k => code_sound hs fuel (.exit id))
  | .goto l => plain_sound (fun k => code_sound hs fuel (.goto l))
  | .scope b => plain_sound (fun k => code_sound hs fuel (.scope b))
  | .refuse why => plain_sound (fun k => code_sound hs fuel (.refuse why))
  | .region id ops true => plain_sound (fun k => code_sound hs fuel (.region id ops true))
  | .region id ops false => by
    intro c m e c' m' h own ρ0 w0 ρ A w c₀ cs h1 h2 hr hm
    have h : (bif hasRec ops.toList then recE P ops.toList c m else withD m (runCode P self fuel none (.region id ops false) c)) = some (e, c', m') := h
    cases hd : hasRec ops.toList with
    | true =>
      rw [hd, cond_true] at h
      exact wpSIn_region (rec_sound ops ops.toList _ (range_map ops) c m e c' m' h own ρ0 w0 ρ A w c₀ cs h1 h2 hr hm)
    | false =>
      rw [hd, cond_false] at h
      exact plain_sound (fun k => code_sound hs fuel (.region id ops false)) c m e c' m' h own ρ0 w0 ρ A w c₀ cs h1 h2 hr hm
  | .seq a b => seqD_sound (codeD_sound hs fuel a) (codeD_sound hs fuel b)
  | .cond x a b => condD_sound (codeD_sound hs fuel a) (codeD_sound hs fuel b)
  | .block id b => plain_sound (fun k => code_sound hs fuel (.block id b))
  | .loop b => plain_sound (fun k => code_sound hs fuel (.loop b))
  | .rangeFunc f ps assign body => plain_sound (fun k => code_sound hs fuel (.rangeFunc f ps assign body))

theorem hOf_le {n : Nat} (h : n ≤ 4096) : n ≤ 2 ^ hOf n := by
  unfold hOf
  have bl : ∀ a b : Nat, Nat.ble a b = decide (a ≤ b) := by intro a b; rw [Bool.eq_iff_iff]; simp
  simp only [bl]
  by_cases h1 : n ≤ 1
  · simp [h1]
  by_cases h2 : n ≤ 2
  · simp [h1, h2]
  by_cases h4 : n ≤ 4
  · simp [h1, h2, h4]
  by_cases h8 : n ≤ 8
  · simp [h1, h2, h4, h8]
  by_cases h16 : n ≤ 16
  · simp [h1, h2, h4, h8, h16]
  by_cases h32 : n ≤ 32
  · simp [h1, h2, h4, h8, h16, h32]
  by_cases h64 : n ≤ 64
  · simp [h1, h2, h4, h8, h16, h32, h64]
  by_cases h128 : n ≤ 128
  · simp [h1, h2, h4, h8, h16, h32, h64, h128]
  by_cases h256 : n ≤ 256
  · simp [h1, h2, h4, h8, h16, h32, h64, h128, h256]
  by_cases h512 : n ≤ 512
  · simp [h1, h2, h4, h8, h16, h32, h64, h128, h256, h512]
  by_cases h1024 : n ≤ 1024
  · simp [h1, h2, h4, h8, h16, h32, h64, h128, h256, h512, h1024]
  · simp [h1, h2, h4, h8, h16, h32, h64, h128, h256, h512, h1024]; omega

theorem mkFrm_rel {ρ : Env} {args : List V} {A : Array Value} (h : LRel ρ args A.toList) {n : Nat} (hn : args.length ≤ n) (hm : n ≤ 4096) : FRel ρ (mkFrm n args) (A ++ Array.replicate (n - A.size) undef) := by
  have hl := h.length
  simp only [Array.length_toList] at hl
  refine ⟨by simp [mkFrm]; omega, hOf n, B.ofList_full _ _ _, hOf_le hm, fun i X hi => ?_⟩
  have hi2 : i < n := by
    have := (Array.getElem?_eq_some_iff.1 hi).1
    simp at this; omega
  have hle := hOf_le hm
  show VRel ρ ((B.ofList .undef (hOf n) args).get i) X
  rw [B.ofList_get _ _ _ _ (by omega), List.getD_eq_getElem?_getD]
  rw [Array.getElem?_append] at hi
  by_cases hia : i < A.size
  · rw [if_pos hia] at hi
    have e : args[i]? = some args[i] := List.getElem?_eq_getElem (by omega)
    obtain ⟨Y, h1, h2⟩ := h.get e
    simp only [Array.getElem?_toList] at h1
    rw [hi] at h1; cases h1
    rw [e]; exact h2
  · rw [if_neg hia] at hi
    rw [List.getElem?_eq_none (by omega)]
    rw [Array.getElem?_replicate] at hi
    split at hi
    · cases hi
      show VRel ρ .undef (.tuple #[])
      simp only [VRel]
    · cases hi

theorem def_sound (hs : SelfOK P self) (fuel : Nat) {g : FuncId} {args : List V} {m m' : DM} {s s' : St} (h : runDef P self fuel g args m s = some (m', s')) {own : Own} {ρ : Env} {w : World} (hS : SRel own ρ s w) {A : Array Value}
    (hA : LRel ρ args A.toList) {u : FrameMode} (hm : DMRel ρ m u) {R : Ending → FrameMode → World → Prop}
    (hR : ∀ X u' w' ρ', ρ.le ρ' → SRel own ρ' s' w' → Fr own w w' → DMRel ρ' m' u' → R (.returned X) u' w') : CallsDIn Fence.wide n P g A u w R := by
  unfold runDef at h
  split at h
  · rename_i fn hfn
    split at h
    · rename_i c hc
      simp only [llen_eq] at h
      cases hb : (Nat.ble args.length fn.ntmps && Nat.ble fn.ntmps 4096) with
      | false => simp [hb] at h
      | true =>
      simp only [hb, Bool.not_true, cond_false] at h
      simp only [Bool.and_eq_true, Nat.ble_eq] at hb
      have hfr := mkFrm_rel hA hb.1 hb.2
      refine callsDIn_of_wpSIn hfn hc trivial fun c₀ cs hu => ?_
      subst hu
      split at h
      · rename_i e c' m1 hc1
        have hw := codeD_sound (n := n) hs fuel c _ _ _ _ _ hc1 own ρ w ρ { tmps := _, defers := [] } w c₀ cs ρ.le_refl (Fr.refl _ _) ⟨hfr, rfl, hS⟩ hm
        have fin : (match c'.defers with
          | [] => match resultE P c'.st c'.tmps fn.results.toList with
            | some _ => some (m1, c'.st)
            | none => none
          | _ :: _ => none) = some (m', s') → ∀ (A1 : Act) (cs1 : List Frame) (w1 : World) (ρ' : Env) (u' : FrameMode), ρ.le ρ' → Rel own ρ' c' A1 w1 → Fr own w w1 → cs1 = { c₀ with mode := u' } :: cs → DMRel ρ' m1 u' →
            A1.defers = [] ∧ ∃ u', cs1 = { c₀ with mode := u' } :: cs ∧ ∃ v, (results fn A1.tmps).run P w1 = .ok v w1 ∧ R (.returned v) u' w1 := by
          intro hh A1 cs1 w1 ρ' u' g1 g3 g4 g5 g6
          split at hh
          · rename_i hd
            split at hh
            · rename_i v hv
              cases hh
              obtain ⟨X, q1, q2⟩ := result_rel (P := P) g3.s g3.f.toA hv
              have hdd := g3.d
              rw [hd] at hdd
              exact ⟨hdd, u', g5, X, q1, hR X u' w1 ρ' g1 g3.s g4 g6⟩
            · cases hh
          · cases hh
        refine wpSIn_mono hw ?_
        rintro E A1 cs1 w1 ⟨ρ', u', g1, g2, g3, g4, g5, g6⟩
        split at h
        · have g2 : E = .normal := g2
          subst g2
          exact fin h A1 cs1 w1 ρ' u' g1 g3 g4 g5 g6
        · have g2 : E = .ret := g2
          subst g2
          exact fin h A1 cs1 w1 ρ' u' g1 g3 g4 g5 g6
        · cases h
      · cases h
    · cases h
  · cases h

theorem leave_sound (hs : SelfOK P self) (fuel : Nat) (fn : Func) {f : Frm} {T : Array Value} {own : Own} {ρ0 : Env} {w0 : World} {e : EEnd} {s' : St} : ∀ (ds : List EDef) (D : List Deferred) (s : St) (w : World) (ρ : Env) (m : DM) (u : FrameMode),
    leaveE P self fuel fn f m ds s = some (e, s') → ρ0.le ρ → Fr own w0 w → FRelA ρ f T → SRel own ρ s w → DRel ρ ds D → DMRel ρ m u → LeavesInM Fence.wide n P fn T (Post own ρ0 w0 e s') D u w
  | [], D, s, w, ρ, m, u, h, h1, h2, hf, hS, hD, hm => by
    have hD : D = [] := hD
    subst hD
    simp only [leaveE] at h
    split at h
    · rename_i v
      cases h
      obtain ⟨X, rfl, hX⟩ := hm
      exact ⟨ρ, h1, ⟨X, rfl, hX⟩, hS, h2⟩
    · cases h
    · split at h
      · rename_i v hv
        cases h
        have hm : u = .returning := hm
        subst hm
        obtain ⟨X, g1, g2⟩ := result_rel (P := P) hS hf hv
        exact ⟨X, g1, ρ, h1, ⟨X, rfl, g2⟩, hS, h2⟩
      · cases h
  | .mark k :: ds, D, s, w, ρ, m, u, h, h1, h2, hf, hS, hD, hm => by
    obtain ⟨x, Y, g1, rfl, g2⟩ := hD
    simp only [leaveE] at h
    split at h
    · rename_i hg
      obtain ⟨y, hy, hb, hO⟩ := hS.obj' hg g1
      rw [g1] at hy; cases hy
      have hO : w.heap[x.B]? = some (.deferred (some [])) := hO
      refine ⟨hm.run, .inl ⟨_, _, rfl, run_takeDeferred hO, ?_⟩⟩
      exact leave_sound hs fuel fn ds Y _ _ ρ m u h h1 (h2.trans (fr_set hb.1 rfl)) hf (hS.upd hg g1 (.dfr true) (.deferred none) rfl rfl) g2 hm
    · cases h
  | .call g a c :: ds, D, s, w, ρ, m, u, h, h1, h2, hf, hS, hD, hm => by
    obtain ⟨A1, C1, Y, rfl, q1, q2, q3⟩ := hD
    simp only [leaveE] at h
    cases hb : bodyOK P g with
    | false => rw [hb] at h; cases h
    | true =>
      rw [hb, cond_true] at h
      split at h
      · rename_i m1 s1 hd
        have hrun : (invoke (.fn (.func g) C1) A1).run P w = .ok (.enter g (A1 ++ C1)) w := by
          simp only [invoke]
          exact run_callFunc hb _
        refine ⟨hm.run, .inr ⟨fun hh => by simp [Fence.wide] at hh, .func g, C1, g, A1 ++ C1, rfl, hrun, fun _ _ => trivial, ?_⟩⟩
        refine def_sound hs fuel hd hS (by rw [lapp_eq, Array.toList_append]; exact q1.append q2) hm fun X u' w' ρ' g1 g2 g3 g4 => ?_
        exact leave_sound hs fuel fn ds Y s1 w' ρ' _ _ h (Env.le_trans h1 g1) (h2.trans g3) (hf.mono g1) g2 (q3.mono g1) g4.settle
      · cases h

theorem fnL_sound (hs : SelfOK P self) (fuel : Nat) (lp : LpF) (g : FuncId) (args : List V) (s : St) (hlp : ∀ fn c n, P.funcs[g]? = some fn → fn.body = some c → LpOK P none none n s.next lp c) (e : EEnd) (s' : St) (h : runFnL P self fuel lp g args s = some (e, s')) (own : Own) (ρ : Env) (w : World) (hS : SRel own ρ s w) (n : Nat)
    (A : Array Value) (hA : LRel ρ args A.toList) : CallsIn Fence.wide n P g A w (Post own ρ w e s') := by
  unfold runFnL at h
  split at h
  · rename_i fn hfn
    split at h
    · rename_i c hc
      simp only [llen_eq] at h
      cases hb : (Nat.ble args.length fn.ntmps && Nat.ble fn.ntmps 4096) with
      | false => simp [hb] at h
      | true =>
      simp only [hb, Bool.not_true, cond_false] at h
      simp only [Bool.and_eq_true, Nat.ble_eq] at hb
      have hfr := mkFrm_rel hA hb.1 hb.2
      refine callsIn_of_wp_marks hfn hc trivial ?_
      have run : ∀ (e1 : EExit) (c1 : Cfg), runF (compC P self fuel none lp c) ⟨mkFrm fn.ntmps args, [], s⟩ = some (e1, c1) →
          (∀ (E : Exit) (A1 : Act) (w1 : World), CPost own ρ w e1 c1 E A1 w1 → bodyPostM Fence.wide n P fn (Post own ρ w e s') E A1 w1) →
          c.wpIn Fence.wide n P (bodyPostM Fence.wide n P fn (Post own ρ w e s')) { tmps := A ++ Array.replicate (fn.ntmps - A.size) undef, defers := [] } w := by
        intro e1 c1 h1 h2
        exact wpIn_mono (F := RF none) (codeL_sound (r := none) (ro := none) (k := s.next) hs fuel lp c (hlp fn c n hfn hc) _ _ _ h1 own ρ w ρ { tmps := _, defers := [] } w ⟨hS.top, hS.dom⟩ rfl ρ.le_refl (Fr.refl _ _) ⟨hfr, rfl, hS⟩) h2
      split at h
      · rename_i c1 h1
        refine run _ _ h1 ?_
        rintro E A1 w1 ⟨ρ1, g1, g2, g3, g4, g5, g6⟩
        have g2 : E = .normal := g2
        subst g2
        exact leave_sound hs fuel fn _ _ _ _ ρ1 none .returning h g1 g6 (FRel.toA g3) g5 g4 rfl
      · rename_i c1 h1
        refine run _ _ h1 ?_
        rintro E A1 w1 ⟨ρ1, g1, g2, g3, g4, g5, g6⟩
        have g2 : E = .ret := g2
        subst g2
        exact leave_sound hs fuel fn _ _ _ _ ρ1 none .returning h g1 g6 (FRel.toA g3) g5 g4 rfl
      · rename_i v c1 h1
        refine run _ _ h1 ?_
        rintro E A1 w1 ⟨ρ1, g1, ⟨X, rfl, g2⟩, g3, g4, g5, g6⟩
        exact leave_sound hs fuel fn _ _ _ _ ρ1 (some (v, false)) _ h g1 g6 g3 g5 g4 ⟨X, rfl, g2⟩
      · cases h
    · cases h
  · cases h

theorem fn_sound (hs : SelfOK P self) (fuel : Nat) (g : FuncId) (args : List V) (s : St) (e : EEnd) (s' : St) (h : runFn P self fuel g args s = some (e, s')) (own : Own) (ρ : Env) (w : World) (hS : SRel own ρ s w) (n : Nat)
    (A : Array Value) (hA : LRel ρ args A.toList) : CallsIn Fence.wide n P g A w (Post own ρ w e s') :=
  fnL_sound hs fuel noLp g args s (fun _ c _ _ _ => noLp_ok c) e s' h own ρ w hS n A hA

theorem call_sound {known : ESelf} (hk : SelfOK P known) (fuel : Nat) : ∀ d, SelfOK P (callE P known fuel d)
  | 0 => fun t s e s' h => by
    have h : none = some (e, s') := h
    cases h
  | d + 1 => fun t s e s' h own ρ w hS n => by
    have h : (match known t s with
      | some r => some r
      | none => runT P (callE P known fuel d) fuel t s) = some (e, s') := h
    split at h
    · rename_i r hr
      cases h
      exact hk t s e s' hr own ρ w hS n
    · cases t with
      | fn g args => exact fun A hA => fn_sound (call_sound hk fuel d) fuel g args s e s' h own ρ w hS n A hA
      | round l args => exact fun x L A hx hL hA _ => round_sound (call_sound hk fuel d) fuel l args s e s' h own ρ w hS n x L A hx hL hA

end
end Go.Sym
end

section
namespace Go.Sym
set_option linter.unusedSimpArgs false
set_option linter.unusedVariables false

abbrev KC := EExit → Cfg → Prop
abbrev KS := EEnd → St → Prop
abbrev CW := Cfg → KC → Prop
abbrev SW := ETgt → St → KS → Prop

def needsR (l : List Bool) (q : Prop) : Prop := @List.rec Bool (fun _ => Prop) q (fun b _ ih => andB b ih) l
theorem needsR_iff : ∀ (l : List Bool) (q : Prop), needsR l q ↔ allB l ∧ q
  | [], q => by show q ↔ _; simp [allB]
  | b :: l, q => by
    show andB b (needsR l q) ↔ _
    rw [andB_iff, needsR_iff l q, allB, and_assoc]
def forceN : Nat → (Nat → Prop) → Prop
  | 0, k => k 0
  | n + 1, k => forceN n fun m => k (m + 1)
theorem forceN_iff : ∀ (n : Nat) (k : Nat → Prop), forceN n k ↔ k n
  | 0, k => Iff.rfl
  | n + 1, k => forceN_iff n fun m => k (m + 1)
def forceM : List (Nat × Nat) → (List (Nat × Nat) → Prop) → Prop
  | [], k => k []
  | e :: l, k => forceN e.2 fun b => forceM l fun l' => k ((e.1, b) :: l')
theorem forceM_iff : ∀ (l : List (Nat × Nat)) (k : List (Nat × Nat) → Prop), forceM l k ↔ k l
  | [], k => Iff.rfl
  | e :: l, k => by rw [forceM, forceN_iff]; exact forceM_iff l fun l' => k ((e.1, e.2) :: l')
def forceVL (f : V → (V → Prop) → Prop) : List V → (List V → Prop) → Prop
  | [], k => k []
  | v :: l, k => f v fun v => forceVL f l fun l => k (v :: l)
theorem forceVL_iff {f : V → (V → Prop) → Prop} (hf : ∀ v k, f v k ↔ k v) : ∀ (l : List V) (k : List V → Prop), forceVL f l k ↔ k l
  | [], k => Iff.rfl
  | v :: l, k => by rw [forceVL, hf]; exact forceVL_iff hf l fun l => k (v :: l)
def forceV : Nat → V → (V → Prop) → Prop
  | 0, v, k => k v
  | d + 1, v, k => match v with
    | .agg l => forceVL (forceV d) l fun l => k (.agg l)
    | .tup l => forceVL (forceV d) l fun l => k (.tup l)
    | .iface t v => forceV d v fun v => k (.iface t v)
    | .fn f a c => forceVL (forceV d) a fun a => forceVL (forceV d) c fun c => k (.fn f a c)
    | .ptr b o => forceN b fun b => forceN o fun o => k (.ptr b o)
    | .rptr b i j es => forceN b fun b => forceN j fun j => k (.rptr b i j es)
    | .sl b o len cap x es => forceN b fun b => forceN o fun o => forceN len fun len => forceN cap fun cap => k (.sl b o len cap x es)
    | .rs b lo len cap x es => forceN b fun b => k (.rs b lo len cap x es)
    | .map b => forceN b fun b => k (.map b)
    | .yld l => forceN l fun l => k (.yld l)
    | .undef => k .undef
    | .any => k .any
    | .bool b => k (.bool b)
    | .int kd n => k (.int kd n)
    | .str s => k (.str s)
    | .nilp => k .nilp
    | .nils => k .nils
    | .nilm => k .nilm
    | .nilf => k .nilf
    | .nili => k .nili
    | .lptr e L i j => k (.lptr e L i j)
    | .lst e L cl => k (.lst e L cl)
    | .arr e L => k (.arr e L)
theorem forceV_iff : ∀ (d : Nat) (v : V) (k : V → Prop), forceV d v k ↔ k v
  | 0, v, k => Iff.rfl
  | d + 1, v, k => by
    unfold forceV
    split <;> simp only [forceVL_iff (forceV_iff d), forceV_iff d, forceN_iff]
def forceB : B V → (B V → Prop) → Prop
  | .leaf v, k => forceV 4 v fun v => k (.leaf v)
  | .node l r, k => forceB l fun l => forceB r fun r => k (.node l r)
theorem forceB_iff : ∀ (t : B V) (k : B V → Prop), forceB t k ↔ k t
  | .leaf v, k => forceV_iff _ _ _
  | .node l r, k => by rw [forceB, forceB_iff l, forceB_iff r]
def forceF (f : Frm) (k : Frm → Prop) : Prop := match f with
  | ⟨n, t⟩ => forceB t fun t => k ⟨n, t⟩
theorem forceF_iff (f : Frm) (k : Frm → Prop) : forceF f k ↔ k f := by cases f; exact forceB_iff _ _
def setK (x : V) : B V → Nat → (B V → Prop) → Prop
  | .leaf _, _, k => k (.leaf x)
  | .node l r, n, k => match Nat.beq (n % 2) 1 with
    | true => setK x r (n / 2) fun r => k (.node l r)
    | false => setK x l (n / 2) fun l => k (.node l r)
theorem setK_iff (x : V) : ∀ (t : B V) (n : Nat) (k : B V → Prop), setK x t n k ↔ k (B.set x t n)
  | .leaf _, _, k => Iff.rfl
  | .node l r, n, k => by
    rw [setK, B.set_node]
    cases Nat.beq (n % 2) 1
    · exact setK_iff x l _ _
    · exact setK_iff x r _ _
def putK (f : Frm) (d : Option Tmp) (v : V) (k : Frm → Prop) : Prop := match d with
  | none => k f
  | some d => match f with
    | ⟨n, t⟩ => match Nat.blt d n with
      | true => setK v t d fun t => k ⟨n, t⟩
      | false => k ⟨n, t⟩
theorem putK_iff (f : Frm) (d : Option Tmp) (v : V) (k : Frm → Prop) : putK f d v k ↔ k (putE f d v) := by
  cases d with
  | none => exact Iff.rfl
  | some d =>
    rw [putE_some]
    cases f with
    | mk n t =>
      simp only [putK]
      cases Nat.blt d n
      · exact Iff.rfl
      · exact setK_iff _ _ _ _
theorem B.ext {α : Type} : ∀ (t t' : B α) (d : Nat), t.full d → t'.full d → (∀ i, i < 2 ^ d → t.get i = t'.get i) → t = t'
  | .leaf v, .leaf v', d, _, _, hg => by
    have : v = v' := hg 0 (Nat.two_pow_pos d)
    rw [this]
  | .leaf _, .node _ _, d, h, h', _ => by
    have h : d = 0 := h
    obtain ⟨e, he, _, _⟩ := h'
    omega
  | .node _ _, .leaf _, d, h, h', _ => by
    have h' : d = 0 := h'
    obtain ⟨e, he, _, _⟩ := h
    omega
  | .node l r, .node l' r', d, h, h', hg => by
    obtain ⟨e, rfl, h1, h2⟩ := h
    obtain ⟨e', he, h3, h4⟩ := h'
    have he : e = e' := by omega
    subst he
    rw [Nat.pow_succ] at hg
    have hl : l = l' := B.ext l l' e h1 h3 fun i hi => by
      have := hg (2 * i) (by omega)
      rw [B.get_node, B.get_node, show (2 * i) % 2 = 0 by omega, show (2 * i) / 2 = i by omega] at this
      exact this
    have hr : r = r' := B.ext r r' e h2 h4 fun i hi => by
      have := hg (2 * i + 1) (by omega)
      rw [B.get_node, B.get_node, show (2 * i + 1) % 2 = 1 by omega, show (2 * i + 1) / 2 = i by omega] at this
      exact this
    rw [hl, hr]
def repB (z : V) : Nat → B V
  | 0 => .leaf z
  | d + 1 => .node (repB z d) (repB z d)
theorem repB_full (z : V) : ∀ d, (repB z d).full d
  | 0 => rfl
  | d + 1 => ⟨d, rfl, repB_full z d, repB_full z d⟩
theorem repB_get (z : V) : ∀ (d i : Nat), (repB z d).get i = z
  | 0, _ => rfl
  | d + 1, i => by
    rw [repB, B.get_node]
    cases Nat.beq (i % 2) 1
    · exact repB_get z d _
    · exact repB_get z d _
def slotD (z : V) (i : Nat) : List (Nat × V) → V
  | [] => z
  | e :: l => bif Nat.beq e.1 i then e.2 else slotD z i l
noncomputable def setsB (n : Nat) (t : B V) : List (Nat × V) → B V
  | [] => t
  | e :: l => bif Nat.blt e.1 n then B.set e.2 (setsB n t l) e.1 else setsB n t l
theorem setsB_full {n d : Nat} {t : B V} (h : t.full d) : ∀ l, (setsB n t l).full d
  | [] => h
  | e :: l => by
    rw [setsB]
    cases Nat.blt e.1 n
    · exact setsB_full h l
    · exact B.set_full _ _ _ _ (setsB_full h l)
theorem setsB_get {n d : Nat} {z : V} (hn : n ≤ 2 ^ d) : ∀ (l : List (Nat × V)) (i : Nat), i < n → (setsB n (repB z d) l).get i = slotD z i l
  | [], i, _ => repB_get z d i
  | e :: l, i, hi => by
    have ih := setsB_get (z := z) hn l i hi
    rw [setsB, slotD]
    cases hb : Nat.blt e.1 n with
    | true =>
      rw [blt_iff] at hb
      have hb := of_decide_eq_true hb
      rw [cond_true, B.get_set _ _ d _ _ (setsB_full (repB_full z d) l) (by omega) (by omega), ih]
      by_cases h : i = e.1
      · subst h; rw [if_pos rfl, Nat.beq_refl, cond_true]
      · rw [if_neg h]
        cases hq : Nat.beq e.1 i with
        | true => exact absurd (Nat.eq_of_beq_eq_true hq).symm h
        | false => rfl
    | false =>
      rw [cond_false, ih]
      cases hq : Nat.beq e.1 i with
      | true =>
        have := Nat.eq_of_beq_eq_true hq
        rw [blt_iff] at hb
        have := of_decide_eq_false hb
        omega
      | false => rfl
theorem setsB_get' {n d : Nat} {z : V} (hn : n ≤ 2 ^ d) : ∀ (l : List (Nat × V)) (i : Nat), n ≤ i → i < 2 ^ d → (setsB n (repB z d) l).get i = z
  | [], i, _, _ => repB_get z d i
  | e :: l, i, hi, hd => by
    have ih := setsB_get' (z := z) hn l i hi hd
    rw [setsB]
    cases hb : Nat.blt e.1 n with
    | true =>
      rw [blt_iff] at hb
      have hb := of_decide_eq_true hb
      rw [cond_true, B.get_set _ _ d _ _ (setsB_full (repB_full z d) l) (by omega) hd, ih, if_neg (by omega)]
    | false => exact ih
def argsL : Nat → List V → List (Nat × V)
  | _, [] => []
  | i, v :: l => (i, v) :: argsL (i + 1) l
theorem argsL_slot (z : V) : ∀ (l : List V) (j i : Nat), j ≤ i → slotD z i (argsL j l) = l.getD (i - j) z
  | [], _, _, _ => rfl
  | v :: l, j, i, h => by
    rw [argsL, slotD]
    cases hq : Nat.beq j i with
    | true =>
      have := Nat.eq_of_beq_eq_true hq
      subst this
      rw [cond_true, Nat.sub_self]; rfl
    | false =>
      have hne : j ≠ i := fun e => by rw [e, Nat.beq_refl] at hq; cases hq
      rw [cond_false, argsL_slot z l (j + 1) i (by omega), show i - j = (i - (j + 1)) + 1 by omega]
      rfl
theorem mkFrm_sets {n : Nat} {args : List V} (h1 : args.length ≤ n) (h2 : n ≤ 4096) : mkFrm n args = ⟨n, setsB n (repB .undef (hOf n)) (argsL 0 args)⟩ := by
  have hd := hOf_le h2
  unfold mkFrm
  rw [B.ext (B.ofList .undef (hOf n) args) (setsB n (repB .undef (hOf n)) (argsL 0 args)) (hOf n) (B.ofList_full _ _ _) (setsB_full (repB_full _ _) _) fun i hi => ?_]
  rw [B.ofList_get _ _ _ _ hi]
  rcases Nat.lt_or_ge i n with h | h
  · rw [setsB_get hd _ _ h, argsL_slot _ _ _ _ (Nat.zero_le _), Nat.sub_zero]
  · rw [setsB_get' hd _ _ h hi, List.getD_eq_getElem?_getD, List.getElem?_eq_none (by omega)]
    rfl
def repK (z : V) : Nat → (B V → Prop) → Prop
  | 0, k => k (.leaf z)
  | d + 1, k => repK z d fun t => k (.node t t)
theorem repK_iff (z : V) : ∀ (d : Nat) (k : B V → Prop), repK z d k ↔ k (repB z d)
  | 0, k => Iff.rfl
  | d + 1, k => by rw [repK, repK_iff z d]; exact Iff.rfl
def setsK (n : Nat) (t : B V) : List (Nat × V) → (B V → Prop) → Prop
  | [], k => k t
  | (i, v) :: l, k => setsK n t l fun t => match Nat.blt i n with
    | true => forceV 4 v fun v => setK v t i k
    | false => k t
theorem setsK_iff (n : Nat) (t : B V) : ∀ (l : List (Nat × V)) (k : B V → Prop), setsK n t l k ↔ k (setsB n t l)
  | [], k => Iff.rfl
  | (i, v) :: l, k => by
    rw [setsK, setsK_iff n t l, setsB]
    cases Nat.blt i n
    · exact Iff.rfl
    · simp only [forceV_iff, setK_iff, cond_true]
def frmK (n : Nat) (z : V) (l : List (Nat × V)) (k : Frm → Prop) : Prop := repK z (hOf n) fun t => setsK n t l fun t => k ⟨n, t⟩
theorem frmK_iff (n : Nat) (z : V) (l : List (Nat × V)) (k : Frm → Prop) : frmK n z l k ↔ k ⟨n, setsB n (repB z (hOf n)) l⟩ := by rw [frmK, repK_iff, setsK_iff]
theorem frmK_args {n : Nat} {args : List V} {k : Frm → Prop} (hg : (Nat.ble (llen args) n && Nat.ble n 4096) = true) (h : frmK n .undef (argsL 0 args) k) : k (mkFrm n args) := by
  rw [Bool.and_eq_true, Nat.ble_eq, Nat.ble_eq, llen_eq] at hg
  rw [mkFrm_sets hg.1 hg.2]
  exact (frmK_iff _ _ _ _).1 h
def forceE (r : ELoop) (k : ELoop → Prop) : Prop := match r with
  | ⟨st, p, f, ps, a, b, d⟩ => forceN d fun d => k ⟨st, p, f, ps, a, b, d⟩
theorem forceE_iff (r : ELoop) (k : ELoop → Prop) : forceE r k ↔ k r := by cases r; exact forceN_iff _ _
def forceO : Option EObj → (Option EObj → Prop) → Prop
  | some (.cells cs t h), k => forceVL (forceV 4) cs fun cs => k (some (.cells cs t h))
  | some (.loop r), k => forceE r fun r => k (some (.loop r))
  | some (.rows e L t h), k => k (some (.rows e L t h))
  | some (.dfr b), k => k (some (.dfr b))
  | some (.map es c), k => k (some (.map es c))
  | some (.pm kk tt M c), k => k (some (.pm kk tt M c))
  | some (.mit m a s c), k => forceN m fun m => k (some (.mit m a s c))
  | none, k => k none
theorem forceO_iff (o : Option EObj) (k : Option EObj → Prop) : forceO o k ↔ k o := by
  unfold forceO
  split <;> first | exact Iff.rfl | exact forceVL_iff (forceV_iff 4) _ _ | exact forceE_iff _ _ | exact forceN_iff _ _
def forceT : T EObj → (T EObj → Prop) → Prop
  | .leaf, k => k .leaf
  | .node v l r, k => forceO v fun v => forceT l fun l => forceT r fun r => k (.node v l r)
theorem forceT_iff : ∀ (t : T EObj) (k : T EObj → Prop), forceT t k ↔ k t
  | .leaf, k => Iff.rfl
  | .node v l r, k => by rw [forceT, forceO_iff, forceT_iff l, forceT_iff r]
def forceS (s : St) (k : St → Prop) : Prop := match s with
  | ⟨h, n⟩ => forceT h fun h => forceN n fun n => k ⟨h, n⟩
theorem forceS_iff (s : St) (k : St → Prop) : forceS s k ↔ k s := by cases s; simp only [forceS, forceT_iff, forceN_iff]
def forceC (c : Cfg) (k : Cfg → Prop) : Prop := match c with
  | ⟨f, ds, s⟩ => forceF f fun f => forceS s fun s => k ⟨f, ds, s⟩
theorem forceC_iff (c : Cfg) (k : Cfg → Prop) : forceC c k ↔ k c := by cases c; simp only [forceC, forceF_iff, forceS_iff]
def forceG (t : ETgt) (k : ETgt → Prop) : Prop := match t with
  | .fn f args => forceVL (forceV 4) args fun args => k (.fn f args)
  | .round l args => forceVL (forceV 4) args fun args => k (.round l args)
theorem forceG_iff (t : ETgt) (k : ETgt → Prop) : forceG t k ↔ k t := by cases t <;> exact forceVL_iff (forceV_iff 4) _ _
def finK (f : Frm) : List DRec → (Frm → Prop) → Prop
  | [], k => k f
  | r :: l, k => putK f r.o.dst r.v fun f => finK f l k
theorem finK_iff (f : Frm) : ∀ (l : List DRec) (k : Frm → Prop), finK f l k ↔ k (finF f l) := by
  intro l
  induction l generalizing f with
  | nil => intro k; exact Iff.rfl
  | cons r l ih => intro k; rw [finK, putK_iff, ih]; exact Iff.rfl
noncomputable section
variable (P : Program)

def eqFields2 (nest : TypeId → V → V → Option Bool) (d : List Field) (l m : List V) : Option Bool :=
  match d with
  | [] => some true
  | f :: rest =>
    match P.underlying f.type with
    | some (.int _) => match lget l f.offset, lget m f.offset with
      | some (.int k x), some (.int k' y) => bif kEq k k' then (match eqFields2 nest rest l m with
        | some r => some (decide (x = y) && r)
        | none => none) else none
      | _, _ => none
    | some .bool => match lget l f.offset, lget m f.offset with
      | some (.bool x), some (.bool y) => match eqFields2 nest rest l m with
        | some r => some ((x == y) && r)
        | none => none
      | _, _ => none
    | some .string => match lget l f.offset, lget m f.offset with
      | some (.str x), some (.str y) => match eqFields2 nest rest l m with
        | some r => some (sEq x y && r)
        | none => none
      | _, _ => none
    | some (.struct _) => match partE P f.type l f.offset, partE P f.type m f.offset with
      | some x, some y => match nest f.type x y, eqFields2 nest rest l m with
        | some q, some r => some (q && r)
        | _, _ => none
      | _, _ => none
    | _ => none
def eqNest2 : Nat → TypeId → V → V → Option Bool
  | 0, _, _, _ => none
  | n + 1, t, a, b => match P.underlying t with
    | some (.struct fs) => match a, b with
      | .agg l, .agg m => eqFields2 P (eqNest2 n) fs.toList l m
      | _, _ => none
    | _ => none
def okFs (n : Nat) (f : Nat → TypeId → Bool) : List Field → Bool
  | [] => true
  | fd :: l => (!(fd.name == "_") && (match P.underlying fd.type with
    | some (.struct _) => f n fd.type
    | _ => true)) && okFs n f l
def okF : Nat → TypeId → Bool
  | 0, _ => false
  | n + 1, t => match P.underlying t with
    | some (.struct fs) => !(P.stoodInHeld t) && okFs P n (fun _ => okF n) fs.toList
    | _ => false
def eqOK0 (t : TypeId) : Bool := okF P 7 t && !(P.eqGuardType P.depth t)
def eqOK (t : TypeId) : Bool := Classical.choose (⟨eqOK0 P t, rfl⟩ : ∃ y, y = eqOK0 P t)
theorem eqOK_eq (t : TypeId) : eqOK P t = eqOK0 P t := Classical.choose_spec (⟨eqOK0 P t, rfl⟩ : ∃ y, y = eqOK0 P t)
def structEq (ev : Operand → Option V) (op : Op) : Option (List Bool × V) :=
  match op with
  | .binOp o t x y _ => (match P.underlying t with
    | some (.struct fs) => (match o with
      | .eql => (match ev x, ev y with
        | some (.agg l), some (.agg m) => (match eqFields2 P (eqNest2 P 6) fs.toList l m with
          | some r => some ([eqOK P t], .bool r)
          | none => none)
        | _, _ => none)
      | .neq => (match ev x, ev y with
        | some (.agg l), some (.agg m) => (match eqFields2 P (eqNest2 P 6) fs.toList l m with
          | some r => some ([eqOK P t], .bool (!r))
          | none => none)
        | _, _ => none)
      | _ => none)
    | _ => none)
  | _ => none
theorem okFs_eq {n : Nat} (hn : ∀ t a b, okF P n t = true → eqNest P n t a b = eqNest2 P n t a b) : ∀ (d : List Field) (l m : List V), okFs P n (fun _ => okF P n) d = true → eqFields P (eqNest P n) d l m = eqFields2 P (eqNest2 P n) d l m
  | [], _, _, _ => rfl
  | f :: d, l, m, h => by
    rw [okFs, Bool.and_eq_true, Bool.and_eq_true] at h
    obtain ⟨⟨h1, h2⟩, h3⟩ := h
    have ih := okFs_eq hn d l m h3
    have hf : (f.name == "_") = false := by simpa using h1
    rw [eqFields, eqFields2, hf, cond_false]
    cases hu : P.underlying f.type with
    | none => rfl
    | some u =>
      rw [hu] at h2
      cases u with
      | struct fs =>
        simp only at h2 ⊢
        cases partE P f.type l f.offset with
        | none => rfl
        | some x =>
          cases partE P f.type m f.offset with
          | none => rfl
          | some y =>
            simp only [hn _ x y h2, ih]
            rfl
      | _ => first | rfl | (simp only [ih]; done) | (simp only [ih]; rfl)
theorem okNest_eq : ∀ (n : Nat) (t : TypeId) (a b : V), okF P n t = true → eqNest P n t a b = eqNest2 P n t a b
  | 0, _, _, _, h => by cases h
  | n + 1, t, a, b, h => by
    rw [okF] at h
    rw [eqNest, eqNest2]
    cases hu : P.underlying t with
    | none => rfl
    | some u =>
      rw [hu] at h
      cases u with
      | struct fs =>
        simp only [Bool.and_eq_true, Bool.not_eq_true'] at h
        cases a <;> cases b <;> first
          | rfl
          | (simp only [h.1, cond_false]; exact okFs_eq P (okNest_eq n) _ _ _ h.2)
      | _ => first | rfl | cases h
theorem structEq_ok {s : St} {ev : Operand → Option V} {op : Op} {c : List Bool} {v : V} (h : structEq P ev op = some (c, v)) (hc : allB c) : qop P s ev op = some ([], v) := by
  unfold structEq at h
  split at h
  · rename_i o t x y z
    split at h
    · rename_i fs hu
      have key : ∀ l m r, eqFields2 P (eqNest2 P 6) fs.toList l m = some r → eqOK P t = true → eqAny P s t (.agg l) (.agg m) = some r := by
        intro l m r hr hk
        rw [eqOK_eq] at hk
        unfold eqOK0 at hk
        rw [Bool.and_eq_true, Bool.not_eq_true'] at hk
        obtain ⟨k1, k2⟩ := hk
        rw [okF, hu] at k1
        simp only [Bool.and_eq_true, Bool.not_eq_true'] at k1
        unfold eqAny
        have e1 : eqE P s t (.agg l) (.agg m) = none := by unfold eqE; rw [hu]
        have e2 : eqNil2 P t (.agg l) (.agg m) = none := by unfold eqNil2; rw [hu]
        have e3 : eqStruct P t (.agg l) (.agg m) = some r := by
          unfold eqStruct
          rw [hu]
          simp only [k1.1, k2, Bool.or_self, cond_false]
          rw [okFs_eq P (okNest_eq P 6) _ _ _ k1.2]
          exact hr
        rw [e1, e2, e3]
      split at h
      · split at h
        · rename_i l m hx hy
          split at h
          · rename_i r hr
            cases h
            simp only [qop, hx, hy, qBin, key l m r hr hc.1, ok0]
          · cases h
        · cases h
      · split at h
        · rename_i l m hx hy
          split at h
          · rename_i r hr
            cases h
            simp only [qop, hx, hy, qBin, key l m r hr hc.1, ok0]
          · cases h
        · cases h
      · cases h
    · cases h
  · cases h

def effW (s : St) (ev : Operand → Option V) (op : Op) (k : EOut → St → Prop) : Prop :=
  match eopR P s ev op with
  | some (.inl (some (c, v, s'))) => needsR c (forceS s' (k (.val v)))
  | some (.inl none) => False
  | some (.inr (some (c, s'))) => needsR c (forceS s' (k .skip))
  | some (.inr none) => False
  | none => match eopC P s ev op with
    | some (o, s') => forceS s' (k o)
    | none => False
def splitF (d : Option Tmp) (f : Frm) (k : Frm → Prop) : Prop :=
  match d with
  | none => k f
  | some d => match f.get d with
    | .bool b => iteB b (putK f (some d) (.bool true) k) (putK f (some d) (.bool false) k)
    | _ => k f
def slotG (g : Option (Option Tmp × Bool)) : Option Tmp :=
  match g with
  | some (some d, _) => some d
  | _ => none
def slotP (op : Op) : Option Tmp :=
  match op with
  | .pick (.tmp c) _ _ => some c
  | _ => none
def slotO (x : Operand) : Option Tmp :=
  match x with
  | .tmp c => some c
  | _ => none
def opW (s : St) (ev : Operand → Option V) (op : Op) (k : EOut → St → Prop) : Prop :=
  match structEq P ev op with
  | some (c, v) => needsR c (k (.val v) s)
  | none => match qop P s ev op with
    | some (c, v) => needsR c (k (.val v) s)
    | none => effW P s ev op k
def guardW (g : Option (Option Tmp × Bool)) (f : Frm) (yes no : Prop) : Prop :=
  match g with
  | none => yes
  | some (none, _) => no
  | some (some d, want) => match f.get d with
    | .any => False
    | .bool b => (match want with
      | true => iteB b yes no
      | false => iteB b no yes)
    | _ => no
def nextW (self : SW) (d : Option Tmp) (rest : CW) (f : Frm) (ds : List EDef) (k : KC) (o : EOut) (s : St) : Prop :=
  match o with
  | .val v => forceV 4 v fun v => putK f d v fun f => rest ⟨f, ds, s⟩ k
  | .skip => putK f d .undef fun f => rest ⟨f, ds, s⟩ k
  | .pan v => k (.pan v) ⟨f, ds, s⟩
  | .enter t => forceG t fun t => self t s fun e s' => match e with
    | .ret v => forceV 4 v fun v => putK f d v fun f => rest ⟨f, ds, s'⟩ k
    | .pan v => k (.pan v) ⟨f, ds, s'⟩
def stepW (self : SW) (ops : Array Oper) (rest : CW) (o : Oper) (c : Cfg) (k : KC) : Prop :=
  match c with
  | ⟨fr, ds, s⟩ => splitF (slotG (guardOf ops o)) fr fun fr => guardW (guardOf ops o) fr (splitF (slotP o.op) fr fun fr => opW P s (evF fr) o.op (nextW self o.dst rest fr ds k)) (putK fr o.dst .undef fun fr => rest ⟨fr, ds, s⟩ k)
def opsW (self : SW) (ops : Array Oper) (l : List Oper) : CW :=
  @List.rec Oper (fun _ => CW) (fun c k => k .normal c) (fun x _ ih => stepW P self ops ih x) l

def noMem (op : Op) : Bool :=
  match op with
  | .move _ | .assign _ | .pick .. | .unOp .. | .makeInterface .. | .makeFunc .. | .fieldAddr .. | .field .. | .indexAddr .. | .index .. | .build .. | .extract .. | .typeAssert .. | .nilCheck _ => true
  | .binOp _ t _ _ _ => (match P.underlying t with
    | some (.int _) => true
    | some .bool => true
    | some .string => true
    | _ => false)
  | .slice t _ _ _ _ => (match P.underlying t with
    | some .string => true
    | some (.slice _) => true
    | _ => false)
  | _ => false
def quietW (mb : Option Nat) (s : St) (ev : Operand → Option V) (op : Op) (k : V → Prop) : Prop :=
  match mb with
  | none => (match structEq P ev op with
    | some (c, v) => needsR c (k v)
    | none => (match qop P s ev op with
      | some (c, v) => needsR c (k v)
      | none => False))
  | some b => (match mkR P ev op with
    | some (c, m) => needsR c (s.heap.get b = some m.obj ∧ k (m.val b))
    | none => False)
def isQuiet (mb : Option Nat) (s : St) (ev : Operand → Option V) (op : Op) : Bool :=
  match mb with
  | none => (match structEq P ev op with
    | some _ => true
    | none => (qop P s ev op).isSome)
  | some _ => true
def panTailW (ops : Array Oper) (M : List (Nat × Nat)) (A : List Nat) (ip : Nat) (l : List Oper) : Nat → Frm → St → (List DRec → Prop) → Prop :=
  @List.rec Oper (fun _ => Nat → Frm → St → (List DRec → Prop) → Prop) (fun _ _ _ k => k [])
    (fun o _ ih i f s k => bif tbQ (ogetN (lget A i)) ip then putK f o.dst .undef fun f' => ih (Nat.succ i) f' s (fun R => k (⟨i, o, f, s, .undef, false, none, none⟩ :: R))
    else splitF (slotG (guardOf ops o)) f fun f => guardW (guardOf ops o) f
      (splitF (slotP o.op) f fun f => quietW P (findM i M) s (evL (o.looksAt ops) f) o.op fun v => forceV 4 v fun v => putK f o.dst v fun f' => ih (Nat.succ i) f' s (fun R => k (⟨i, o, f, s, v, true, none, findM i M⟩ :: R)))
      (putK f o.dst .undef fun f' => ih (Nat.succ i) f' s (fun R => k (⟨i, o, f, s, .undef, false, none, findM i M⟩ :: R)))) l
theorem panTailW_cons (ops : Array Oper) (M : List (Nat × Nat)) (A : List Nat) (ip : Nat) (o : Oper) (l : List Oper) (i : Nat) (f : Frm) (s : St) (k : List DRec → Prop) : panTailW P ops M A ip (o :: l) i f s k =
    (bif tbQ (ogetN (lget A i)) ip then putK f o.dst .undef fun f' => panTailW P ops M A ip l (Nat.succ i) f' s (fun R => k (⟨i, o, f, s, .undef, false, none, none⟩ :: R))
    else splitF (slotG (guardOf ops o)) f fun f => guardW (guardOf ops o) f
      (splitF (slotP o.op) f fun f => quietW P (findM i M) s (evL (o.looksAt ops) f) o.op fun v => forceV 4 v fun v => putK f o.dst v fun f' => panTailW P ops M A ip l (Nat.succ i) f' s (fun R => k (⟨i, o, f, s, v, true, none, findM i M⟩ :: R)))
      (putK f o.dst .undef fun f' => panTailW P ops M A ip l (Nat.succ i) f' s (fun R => k (⟨i, o, f, s, .undef, false, none, findM i M⟩ :: R)))) := rfl
def drawOneW (self : SW) (ops : Array Oper) (M : List (Nat × Nat)) (o : Oper) (ih : Nat → Frm → St → (List DRec → Prop) → (List DRec → Nat → V → St → Prop) → Prop) (pt : Nat → Nat → Frm → St → (List DRec → Prop) → Prop) (i : Nat) (f : Frm) (s : St) (kR : List DRec → Prop) (kP : List DRec → Nat → V → St → Prop) : Prop :=
    splitF (slotG (guardOf ops o)) f fun f => guardW (guardOf ops o) f
      (splitF (slotP o.op) f fun f => match isQuiet P (findM i M) s (evL (o.looksAt ops) f) o.op with
      | true => quietW P (findM i M) s (evL (o.looksAt ops) f) o.op fun v => forceV 4 v fun v => putK f o.dst v fun f' => ih (Nat.succ i) f' s (fun R => kR (⟨i, o, f, s, v, true, none, findM i M⟩ :: R)) (fun R => kP (⟨i, o, f, s, v, true, none, findM i M⟩ :: R))
      | false => effW P s (evL (o.looksAt ops) f) o.op fun out s1 => match out with
        | .val v => forceV 4 v fun v => putK f o.dst v fun f' => ih (Nat.succ i) f' s1 (fun R => kR (⟨i, o, f, s, v, false, some s1, none⟩ :: R)) (fun R => kP (⟨i, o, f, s, v, false, some s1, none⟩ :: R))
        | .skip => putK f o.dst .undef fun f' => ih (Nat.succ i) f' s1 (fun R => kR (⟨i, o, f, s, .undef, false, some s1, none⟩ :: R)) (fun R => kP (⟨i, o, f, s, .undef, false, some s1, none⟩ :: R))
        | .pan v => putK f o.dst .undef fun f' => pt i (Nat.succ i) f' s (fun R => kP (⟨i, o, f, s, .undef, false, none, none⟩ :: R) i v s1)
        | .enter t => forceG t fun t => self t s1 fun e s2 => match e with
          | .ret v => forceV 4 v fun v => putK f o.dst v fun f' => ih (Nat.succ i) f' s2 (fun R => kR (⟨i, o, f, s, v, false, some s2, none⟩ :: R)) (fun R => kP (⟨i, o, f, s, v, false, some s2, none⟩ :: R))
          | .pan v => putK f o.dst .undef fun f' => pt i (Nat.succ i) f' s (fun R => kP (⟨i, o, f, s, .undef, false, none, none⟩ :: R) i v s2))
      (putK f o.dst .undef fun f' => ih (Nat.succ i) f' s (fun R => kR (⟨i, o, f, s, .undef, false, none, findM i M⟩ :: R)) (fun R => kP (⟨i, o, f, s, .undef, false, none, findM i M⟩ :: R)))
def drawW (self : SW) (ops : Array Oper) (M : List (Nat × Nat)) (A : List Nat) (l : List Oper) : Nat → Frm → St → (List DRec → Prop) → (List DRec → Nat → V → St → Prop) → Prop :=
  @List.rec Oper (fun _ => Nat → Frm → St → (List DRec → Prop) → (List DRec → Nat → V → St → Prop) → Prop) (fun _ _ _ kR _ => kR [])
    (fun o l ih => drawOneW P self ops M o ih (fun ip => panTailW P ops M A ip l)) l
theorem drawW_cons (self : SW) (ops : Array Oper) (M : List (Nat × Nat)) (A : List Nat) (o : Oper) (l : List Oper) : drawW P self ops M A (o :: l) = drawOneW P self ops M o (drawW P self ops M A l) (fun ip => panTailW P ops M A ip l) := rfl
def askW (ops : Array Oper) (r : DRec) (s : St) (k : Prop) : Prop :=
  quietW P r.mb s (evL (r.o.looksAt ops) r.f) r.o.op fun v => v.same r.v = true ∧ k
def anyN (m : Nat) : List Nat → Bool
  | [] => false
  | n :: l => bif tbQ m n then true else anyN m l
def allN (m : Nat) : List Nat → Bool
  | [] => true
  | n :: l => tbQ m n && allN m l
def beforeN (A : List Nat) (i : Nat) : List Nat → Bool
  | [] => true
  | n :: l => tbQ (ogetN (lget A n)) i && beforeN A i l
def chainN (A : List Nat) : List Nat → Bool
  | [] => true
  | n :: l => beforeN A n l && chainN A l
def idxsE : List (Nat × St) → List Nat
  | [] => []
  | e :: l => e.1 :: idxsE l
def forceL : List Nat → (List Nat → Prop) → Prop
  | [], k => k []
  | n :: l, k => forceN n fun m => forceL l fun l' => k (m :: l')
theorem forceL_iff : ∀ (l : List Nat) (k : List Nat → Prop), forceL l k ↔ k l
  | [], k => Iff.rfl
  | n :: l, k => by rw [forceL, forceN_iff]; exact forceL_iff l fun l' => k (n :: l')
def chkEW (ops : Array Oper) (A : List Nat) (r : DRec) (i : Nat) (s : St) (I : List Nat) (E : List (Nat × St)) (k : Prop) : Prop :=
  @List.rec Nat (fun _ => St → List (Nat × St) → Prop → Prop) (fun s E k => match E with
    | [] => askW P ops r s k
    | _ :: _ => False)
    (fun n I ih s E k => match E with
    | [] => askW P ops r s k
    | e :: l => (match anyN (ogetN (lget A i)) (n :: I) with
      | true => (bif tbQ (ogetN (lget A n)) i then k else ih e.2 l k)
      | false => askW P ops r s (bif tbQ (ogetN (lget A n)) i then k else ih e.2 l k))) I s E k
theorem chkEW_cons (ops : Array Oper) (A : List Nat) (r : DRec) (i : Nat) (s : St) (n : Nat) (I : List Nat) (e : Nat × St) (l : List (Nat × St)) (k : Prop) : chkEW P ops A r i s (n :: I) (e :: l) k = (match anyN (ogetN (lget A i)) (n :: I) with
      | true => (bif tbQ (ogetN (lget A n)) i then k else chkEW P ops A r i e.2 I l k)
      | false => askW P ops r s (bif tbQ (ogetN (lget A n)) i then k else chkEW P ops A r i e.2 I l k)) := rfl
def isNo : Option Nat → Bool
  | none => true
  | some _ => false
def chkAllW (ops : Array Oper) (A : List Nat) (s : St) (I : List Nat) (E : List (Nat × St)) (R : List DRec) (k : Prop) : Prop :=
  @List.rec DRec (fun _ => Prop → Prop) (fun k => k) (fun r _ ih k => match r.q && !(isNo r.mb && noMem P r.o.op) with
    | true => forceN r.i fun i => chkEW P ops A r i s I E (ih k)
    | false => ih k) R k
theorem chkAllW_cons (ops : Array Oper) (A : List Nat) (s : St) (I : List Nat) (E : List (Nat × St)) (r : DRec) (l : List DRec) (k : Prop) : chkAllW P ops A s I E (r :: l) k = (match r.q && !(isNo r.mb && noMem P r.o.op) with
    | true => forceN r.i fun i => chkEW P ops A r i s I E (chkAllW P ops A s I E l k)
    | false => chkAllW P ops A s I E l k) := rfl
def guardB (b : Bool) (k : Prop) : Prop := match b with
  | true => k
  | false => False
def drawRW (self : SW) (ops : Array Oper) (c : Cfg) (k : KC) : Prop :=
  guardB (P.follows .mixedOrders && stOK ops) (match preM P ops c.tmps c.st with
    | (s0, M) => forceS s0 fun s0 => forceM M fun M => drawW P self ops M (ancsE ops.toList []) ops.toList 0 c.tmps s0
      (fun R => forceL (idxsE (effs R)) fun I => guardB (chainN (ancsE ops.toList []) I) (chkAllW P ops (ancsE ops.toList []) s0 I (effs R) R (finK c.tmps R fun f => forceS (lastS s0 (effs R)) fun s => k .normal ⟨f, c.defers, s⟩)))
      (fun R ip v s' => forceL (idxsE (effs R)) fun I => guardB (chainN (ancsE ops.toList []) I && allN (ogetN (lget (ancsE ops.toList []) ip)) I) (chkAllW P ops (ancsE ops.toList []) s0 I (effs R) R (k (.pan v) ⟨anyF c.tmps ops.toList, c.defers, s'⟩))))

def dferW : List Oper → CW
  | [], c, k => k .normal c
  | o :: l, c, k => match o.guard with
    | some _ => False
    | none => match o.op with
      | .defer cl => match cl.callee with
        | .value f => match evF c.tmps f, evalOs (evF c.tmps) cl.args.toList with
          | some (.fn g first cap), some vs => guardB (bodyOK P g) (dferW l ⟨putE c.tmps o.dst .undef, .call g (lapp first vs) cap :: c.defers, c.st⟩ k)
          | _, _ => False
        | _ => False
      | op => match qop P c.st (evF c.tmps) op with
        | some (cs, v) => needsR cs (dferW l ⟨putE c.tmps o.dst v, c.defers, c.st⟩ k)
        | none => False
def regionW (self : SW) (round : Option Nat) (ops : Array Oper) (draw : Bool) : CW :=
  match draw with
  | false => (match hasDefer ops.toList with
    | true => (match round with
      | none => dferW P ops.toList
      | some _ => fun _ _ => False)
    | false => opsW P self ops ops.toList)
  | true => drawRW P self ops
def seqW (a b : CW) (c : Cfg) (k : KC) : Prop := a c fun e c' => match e with
  | .normal => b c' k
  | e => k e c'
def condW (x : Operand) (a b : CW) (c : Cfg) (k : KC) : Prop :=
  splitF (slotO x) c.tmps fun f => match evF f x with
  | some (.bool q) => iteB q (a ⟨f, c.defers, c.st⟩ k) (b ⟨f, c.defers, c.st⟩ k)
  | _ => False
def blockW (id : Nat) (b : CW) (c : Cfg) (k : KC) : Prop := b c fun e c' => match e with
  | .exit id' => (bif Nat.beq id' id then k .normal c' else k (.exit id') c')
  | e => k e c'
def iterW (body : CW) (n : Nat) : CW :=
  @Nat.rec (fun _ => CW) (fun _ _ => False) (fun _ ih c k => body c fun e c' => match e with
    | .normal => ih c' k
    | e => k e c') n
def rangeW (self : SW) (round : Option Nat) (f : Operand) (ps : Array Tmp) (assign body : Code) (c : Cfg) (k : KC) : Prop :=
  match (match round with
    | none => some ((c.st.new (.dfr false)), c.st.next, [EDef.mark c.st.next])
    | some l0 => match c.st.heap.get l0 with
      | some (.loop r) => some (c.st, r.defers, [])
      | _ => none : Option (St × Nat × List EDef)) with
  | none => False
  | some (s0, d, marks) => forceS s0 fun s1 =>
    match evF c.tmps f with
    | some (.fn g first cap) =>
      guardB (bodyOK P g) (forceS (s1.new (.loop ⟨.ready, none, c.tmps, ps.toList, assign, body, d⟩)) fun s2 => self (.fn g (lapp (lapp first [.yld s1.next]) cap)) s2 fun e s2 => match e with
        | .ret _ => (match s2.heap.get s1.next with
          | some (.loop r) => (match r.state with
            | .busy => False
            | _ => match jumpE r.pending with
              | some e => k e ⟨c.tmps, marks ++ c.defers, s2.upd s1.next (.loop { r with state := .exhausted })⟩
              | none => False)
          | _ => False)
        | .pan v => k (.pan v) ⟨c.tmps, marks ++ c.defers, s2⟩)
    | _ => False
abbrev LpW := Nat → Option CW
def noLpW : LpW := fun _ => none
def loopW (lp : LpW) (b : Code) (f : CW) : CW :=
  match firstR b with
  | some id => (match lp id with
    | some F => F
    | none => f)
  | none => f
def compW (self : SW) (fuel : Nat) (round : Option Nat) (lp : LpW) (x : Code) : CW :=
  @Code.rec (fun _ => CW)
    (fun c k => k .normal c)
    (fun _ ops draw => regionW P self round ops draw)
    (fun _ _ ia ib => seqW ia ib)
    (fun x _ _ ia ib => condW x ia ib)
    (fun id _ ib => blockW id ib)
    (fun b ib => loopW lp b (iterW ib fuel))
    (fun f ps assign body _ _ => rangeW P self round f ps assign body)
    (fun id c k => k (.exit id) c)
    (fun _ ib => ib)
    (fun _ c k => k .normal c)
    (fun _ _ _ => False)
    (fun c k => k .ret c)
    (fun _ _ _ => False) x
def roundW (self : SW) (fuel : Nat) (l : Nat) (args : List V) (s : St) (k : KS) : Prop :=
  match s.heap.get l with
  | some (.loop r) =>
    forceF (setParams r.tmps r.params args) fun f => compW P self fuel (some l) noLpW r.assign ⟨f, [], s⟩ fun e c1 => match e with
    | .normal => (match c1.st.heap.get l with
      | some (.loop r1) => (match r1.state with
        | .ready =>
          forceS (c1.st.upd l (.loop { r1 with state := .busy })) fun s => compW P self fuel (some l) noLpW r.body ⟨c1.tmps, c1.defers, s⟩ fun e c2 => match c2.st.heap.get l with
            | some (.loop r2) => (match e with
              | .normal => forceS (c2.st.upd l (.loop { r2 with state := .ready, pending := none })) (k (.ret (.bool true)))
              | .ret => forceS (c2.st.upd l (.loop { r2 with state := .done, pending := some .ret })) (k (.ret (.bool false)))
              | .exit id => forceS (c2.st.upd l (.loop { r2 with state := .done, pending := some (.exit id) })) (k (.ret (.bool false)))
              | .pan _ => False)
            | _ => False
        | _ => False)
      | _ => False)
    | _ => False
  | _ => False
def resultsW (s : St) (f : Frm) (rs : List ResultVar) : (List V → Prop) → Prop :=
  @List.rec ResultVar (fun _ => (List V → Prop) → Prop) (fun k => k []) (fun x _ ih k => match x with
    | .tmp t => ih fun r => match f.get t with
      | .any => False
      | v => k (v :: r)
    | .cell a t => match qLoad P s t (f.get a) with
      | some (c, v) => needsR c (ih fun r => k (v :: r))
      | none => False) rs
def resultW (s : St) (f : Frm) (rs : List ResultVar) (k : V → Prop) : Prop :=
  resultsW P s f rs fun r => match r with
  | [v] => k v
  | l => k (match l with | [] => .undef | _ => .tup l)

abbrev DW := Cfg → DM → (EExit → Cfg → DM → Prop) → Prop
def withDW (f : CW) (c : Cfg) (m : DM) (k : EExit → Cfg → DM → Prop) : Prop := f c fun e c' => match e with
  | .pan _ => False
  | e => k e c' m
def recW : List Oper → DW
  | [], c, m, k => k .normal c m
  | o :: l, c, m, k => match o.guard with
    | some _ => False
    | none => match isRec o.op with
      | true => (match m with
        | some (v, false) => recW l ⟨putE c.tmps o.dst v, c.defers, c.st⟩ (some (v, true)) k
        | m => recW l ⟨putE c.tmps o.dst .nili, c.defers, c.st⟩ m k)
      | false => match qop P c.st (evF c.tmps) o.op with
        | some (cs, v) => needsR cs (recW l ⟨putE c.tmps o.dst v, c.defers, c.st⟩ m k)
        | none => False
def seqDW (a b : DW) (c : Cfg) (m : DM) (k : EExit → Cfg → DM → Prop) : Prop := a c m fun e c' m' => match e with
  | .normal => b c' m' k
  | e => k e c' m'
def condDW (x : Operand) (a b : DW) (c : Cfg) (m : DM) (k : EExit → Cfg → DM → Prop) : Prop :=
  match evF c.tmps x with
  | some (.bool q) => iteB q (a c m k) (b c m k)
  | _ => False
def compDW (self : SW) (fuel : Nat) (x : Code) : DW :=
  @Code.rec (fun _ => DW)
    (withDW (compW P self fuel none noLpW .skip))
    (fun id ops draw => match draw with
      | false => (match hasRec ops.toList with
        | true => recW P ops.toList
        | false => withDW (compW P self fuel none noLpW (.region id ops false)))
      | true => withDW (compW P self fuel none noLpW (.region id ops true)))
    (fun _ _ ia ib => seqDW ia ib)
    (fun x _ _ ia ib => condDW x ia ib)
    (fun id b _ => withDW (compW P self fuel none noLpW (.block id b)))
    (fun b _ => withDW (compW P self fuel none noLpW (.loop b)))
    (fun f ps assign body _ _ => withDW (compW P self fuel none noLpW (.rangeFunc f ps assign body)))
    (fun id => withDW (compW P self fuel none noLpW (.exit id)))
    (fun b _ => withDW (compW P self fuel none noLpW (.scope b)))
    (fun l => withDW (compW P self fuel none noLpW (.label l)))
    (fun l => withDW (compW P self fuel none noLpW (.goto l)))
    (withDW (compW P self fuel none noLpW .ret))
    (fun why => withDW (compW P self fuel none noLpW (.refuse why))) x
def runDefW (self : SW) (fuel : Nat) (g : FuncId) (args : List V) (m : DM) (s : St) (k : DM → St → Prop) : Prop :=
  match P.funcs[g]? with
  | some fn => (match fn.body with
    | some c => guardB (Nat.ble (llen args) fn.ntmps && Nat.ble fn.ntmps 4096) (frmK fn.ntmps .undef (argsL 0 args) fun f => compDW P self fuel c ⟨f, [], s⟩ m fun e c' m' =>
      (match (match e with
        | .normal => true
        | .ret => true
        | _ => false) with
      | true => (match c'.defers with
        | [] => resultW P c'.st c'.tmps fn.results.toList fun _ => k m' c'.st
        | _ :: _ => False)
      | false => False))
    | none => False)
  | none => False
def leaveW (self : SW) (fuel : Nat) (fn : Func) (tmps : Frm) : DM → List EDef → St → KS → Prop
  | pan, [], s, k => (match pan with
    | some (v, false) => k (.pan v) s
    | some (_, true) => False
    | none => resultW P s tmps fn.results.toList fun v => k (.ret v) s)
  | pan, .mark r :: ds, s, k => (match s.heap.get r with
    | some (.dfr false) => leaveW self fuel fn tmps pan ds (s.upd r (.dfr true)) k
    | _ => False)
  | pan, .call g args cap :: ds, s, k => guardB (bodyOK P g) (runDefW P self fuel g (lapp args cap) pan s fun m s' => leaveW self fuel fn tmps (settleE m) ds s' k)
def fnLW (self : SW) (fuel : Nat) (lp : LpW) (f : FuncId) (args : List V) (s : St) (k : KS) : Prop :=
  match P.funcs[f]? with
  | some fn => (match fn.body with
    | some c => guardB (Nat.ble (llen args) fn.ntmps && Nat.ble fn.ntmps 4096) (frmK fn.ntmps .undef (argsL 0 args) fun f => compW P self fuel none lp c ⟨f, [], s⟩ fun e c' => match e with
      | .normal => leaveW P self fuel fn c'.tmps none c'.defers c'.st k
      | .ret => leaveW P self fuel fn c'.tmps none c'.defers c'.st k
      | .pan v => leaveW P self fuel fn c'.tmps (some (v, false)) c'.defers c'.st k
      | _ => False)
    | none => False)
  | none => False
def fnW (self : SW) (fuel : Nat) (f : FuncId) (args : List V) (s : St) (k : KS) : Prop := fnLW P self fuel noLpW f args s k
def tgtW (self : SW) (fuel : Nat) (t : ETgt) (s : St) (k : KS) : Prop :=
  match t with
  | .fn f args => fnW P self fuel f args s k
  | .round l args => roundW P self fuel l args s k
abbrev KnW := ETgt → St → Option (KS → Prop)
def callW (known : KnW) (fuel : Nat) (d : Nat) : SW :=
  @Nat.rec (fun _ => SW) (fun _ _ _ => False) (fun _ ih t s k => match known t s with
    | some r => r k
    | none => tgtW P ih fuel t s k) d
end
end Go.Sym
end
