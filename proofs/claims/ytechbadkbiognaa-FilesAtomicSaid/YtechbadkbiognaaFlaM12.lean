/-
  Texts of this claim, one behind the other: SymQ SymR SymM. Each says its own conditions.
-/
import Derived.Test.YtechbadkbiognaaFlaM11
import Derived.LoopNIn
import Derived.RangeFuncNested

set_option linter.unusedVariables false
set_option linter.unusedSimpArgs false
set_option linter.unusedSectionVars false
section
namespace Go.Sym
set_option linter.unusedSimpArgs false
set_option linter.unusedVariables false

theorem V.same_eq (v w : V) (h : v.same w = true) : v = w := by simpa [V.same] using h
theorem V.same_self (v : V) : v.same v = true := by simp [V.same]

theorem tbQ_eq (m i : Nat) : tbQ m i = m.testBit i := by
  have e : tbQ m i = Nat.beq (m / 2 ^ i % 2) 1 := rfl
  rw [e, Nat.testBit_eq_decide_div_mod_eq, Bool.eq_iff_iff]
  simp
theorem tbQ_lor (a b i : Nat) : tbQ (Nat.lor a b) i = (tbQ a i || tbQ b i) := by
  simp only [tbQ_eq]
  exact Nat.testBit_or a b i
theorem tbQ_pow (a i : Nat) : tbQ (Nat.pow 2 a) i = decide (a = i) := by
  rw [tbQ_eq]
  exact Nat.testBit_two_pow
theorem tbQ_zero (i : Nat) : tbQ 0 i = false := by rw [tbQ_eq]; simp
theorem bindsQ_eq (e : Edge) : bindsQ e = Region.binds .any e := by
  unfold bindsQ Region.binds
  split <;> rename_i h <;> simp only [h] <;> rfl

inductive Reach (ops : Array Oper) : Nat → Nat → Prop
  | step {i : Nat} {o : Oper} {e : Edge} (ho : ops[i]? = some o) (he : e ∈ o.after) (hb : Region.binds .any e = true) : Reach ops i e.on
  | trans {i j k : Nat} : Reach ops i j → Reach ops j k → Reach ops i k

theorem maskE_spec {ops : Array Oper} {A : List Nat} (hA : ∀ (i m : Nat), A[i]? = some m → ∀ j, tbQ m j = true → Reach ops i j) : ∀ (es : List Edge) (j : Nat), tbQ (maskE A es) j = true →
    ∃ e ∈ es, Region.binds .any e = true ∧ (e.on = j ∨ Reach ops e.on j)
  | [], j, h => by rw [maskE, tbQ_zero] at h; cases h
  | e :: es, j, h => by
    rw [maskE] at h
    cases hb : bindsQ e with
    | false =>
      rw [hb, cond_false] at h
      obtain ⟨e', h1, h2⟩ := maskE_spec hA es j h
      exact ⟨e', List.mem_cons_of_mem _ h1, h2⟩
    | true =>
      rw [hb, cond_true, tbQ_lor, tbQ_lor, tbQ_pow] at h
      rw [bindsQ_eq] at hb
      simp only [Bool.or_eq_true, decide_eq_true_eq] at h
      rcases h with (h | h) | h
      · exact ⟨e, List.mem_cons_self, hb, .inl h⟩
      · rw [lget_eq] at h
        cases hg : A[e.on]? with
        | none => rw [hg, ogetN, tbQ_zero] at h; cases h
        | some m =>
          rw [hg, ogetN] at h
          exact ⟨e, List.mem_cons_self, hb, .inr (hA _ _ hg _ h)⟩
      · obtain ⟨e', h1, h2⟩ := maskE_spec hA es j h
        exact ⟨e', List.mem_cons_of_mem _ h1, h2⟩

theorem ancsE_spec {ops : Array Oper} : ∀ (l : List Oper) (A : List Nat), (∀ (i m : Nat), A[i]? = some m → ∀ j, tbQ m j = true → Reach ops i j) → (∀ (i : Nat) o, l[i]? = some o → ops[A.length + i]? = some o) →
    ∀ (i m : Nat), (ancsE l A)[i]? = some m → ∀ j, tbQ m j = true → Reach ops i j
  | [], A, hA, _ => hA
  | o :: l, A, hA, hl => by
    rw [ancsE, lapp_eq]
    refine ancsE_spec l _ ?_ ?_
    · intro i m hm j hj
      by_cases hi : i < A.length
      · rw [List.getElem?_append_left hi] at hm
        exact hA i m hm j hj
      · have hi' : i = A.length := by
          have := (List.getElem?_eq_some_iff.1 hm).1
          simp at this; omega
        subst hi'
        simp at hm
        subst hm
        have ho := hl 0 o rfl
        rw [Nat.add_zero] at ho
        obtain ⟨e, h1, h2, h3⟩ := maskE_spec hA _ j hj
        have h0 := Reach.step ho (by simpa using h1) h2
        rcases h3 with rfl | h3
        · exact h0
        · exact .trans h0 h3
    · intro i o' ho'
      have := hl (i + 1) o' (by simpa using ho')
      rw [List.length_append, List.length_singleton]
      rw [show A.length + 1 + i = A.length + (i + 1) by omega]
      exact this
theorem reach_of {ops : Array Oper} {i j : Nat} (h : tbQ (ogetN (lget (ancsE ops.toList []) i)) j = true) : Reach ops i j := by
  rw [lget_eq] at h
  cases hg : (ancsE ops.toList [])[i]? with
  | none => rw [hg, ogetN, tbQ_zero] at h; cases h
  | some m =>
    rw [hg, ogetN] at h
    exact ancsE_spec ops.toList [] (fun i m hm => by simp at hm) (fun i o ho => by simpa using ho) i m hg j h

theorem hasN_eq (d : Nat) : ∀ l : List Nat, hasN d l = true ↔ d ∈ l
  | [] => by simp [hasN]
  | x :: l => by
    have := hasN_eq d l
    cases h : Nat.beq x d with
    | true => simp [hasN, h, (Nat.eq_of_beq_eq_true h)]
    | false =>
      have hne : d ≠ x := fun e => by subst e; simp at h
      simp [hasN, h, this, hne]

theorem backE_spec {i : Nat} : ∀ {l : List Edge}, backE i l = true → ∀ e ∈ l, Region.binds .any e = true → e.on < i
  | [], _, e, he, _ => by cases he
  | a :: l, h, e, he, hb => by
    simp only [backE, Bool.and_eq_true] at h
    rcases List.mem_cons.1 he with rfl | he
    · have h1 := h.1
      rw [bindsQ_eq, hb, cond_true] at h1
      exact Nat.le_of_ble_eq_true h1
    · exact backE_spec h.2 e he hb
theorem apartE_spec {ops : Array Oper} {A : List Nat} {i d : Nat} : ∀ {l : List Oper} {j0 : Nat}, apartE ops A i d l j0 = true → ∀ (j : Nat) o, l[j]? = some o → i ≠ j0 + j →
    o.dst ≠ some d ∧ (d ∈ o.looksAt ops → tbQ (ogetN (lget A i)) (j0 + j) = true ∨ tbQ (ogetN (lget A (j0 + j))) i = true)
  | [], _, _, j, o, ho, _ => by simp at ho
  | a :: l, j0, h, j, o, ho, hne => by
    simp only [apartE, Bool.and_eq_true] at h
    cases j with
    | zero =>
      simp at ho; subst ho
      have h1 := h.1
      have hb : Nat.beq i j0 = false := by
        cases e : Nat.beq i j0 with
        | false => rfl
        | true => exact absurd (Nat.eq_of_beq_eq_true e) (by simpa using hne)
      rw [hb, cond_false, Bool.and_eq_true] at h1
      refine ⟨fun e => ?_, fun hd => ?_⟩
      · rw [e] at h1; simp at h1
      · have h2 := h1.2
        rw [(hasN_eq d _).2 hd, cond_true, Bool.or_eq_true] at h2
        simpa using h2
    | succ j =>
      have := apartE_spec h.2 j o (by simpa using ho) (by simp only [Nat.succ_eq_add_one]; omega)
      rw [show Nat.succ j0 + j = j0 + (j + 1) by simp only [Nat.succ_eq_add_one]; omega] at this
      exact this
theorem stE_spec {ops : Array Oper} {A : List Nat} : ∀ {l : List Oper} {i0 : Nat}, stE ops A l i0 = true → ∀ (i : Nat) o, l[i]? = some o →
    backE (i0 + i) o.after.toList = true ∧ ∀ d, o.dst = some d → apartE ops A (i0 + i) d ops.toList 0 = true
  | [], _, _, i, o, ho => by simp at ho
  | a :: l, i0, h, i, o, ho => by
    simp only [stE, Bool.and_eq_true] at h
    cases i with
    | zero =>
      simp at ho; subst ho
      exact ⟨h.1.1, fun d hd => by have := h.1.2; rw [hd] at this; exact this⟩
    | succ i =>
      have := stE_spec h.2 i o (by simpa using ho)
      rw [show Nat.succ i0 + i = i0 + (i + 1) by simp only [Nat.succ_eq_add_one]; omega] at this
      exact this

structure StOK (ops : Array Oper) : Prop where
  back : ∀ (i : Nat) o, ops[i]? = some o → ∀ e ∈ o.after, Region.binds .any e = true → e.on < i
  once : ∀ (i j : Nat) o o' d, ops[i]? = some o → ops[j]? = some o' → o.dst = some d → o'.dst = some d → i = j
  read : ∀ (i j : Nat) o o' d, ops[i]? = some o → ops[j]? = some o' → o.dst = some d → d ∈ o'.looksAt ops → i ≠ j → Reach ops i j ∨ Reach ops j i
theorem stOK_spec {ops : Array Oper} (h : stOK ops = true) : StOK ops where
  back := fun i o ho e he hb => by
    have := (stE_spec h i o (by simpa using ho)).1
    rw [Nat.zero_add] at this
    exact backE_spec this e (by simpa using he) hb
  once := fun i j o o' d ho ho' hd hd' => by
    by_cases hij : i = j
    · exact hij
    · have := (stE_spec h i o (by simpa using ho)).2 d hd
      rw [Nat.zero_add] at this
      exact absurd hd' (apartE_spec this j o' (by simpa using ho') (by omega)).1
  read := fun i j o o' d ho ho' hd hl hne => by
    have := (stE_spec h i o (by simpa using ho)).2 d hd
    rw [Nat.zero_add] at this
    have := (apartE_spec this j o' (by simpa using ho') (by omega)).2 hl
    rw [Nat.zero_add] at this
    exact this.imp reach_of reach_of
theorem StOK.lt {ops : Array Oper} (h : StOK ops) {i j : Nat} (r : Reach ops i j) : j < i := by
  induction r with
  | step ho he hb => exact h.back _ _ ho _ he hb
  | trans _ _ h1 h2 => omega

section
variable {P : Program} {self : ESelf} {ops : Array Oper}
theorem drawStep_fields {M : Option Nat} {i : Nat} {o : Oper} {f : Frm} {s : St} {r : DRec} (hr : drawStep P self ops M i o f s = some r) : r.i = i ∧ r.o = o ∧ r.f = f ∧ r.s = s ∧ wantOK (guardOf ops o) f = true := by
  unfold drawStep at hr
  cases hk : wantOK (guardOf ops o) f with
  | false => rw [hk] at hr; cases hr
  | true =>
  rw [hk, Bool.not_true, cond_false] at hr
  cases hw : wantedE (guardOf ops o) f with
  | false => rw [hw, cond_false] at hr; cases hr; exact ⟨rfl, rfl, rfl, rfl, rfl⟩
  | true =>
    rw [hw, cond_true] at hr
    split at hr
    · cases hr; exact ⟨rfl, rfl, rfl, rfl, rfl⟩
    · split at hr
      · cases hr
      · split at hr
        · cases hr; exact ⟨rfl, rfl, rfl, rfl, rfl⟩
        · cases hr
theorem drawStep_self {self' : ESelf} {M : Option Nat} {i : Nat} {o : Oper} {f : Frm} {s : St} {r : DRec} (hr : drawStep P self ops M i o f s = some r) (he : r.eff = none) : drawStep P self' ops M i o f s = some r := by
  unfold drawStep at hr ⊢
  cases hk : wantOK (guardOf ops o) f with
  | false => rw [hk] at hr; cases hr
  | true =>
  rw [hk, Bool.not_true, cond_false] at hr
  rw [Bool.not_true, cond_false]
  cases hw : wantedE (guardOf ops o) f with
  | false => rw [hw, cond_false] at hr; rw [cond_false]; exact hr
  | true =>
    rw [hw, cond_true] at hr
    rw [cond_true]
    split at hr
    · exact hr
    · split at hr
      · cases hr
      · split at hr
        · cases hr; cases he
        · cases hr
theorem drawRun_spec {M : List (Nat × Nat)} : ∀ {l : List Oper} {i : Nat} {f : Frm} {s : St} {R : List DRec}, drawRun P self ops M l i f s = some R →
    R.length = l.length ∧ ∀ (k : Nat) r, R[k]? = some r → r.i = i + k ∧ l[k]? = some r.o ∧ drawStep P self ops (findM r.i M) r.i r.o r.f r.s = some r ∧ r.f = finF f (R.take k) ∧ r.s = lastS s (effs (R.take k))
  | [], i, f, s, R, h => by
    simp only [drawRun] at h
    cases h
    exact ⟨rfl, fun k r hr => by simp at hr⟩
  | o :: l, i, f, s, R, h => by
    simp only [drawRun] at h
    split at h
    · rename_i r hr
      split at h
      · rename_i R' hR
        cases h
        obtain ⟨h1, h2⟩ := drawRun_spec hR
        obtain ⟨e1, e2, e3, e4, _⟩ := drawStep_fields hr
        refine ⟨by simp [h1], fun k r' hr' => ?_⟩
        cases k with
        | zero =>
          simp at hr'; subst hr'
          refine ⟨e1, by simp [e2], by rw [e1, e2, e3, e4]; exact hr, by simp [finF, e3], by simp [effs, lastS, e4]⟩
        | succ k =>
          obtain ⟨g1, g2, g3, g4, g5⟩ := h2 k r' (by simpa using hr')
          refine ⟨by rw [g1]; simp only [Nat.succ_eq_add_one]; omega, by simpa using g2, g3, ?_, ?_⟩
          · rw [g4, List.take_succ_cons, finF, e2]
          · rw [g5, List.take_succ_cons, effs]
            cases he : r.eff with
            | none => simp [orS, he]
            | some s' => simp [orS, he, lastS]
      · cases h
    · cases h

theorem panTail_spec {M : List (Nat × Nat)} {A : List Nat} {ip : Nat} : ∀ {l : List Oper} {i : Nat} {f : Frm} {s : St} {R : List DRec}, panTail P ops M A ip l i f s = some R →
    R.length = l.length ∧ effs R = [] ∧ ∀ (k : Nat) r, R[k]? = some r → r.i = i + k ∧ l[k]? = some r.o ∧ (tbQ (ogetN (lget A r.i)) ip = true ∧ r.q = false ∨ ∀ sf, drawStep P sf ops (findM r.i M) r.i r.o r.f r.s = some r) ∧ r.f = finF f (R.take k) ∧ r.s = s
  | [], i, f, s, R, h => by
    simp only [panTail] at h
    cases h
    exact ⟨rfl, rfl, fun k r hr => by simp at hr⟩
  | o :: l, i, f, s, R, h => by
    simp only [panTail] at h
    cases hd : tbQ (ogetN (lget A i)) ip with
    | true =>
      rw [hd, cond_true] at h
      split at h
      · rename_i R' hR
        cases h
        obtain ⟨h1, h2, h3⟩ := panTail_spec hR
        refine ⟨by simp [h1], by simpa [effs] using h2, fun k r' hr' => ?_⟩
        cases k with
        | zero =>
          simp at hr'; subst hr'
          exact ⟨rfl, rfl, .inl ⟨hd, rfl⟩, rfl, rfl⟩
        | succ k =>
          obtain ⟨g1, g2, g3, g4, g5⟩ := h3 k r' (by simpa using hr')
          refine ⟨by rw [g1]; simp only [Nat.succ_eq_add_one]; omega, by simpa using g2, g3, ?_, g5⟩
          rw [g4, List.take_succ_cons, finF]
      · cases h
    | false =>
      rw [hd, cond_false] at h
      split at h
      · rename_i r hr
        split at h
        · rename_i he
          split at h
          · rename_i R' hR
            cases h
            obtain ⟨e1, e2, e3, e4, _⟩ := drawStep_fields hr
            obtain ⟨h1, h2, h3⟩ := panTail_spec hR
            refine ⟨by simp [h1], by simp [effs, he, h2], fun k r' hr' => ?_⟩
            cases k with
            | zero =>
              simp at hr'; subst hr'
              refine ⟨e1, by simp [e2], .inr fun sf => by rw [e1, e2, e3, e4]; exact drawStep_self hr he, by simp [finF, e3], e4⟩
            | succ k =>
              obtain ⟨g1, g2, g3, g4, g5⟩ := h3 k r' (by simpa using hr')
              refine ⟨by rw [g1]; simp only [Nat.succ_eq_add_one]; omega, by simpa using g2, g3, ?_, g5⟩
              rw [g4, List.take_succ_cons, finF, e2]
          · cases h
        · cases h
      · cases h
theorem panRun_spec {M : List (Nat × Nat)} {A : List Nat} : ∀ {l : List Oper} {i : Nat} {f : Frm} {s : St} {R : List DRec} {ip : Nat} {v : V} {s' : St}, panRun P self ops M A l i f s = some (R, ip, v, s') →
    R.length = l.length ∧ i ≤ ip ∧ (∃ rp, R[ip - i]? = some rp ∧ rp.q = false ∧ rp.s = lastS s (effs R) ∧ (wantOK (guardOf ops rp.o) rp.f = true ∧ wantedE (guardOf ops rp.o) rp.f = true) ∧ opPan self (eop P rp.s (evL (rp.o.looksAt ops) rp.f) rp.o.op) = some (v, s')) ∧
    ∀ (k : Nat) r, R[k]? = some r → r.i = i + k ∧ l[k]? = some r.o ∧ (r.i = ip ∧ r.q = false ∨ tbQ (ogetN (lget A r.i)) ip = true ∧ r.q = false ∨ drawStep P self ops (findM r.i M) r.i r.o r.f r.s = some r) ∧ r.f = finF f (R.take k) ∧ r.s = lastS s (effs (R.take k))
  | [], i, f, s, R, ip, v, s', h => by simp only [panRun] at h; cases h
  | o :: l, i, f, s, R, ip, v, s', h => by
    simp only [panRun] at h
    split at h
    · rename_i r hr
      split at h
      · rename_i R' x hR
        cases h
        obtain ⟨e1, e2, e3, e4, _⟩ := drawStep_fields hr
        obtain ⟨h1, h2, ⟨rp, a1, a2, a3, a4, a5⟩, h3⟩ := panRun_spec hR
        simp only [Nat.succ_eq_add_one] at h2 a1
        have hl : ∀ E : List (Nat × St), lastS s (match r.eff with | some s1 => (r.i, s1) :: E | none => E) = lastS (orS s r.eff) E := fun E => by cases r.eff <;> rfl
        refine ⟨by simp [h1], by omega, ⟨rp, ?_, a2, ?_, a4, a5⟩, fun k r' hr' => ?_⟩
        · rw [show ip - i = (ip - (i + 1)) + 1 by omega]; simpa using a1
        · rw [a3, effs]; cases he : r.eff <;> simp [orS, lastS]
        · cases k with
          | zero =>
            simp at hr'; subst hr'
            refine ⟨e1, by simp [e2], .inr (.inr (by rw [e1, e2, e3, e4]; exact hr)), by simp [finF, e3], by simp [effs, lastS, e4]⟩
          | succ k =>
            obtain ⟨g1, g2, g3, g4, g5⟩ := h3 k r' (by simpa using hr')
            refine ⟨by rw [g1]; simp only [Nat.succ_eq_add_one]; omega, by simpa using g2, g3, ?_, ?_⟩
            · rw [g4, List.take_succ_cons, finF, e2]
            · rw [g5, List.take_succ_cons, effs]
              cases he : r.eff with
              | none => simp [orS, he]
              | some s1 => simp [orS, he, lastS]
      · cases h
    · cases hw : (wantOK (guardOf ops o) f && wantedE (guardOf ops o) f) with
      | false => rw [hw, cond_false] at h; cases h
      | true =>
        rw [hw, cond_true] at h
        rw [Bool.and_eq_true] at hw
        split at h
        · cases h
        · split at h
          · rename_i v1 s1 hp
            split at h
            · rename_i R' hR
              cases h
              obtain ⟨h1, h2, h3⟩ := panTail_spec hR
              refine ⟨by simp [h1], Nat.le_refl _, ⟨_, by rw [Nat.sub_self]; rfl, rfl, by simp [effs, h2, lastS], hw, hp⟩, fun k r' hr' => ?_⟩
              cases k with
              | zero =>
                simp at hr'; subst hr'
                exact ⟨rfl, rfl, .inl ⟨rfl, rfl⟩, rfl, rfl⟩
              | succ k =>
                obtain ⟨g1, g2, g3, g4, g5⟩ := h3 k r' (by simpa using hr')
                refine ⟨by rw [g1]; simp only [Nat.succ_eq_add_one]; omega, by simpa using g2, .inr (g3.imp id fun g => g self), ?_, ?_⟩
                · rw [g4, List.take_succ_cons, finF]
                · have : effs (R'.take k) = [] := by
                    have : ∀ (R : List DRec) k, effs R = [] → effs (R.take k) = [] := by
                      intro R
                      induction R with
                      | nil => intro k _; simp [effs]
                      | cons a R ih =>
                        intro k hh
                        cases k with
                        | zero => rfl
                        | succ k =>
                          simp only [effs] at hh
                          cases he : a.eff with
                          | none => rw [he] at hh; simp only [List.take_succ_cons, effs, he]; exact ih k hh
                          | some s2 => rw [he] at hh; cases hh
                    exact this R' k h2
                  simp [List.take_succ_cons, effs, this, lastS, g5]
            · cases h
          · cases h
theorem allAfter_spec {m : Nat} : ∀ {l : List (Nat × St)}, allAfter m l = true → ∀ (q : Nat) e, l[q]? = some e → tbQ m e.1 = true
  | [], _, q, e, h => by simp at h
  | a :: l, h, q, e, he => by
    simp only [allAfter, Bool.and_eq_true] at h
    cases q with
    | zero => simp at he; subst he; exact h.1
    | succ q => exact allAfter_spec h.2 q e (by simpa using he)

theorem effs_get : ∀ {R : List DRec} {q : Nat} {e : Nat × St}, (effs R)[q]? = some e → ∃ (k : Nat) (r : DRec), R[k]? = some r ∧ r.eff = some e.2 ∧ r.i = e.1 ∧ effs (R.take k) = (effs R).take q
  | [], q, e, h => by simp [effs] at h
  | r :: R, q, e, h => by
    cases he : r.eff with
    | none =>
      simp only [effs, he] at h ⊢
      obtain ⟨k, r', h1, h2, h3, h4⟩ := effs_get h
      exact ⟨k + 1, r', by simpa using h1, h2, h3, by simp only [List.take_succ_cons, effs, he, h4]⟩
    | some s =>
      simp only [effs, he] at h ⊢
      cases q with
      | zero =>
        simp at h
        exact ⟨0, r, rfl, by rw [← h]; exact he, by rw [← h], by simp [effs]⟩
      | succ q =>
        obtain ⟨k, r', h1, h2, h3, h4⟩ := effs_get (R := R) (by simpa using h)
        exact ⟨k + 1, r', by simpa using h1, h2, h3, by simp only [List.take_succ_cons, effs, he, h4]⟩
theorem effs_of : ∀ {R : List DRec} {k : Nat} {r : DRec} {s : St}, R[k]? = some r → r.eff = some s → ∃ q, (effs R)[q]? = some (r.i, s) ∧ effs (R.take k) = (effs R).take q
  | [], k, r, s, h, _ => by simp at h
  | a :: R, k, r, s, h, hs => by
    cases k with
    | zero =>
      simp at h; subst h
      exact ⟨0, by simp [effs, hs], by simp [effs]⟩
    | succ k =>
      obtain ⟨q, h1, h2⟩ := effs_of (R := R) (by simpa using h) hs
      cases he : a.eff with
      | none => exact ⟨q, by simpa [effs, he] using h1, by simp only [List.take_succ_cons, effs, he, h2]⟩
      | some s' => exact ⟨q + 1, by simpa [effs, he] using h1, by simp only [List.take_succ_cons, effs, he, h2]⟩

theorem beforeE_spec {A : List Nat} {i : Nat} : ∀ {l : List (Nat × St)}, chainE.beforeE A i l = true → ∀ (q : Nat) e, l[q]? = some e → tbQ (ogetN (lget A e.1)) i = true
  | [], _, q, e, h => by simp at h
  | a :: l, h, q, e, he => by
    simp only [chainE.beforeE, Bool.and_eq_true] at h
    cases q with
    | zero => simp at he; subst he; exact h.1
    | succ q => exact beforeE_spec h.2 q e (by simpa using he)
theorem chainE_spec {A : List Nat} : ∀ {l : List (Nat × St)}, chainE A l = true → ∀ (q q' : Nat) e e', q < q' → l[q]? = some e → l[q']? = some e' → tbQ (ogetN (lget A e'.1)) e.1 = true
  | [], _, q, q', e, e', _, h, _ => by simp at h
  | a :: l, h, q, q', e, e', hq, he, he' => by
    simp only [chainE, Bool.and_eq_true] at h
    cases q' with
    | zero => omega
    | succ q' =>
      cases q with
      | zero => simp at he; subst he; exact beforeE_spec h.1 q' e' (by simpa using he')
      | succ q => exact chainE_spec h.2 q q' e e' (by omega) (by simpa using he) (by simpa using he')

theorem anyB_false {m : Nat} : ∀ {l : List (Nat × St)}, (∀ e ∈ l, tbQ m e.1 = false) → anyB m l = false
  | [], _ => rfl
  | e :: l, h => by rw [anyB, h e List.mem_cons_self, cond_false]; exact anyB_false fun e he => h e (List.mem_cons_of_mem _ he)

theorem chkE_spec {A : List Nat} {r : DRec} : ∀ {E : List (Nat × St)} {s : St}, chkE P ops A r s E = true → ∀ p, p ≤ E.length →
    (∀ q e, q < p → E[q]? = some e → tbQ (ogetN (lget A e.1)) r.i = false) → (∀ q e, p ≤ q → E[q]? = some e → tbQ (ogetN (lget A r.i)) e.1 = false) →
    qopM P r.mb (lastS s (E.take p)) (evL (r.o.looksAt ops) r.f) r.o.op = some r.v
  | [], s, h, p, hp, _, _ => by
    have hp : p = 0 := by simpa using hp
    subst hp
    simp only [chkE] at h
    split at h
    · rename_i v hv
      rw [← V.same_eq _ _ h]
      exact hv
    · cases h
  | e :: l, s, h, p, hp, h1, h2 => by
    simp only [chkE, Bool.and_eq_true] at h
    cases p with
    | zero =>
      have h3 := h.1
      rw [anyB_false (fun e' he' => by
        obtain ⟨q, hq⟩ := List.getElem?_of_mem he'
        exact h2 q e' (Nat.zero_le _) hq), cond_false] at h3
      split at h3
      · rename_i v hv
        rw [← V.same_eq _ _ h3]
        exact hv
      · cases h3
    | succ p =>
      have h4 := h.2
      rw [h1 0 e (by omega) rfl, cond_false] at h4
      exact chkE_spec h4 p (by simpa using hp) (fun q e' hq he' => h1 (q + 1) e' (by omega) (by simpa using he')) (fun q e' hq he' => h2 (q + 1) e' (by omega) (by simpa using he'))
theorem chkAll_spec {A : List Nat} {s : St} {E : List (Nat × St)} : ∀ {R : List DRec}, chkAll P ops A s E R = true → ∀ r ∈ R, r.q = true → chkE P ops A r s E = true
  | [], _, r, hr, _ => by cases hr
  | a :: l, h, r, hr, hq => by
    simp only [chkAll, Bool.and_eq_true] at h
    rcases List.mem_cons.1 hr with rfl | hr
    · have := h.1; rw [hq, cond_true] at this; exact this
    · exact chkAll_spec h.2 r hr hq
end

structure PreOK (s s1 : St) (M : List (Nat × Nat)) : Prop where
  old : ∀ b, b < s.next → s1.heap.get b = s.heap.get b
  le : s.next ≤ s1.next
  new : ∀ i b, findM i M = some b → s.next ≤ b ∧ b < s1.next
  one : ∀ i j b, findM i M = some b → findM j M = some b → i = j
theorem preRun_ok {P : Program} {ops : Array Oper} {s0 : St} : ∀ (l : List Oper) (i : Nat) (f : Frm) (s : St) (D : Nat) (M : List (Nat × Nat)), PreOK s0 s M → PreOK s0 (preRun P ops l i f s D M).1 (preRun P ops l i f s D M).2
  | [], _, _, _, _, _, h => h
  | o :: l, i, f, s, D, M, h => by
    unfold preRun
    cases (doneAll D o.after.toList && o.guard.isNone) with
    | false => exact preRun_ok l _ _ _ _ _ h
    | true =>
        rw [cond_true]
        split
        · exact preRun_ok l _ _ _ _ _ h
        · split
          · rename_i m _
            rw [strictN_eq]
            refine preRun_ok l _ _ _ _ _ ⟨fun b hb => ?_, Nat.le_trans h.le (Nat.le_succ _), fun k b hk => ?_, fun k k' b hk hk' => ?_⟩
            · have := h.le
              simp only [T.get_set]
              rw [if_neg (by omega)]
              exact h.old b hb
            · show s0.next ≤ b ∧ b < s.next + 1
              simp only [findM] at hk
              cases hb : Nat.beq i k with
              | true => rw [hb, cond_true] at hk; cases hk; exact ⟨h.le, Nat.lt_succ_self _⟩
              | false =>
                rw [hb, cond_false] at hk
                have := h.new k b hk
                exact ⟨this.1, by omega⟩
            · simp only [findM] at hk hk'
              cases hb : Nat.beq i k with
              | true =>
                rw [hb, cond_true] at hk; cases hk
                cases hb' : Nat.beq i k' with
                | true => rw [← Nat.eq_of_beq_eq_true hb, ← Nat.eq_of_beq_eq_true hb']
                | false =>
                  rw [hb', cond_false] at hk'
                  exact absurd (h.new k' _ hk').2 (Nat.lt_irrefl _)
              | false =>
                rw [hb, cond_false] at hk
                cases hb' : Nat.beq i k' with
                | true =>
                  rw [hb', cond_true] at hk'; cases hk'
                  exact absurd (h.new k _ hk).2 (Nat.lt_irrefl _)
                | false =>
                  rw [hb', cond_false] at hk'
                  exact h.one k k' b hk hk'
          · exact preRun_ok l _ _ _ _ _ h
theorem preM_ok {P : Program} {ops : Array Oper} {f : Frm} {s s1 : St} {M : List (Nat × Nat)} (h : preM P ops f s = (s1, M)) : PreOK s s1 M := by
  unfold preM at h
  have own : PreOK s s [] := ⟨fun _ _ => rfl, Nat.le_refl _, fun i b h => (by cases h), fun i j b h => (by cases h)⟩
  cases hc : chainE (ancsE ops.toList []) (effIdx ops.toList 0) with
  | true => rw [hc, cond_true] at h; cases h; exact own
  | false =>
    rw [hc, cond_false] at h
    have := preRun_ok (P := P) (ops := ops) ops.toList 0 f s 0 [] own
    rw [h] at this
    exact this

def Frm.ok (f : Frm) : Prop := ∃ d, f.t.full d ∧ f.n ≤ 2 ^ d
theorem FRel.ok {ρ : Env} {f : Frm} {A : Array Value} (h : FRel ρ f A) : f.ok := by obtain ⟨_, d, h2, h3, _⟩ := h; exact ⟨d, h2, h3⟩
theorem putE_n (f : Frm) (d : Option Tmp) (v : V) : (putE f d v).n = f.n := by
  cases d with
  | none => rfl
  | some k => rw [putE_some]; cases Nat.blt k f.n <;> rfl
theorem putE_ok {f : Frm} (h : f.ok) (d : Option Tmp) (v : V) : (putE f d v).ok := by
  cases d with
  | none => exact h
  | some k =>
    obtain ⟨d, h2, h3⟩ := h
    rw [putE_some]
    cases Nat.blt k f.n with
    | false => exact ⟨d, h2, h3⟩
    | true => exact ⟨d, B.set_full _ _ _ _ h2, h3⟩
def gv (n t : Nat) (v : V) : V := if t < n then v else .undef
theorem get_putE {f : Frm} (h : f.ok) (k : Nat) (v : V) (t : Nat) : (putE f (some k) v).get t = if t = k then gv f.n t v else f.get t := by
  obtain ⟨d, h2, h3⟩ := h
  rw [putE_some, blt_iff]
  by_cases hk : k < f.n
  · rw [decide_eq_true hk, cond_true, Frm.get_eq, Frm.get_eq, blt_iff]
    show (bif decide (t < f.n) then (B.set v f.t k).get t else .undef) = _
    by_cases ht : t < f.n
    · rw [decide_eq_true ht, cond_true, cond_true, B.get_set v f.t d k t h2 (by omega) (by omega)]
      by_cases e : t = k
      · subst e; simp [gv, hk]
      · simp [e]
    · rw [decide_eq_false ht, cond_false, cond_false]
      by_cases e : t = k
      · subst e; exact absurd hk ht
      · simp [e]
  · rw [decide_eq_false hk, cond_false]
    by_cases e : t = k
    · subst e; rw [if_pos rfl, gv, if_neg hk, Frm.get_eq, blt_iff, decide_eq_false hk]; rfl
    · simp [e]
theorem get_putE_ne {f : Frm} (h : f.ok) {d : Option Tmp} (v : V) {t : Nat} (hd : d ≠ some t) : (putE f d v).get t = f.get t := by
  cases d with
  | none => rfl
  | some k => rw [get_putE h, if_neg (fun e => hd (by rw [e]))]

theorem finF_n : ∀ (R : List DRec) (f : Frm), (finF f R).n = f.n
  | [], _ => rfl
  | r :: R, f => by rw [finF, finF_n, putE_n]
theorem finF_ok : ∀ (R : List DRec) {f : Frm}, f.ok → (finF f R).ok
  | [], _, h => h
  | r :: R, f, h => by rw [finF]; exact finF_ok R (putE_ok h _ _)
theorem finF_none {t : Nat} : ∀ {R : List DRec} {f : Frm}, f.ok → (∀ r ∈ R, r.o.dst ≠ some t) → (finF f R).get t = f.get t
  | [], _, _, _ => rfl
  | r :: R, f, h, hr => by
    rw [finF, finF_none (putE_ok h _ _) fun r hr' => hr r (List.mem_cons_of_mem _ hr'), get_putE_ne h _ (hr r List.mem_cons_self)]
theorem finF_some {t : Nat} : ∀ {R : List DRec} {f : Frm} {k : Nat} {r : DRec}, f.ok → R[k]? = some r → r.o.dst = some t → (∀ (k' : Nat) r', R[k']? = some r' → r'.o.dst = some t → k' = k) → (finF f R).get t = gv f.n t r.v
  | [], _, _, _, _, h, _, _ => by simp at h
  | a :: R, f, k, r, h, hr, hd, hu => by
    cases k with
    | zero =>
      simp at hr; subst hr
      rw [finF, finF_none (putE_ok h _ _), hd, get_putE h, if_pos rfl]
      intro r' hr' e
      obtain ⟨q, hq⟩ := List.getElem?_of_mem hr'
      have := hu (q + 1) r' (by simpa using hq) e
      omega
    | succ k =>
      rw [finF, finF_some (putE_ok h _ _) (by simpa using hr) hd fun k' r' h1 h2 => by have := hu (k' + 1) r' (by simpa using h1) h2; omega, putE_n]
theorem anyF_n : ∀ (l : List Oper) (f : Frm), (anyF f l).n = f.n
  | [], _ => rfl
  | o :: l, f => by rw [anyF, anyF_n, putE_n]
theorem anyF_ok : ∀ (l : List Oper) {f : Frm}, f.ok → (anyF f l).ok
  | [], _, h => h
  | o :: l, f, h => by rw [anyF]; exact anyF_ok l (putE_ok h _ _)
theorem anyF_get {t : Nat} : ∀ (l : List Oper) {f : Frm}, f.ok → t < f.n → ((∃ o ∈ l, o.dst = some t) → (anyF f l).get t = .any) ∧ (f.get t = .any → (anyF f l).get t = .any) ∧ ((∀ o ∈ l, o.dst ≠ some t) → (anyF f l).get t = f.get t)
  | [], f, h, ht => ⟨fun ⟨_, h, _⟩ => (by cases h), fun h => h, fun _ => rfl⟩
  | o :: l, f, h, ht => by
    obtain ⟨i1, i2, i3⟩ := anyF_get (t := t) l (putE_ok h o.dst .any) (by rw [putE_n]; exact ht)
    have hput : o.dst = some t → (putE f o.dst .any).get t = .any := fun e => by rw [e, get_putE h, if_pos rfl, gv, if_pos ht]
    refine ⟨fun ⟨o', ho', he⟩ => ?_, fun hf => ?_, fun hn => ?_⟩
    · rw [anyF]
      rcases List.mem_cons.1 ho' with rfl | ho'
      · exact i2 (hput he)
      · exact i1 ⟨o', ho', he⟩
    · rw [anyF]
      by_cases e : o.dst = some t
      · exact i2 (hput e)
      · exact i2 (by rw [get_putE_ne h _ e]; exact hf)
    · rw [anyF, i3 fun o' ho' => hn o' (List.mem_cons_of_mem _ ho'), get_putE_ne h _ (hn o List.mem_cons_self)]
end Go.Sym
end

section
namespace Go.Sym
set_option linter.unusedSimpArgs false
set_option linter.unusedVariables false

section
variable {P : Program} {self : ESelf} {n : Nat} {r : Option Nat} {M : List (Nat × Nat)} {dead : Nat → Prop}

theorem opOut_sound (hs : SelfOK P self) {own : Own} {ρ : Env} {s s' : St} {w : World} (h : SRel own ρ s w) {ev : Operand → Option V} {A : Act} (hA : EvRel ρ ev A) {o : Oper} {v : V}
    (hq : opOut self (eop P s ev o.op) = some (v, s')) {Q : Exit → Act → World → Prop} {K : Act → World → Prop}
    (hK : ∀ ρ' X w', ρ.le ρ' → VRel ρ' v X → SRel own ρ' s' w' → Fr own w w' → K (A.put o.dst X) w') : o.wpIn (RF r) n P A w K Q := by
  have hru := fun ρ : Env => (VRel.eq_1 ρ (.tuple #[])).mpr rfl
  cases ho : eop P s ev o.op with
  | none => rw [ho] at hq; cases hq
  | some x =>
    obtain ⟨out, s1⟩ := x
    rw [ho] at hq
    have hrel := eop_rel h hA ho
    have hnd : ∀ cc, o.op ≠ .defer cc := fun cc ec => by rw [ec] at ho; cases ho
    refine ⟨fun f' _ => RF_fn _ _, ?_⟩
    rw [Oper.semAt_eq _ _ _ hnd]
    cases out with
    | val v1 =>
      cases hq
      obtain ⟨ρ', X, w', g1, g2, g3, g4, g5⟩ := hrel
      rw [g2, Oper.uponIn_value]
      exact hK ρ' X w' g1 g3 g4 g5
    | skip =>
      cases hq
      obtain ⟨w', g2, g4, g5⟩ := hrel
      rw [g2, Oper.uponIn_skip]
      exact hK ρ _ w' ρ.le_refl (hru ρ) g4 g5
    | pan v1 => cases hq
    | enter t =>
      have hs1 : s1 = s := by
        cases t with
        | fn f' a' => exact hrel.1
        | round l' a' => exact hrel.1
      subst hs1
      simp only [opOut] at hq
      cases hself : self t s1 with
      | none => rw [hself] at hq; cases hq
      | some p =>
        obtain ⟨ee, s2⟩ := p
        rw [hself] at hq
        cases ee with
        | pan v1 => cases hq
        | ret v1 =>
          cases hq
          have hcon := hs t s1 _ _ hself own ρ w h (n - 1)
          have tail : ∀ (E : Ending) (w' : World), Post own ρ w (.ret v) s' E w' →
              (match E, w' with
                | .returned v, w'' => K (A.put o.dst v) w''
                | .panicked chain, w'' => Q (.panic chain) A w''
                | .outgrown, _ => LetsOut Q) := by
            rintro E w' ⟨ρ', g1, ⟨X, rfl, g6⟩, g4, g5⟩
            exact hK ρ' X w' g1 g6 g4 g5
          cases t with
          | fn f' a' =>
            obtain ⟨_, A', g2, g3⟩ := hrel
            rw [g2, Oper.uponIn_enter]
            refine ⟨fun hh => by simp [RF_depth] at hh, (show CallsIn (RF r) _ P _ _ _ _ from (hcon A' g3).mono fun E w' hp => ?_)⟩
            have := tail E w' hp
            cases E <;> exact this
          | round l' a' =>
            obtain ⟨_, x, L, A', g1, g2, g3, g4, g5⟩ := hrel
            rw [g5, Oper.uponIn_round]
            refine ⟨fun hh => by simp [RF_depth] at hh, (show RoundIn (RF r) _ P _ _ _ _ _ _ _ from (hcon x L A' g1 g2 g3 g4).mono fun E w' hp => ?_)⟩
            have := tail E w' hp
            cases E <;> exact this

theorem qop_sound {own : Own} {ρ : Env} {s : St} {w : World} (h : SRel own ρ s w) {ev : Operand → Option V} {A : Act} (hA : EvRel ρ ev A) {o : Oper} {v : V}
    (hq : qopO P s ev o.op = some v) {Q : Exit → Act → World → Prop} {K : Act → World → Prop} (hK : ∀ X, VRel ρ v X → K (A.put o.dst X) w) : o.wpIn (RF r) n P A w K Q := by
  obtain ⟨c, hq, hc⟩ := chkQ_some hq
  have hnd : ∀ cc, o.op ≠ .defer cc := fun cc ec => by rw [ec] at hq; cases hq
  refine ⟨fun f' _ => RF_fn _ _, ?_⟩
  rw [Oper.semAt_eq _ _ _ hnd]
  obtain ⟨X, h1, h2⟩ := qop_rel h hA hq hc
  rw [h1, Oper.uponIn_value]
  exact hK X h2

theorem mk_sound {own : Own} {ρ : Env} {s : St} {w : World} (h : SRel own ρ s w) {ev : Operand → Option V} {A : Act} (hA : EvRel ρ ev A) {o : Oper} {b : Nat} {v : V} (hq : qopM P (some b) s ev o.op = some v)
    (hn : ρ b = none) (hlt : b < s.next) {Q : Exit → Act → World → Prop} {K : Act → World → Prop}
    (hK : ∀ x X w', VRel (ρ.put b x) v X → SRel own (ρ.put b x) s w' → Fr own w w' → K (A.put o.dst X) w') : o.wpIn (RF r) n P A w K Q := by
  simp only [qopM] at hq
  split at hq
  · rename_i m hm
    cases hat : m.isAt (s.heap.get b) with
    | false => rw [hat] at hq; cases hq
    | true =>
      rw [hat, cond_true] at hq
      cases hq
      have hnd : ∀ cc, o.op ≠ .defer cc := fun cc ec => by rw [ec] at hm; cases hm
      refine ⟨fun f' _ => RF_fn _ _, ?_⟩
      rw [Oper.semAt_eq _ _ _ hnd]
      have hob : s.heap.get b = some m.obj := by simpa [Mk.isAt] using hat
      have hsub := fun S => Env.sub_put (⟨w.heap.size, 0, S⟩ : Blk) hn
      cases m with
      | cells cs t sl =>
        obtain ⟨x, h1, X, C, t', h2, h3, h4⟩ := mkQ_rel (w := w) hA hm
        rw [h1 X _ h2, Oper.uponIn_value]
        refine hK ⟨w.heap.size, 0, C.size⟩ X _ (h4 _ _ Env.put_same) (h.fill hob hn hlt (.cells C t') C.size rfl ⟨C, t', (0, 0), rfl, rfl, ?_, ?_, by simp, fun _ => rfl⟩) (fr_new h.le rfl)
        · have := h3.length; simp at this; omega
        · intro i v hi
          obtain ⟨Y, e1, e2⟩ := h3.get hi
          exact ⟨Y, by simpa using e1, VRel.up (hsub _) _ _ e2⟩
      | rows e L t sl =>
        obtain ⟨x, h1, X, C, t', h2, h5, h3, h4⟩ := mkQ_rel (w := w) hA hm
        rw [h1 X _ h2, Oper.uponIn_value]
        refine hK ⟨w.heap.size, 0, C.size⟩ X _ (h4 _ _ Env.put_same) (h.fill hob hn hlt (.cells C t') C.size rfl ⟨C, t', (0, 0), rfl, rfl, ?_, ?_, by simp, fun _ => rfl⟩) (fr_new h.le rfl)
        · omega
        · show RowsAt ρ.φ e L (fun k => C[0 + k]?)
          simpa using h3
  · cases hq

structure DInv (ops : Array Oper) (R : List DRec) (F0 : Frm) (listed : Array Bool) (f : Frm) (p : Nat) : Prop where
  size : listed.size = ops.size
  down : ∀ (i : Nat) o, ops[i]? = some o → listed.getD i false = true → ∀ e ∈ o.after, Region.binds .any e = true → listed.getD e.on false = true
  ok : f.ok
  n : f.n = F0.n
  did : ∀ (k : Nat) rk t, R[k]? = some rk → rk.o.dst = some t → listed.getD k false = true → f.get t = gv F0.n t rk.v
  not : ∀ t, (∀ (k : Nat) rk, R[k]? = some rk → rk.o.dst = some t → listed.getD k false = false) → f.get t = F0.get t
  le : p ≤ (effs R).length
  ph : ∀ (q : Nat) e, (effs R)[q]? = some e → (listed.getD e.1 false = true ↔ q < p)

structure DRun (P : Program) (sf : ESelf) (ops : Array Oper) (M : List (Nat × Nat)) (dead : Nat → Prop) (F0 : Frm) (s0 : St) (R : List DRec) : Prop where
  st : StOK ops
  len : R.length = ops.size
  row : ∀ (k : Nat) rk, R[k]? = some rk → rk.i = k ∧ ops[k]? = some rk.o ∧ (dead k ∨ drawStep P sf ops (findM k M) k rk.o rk.f rk.s = some rk) ∧ rk.f = finF F0 (R.take k) ∧ rk.s = lastS s0 (effs (R.take k))
  chain : ∀ (q q' : Nat) e e', q < q' → (effs R)[q]? = some e → (effs R)[q']? = some e' → Reach ops e'.1 e.1
  quiet : ∀ (k : Nat) rk, R[k]? = some rk → rk.q = true → ∀ p, p ≤ (effs R).length → (∀ q e, q < p → (effs R)[q]? = some e → ¬ Reach ops e.1 k) → (∀ q e, p ≤ q → (effs R)[q]? = some e → ¬ Reach ops k e.1) →
    qopM P rk.mb (lastS s0 ((effs R).take p)) (evL (rk.o.looksAt ops) rk.f) rk.o.op = some rk.v
  ok : F0.ok

theorem DInv.reach {ops : Array Oper} {R : List DRec} {F0 f : Frm} {listed : Array Bool} {p : Nat} (h : DInv ops R F0 listed f p) {i j : Nat} (hr : Reach ops i j) : listed.getD i false = true → listed.getD j false = true := by
  induction hr with
  | step ho he hb => exact fun hi => h.down _ _ ho hi _ he hb
  | trans _ _ h1 h2 => exact fun hi => h2 (h1 hi)
theorem DInv.reach_ready {ops : Array Oper} {R : List DRec} {F0 f : Frm} {listed : Array Bool} {p : Nat} (h : DInv ops R F0 listed f p) {i j : Nat} (hr : Reach ops i j) :
    (∀ o, ops[i]? = some o → ∀ e ∈ o.after, Region.binds .any e = true → listed.getD e.on false = true) → listed.getD j false = true := by
  induction hr with
  | step ho he hb => exact fun hi => hi _ ho _ he hb
  | trans h1 h2 ih1 ih2 => exact fun hi => h.reach h2 (ih1 hi)

theorem DInv.looks {ops : Array Oper} {R : List DRec} {F0 f : Frm} {s0 : St} {listed : Array Bool} {p : Nat} (h : DInv ops R F0 listed f p) (D : DRun P self ops M dead F0 s0 R) {i : Nat} {ri : DRec}
    (hi : R[i]? = some ri) (hun : listed.getD i false = false) (hrd : ∀ o, ops[i]? = some o → ∀ e ∈ o.after, Region.binds .any e = true → listed.getD e.on false = true) {t : Tmp} (ht : t ∈ ri.o.looksAt ops) :
    f.get t = ri.f.get t := by
  obtain ⟨_, ho, _, hf, _⟩ := D.row i ri hi
  rw [hf]
  have uniq : ∀ (k k' : Nat) rk rk', R[k]? = some rk → R[k']? = some rk' → rk.o.dst = some t → rk'.o.dst = some t → k' = k := fun k k' rk rk' a b c d =>
    D.st.once _ _ _ _ t (D.row k' rk' b).2.1 (D.row k rk a).2.1 d c
  by_cases hw : ∃ (k : Nat) (rk : DRec), R[k]? = some rk ∧ rk.o.dst = some t
  · obtain ⟨k, rk, hk, hd⟩ := hw
    have hF0 : ∀ {m : Nat}, m ≤ k → (finF F0 (R.take m)).get t = F0.get t := fun {m} hm => finF_none D.ok fun r' hr' e' => by
      obtain ⟨q, hq⟩ := List.getElem?_of_mem hr'
      rw [List.getElem?_take] at hq
      split at hq
      · have := uniq k q rk r' hk hq hd e'
        omega
      · cases hq
    have hfF0 : listed.getD k false = false → f.get t = F0.get t := fun hl => h.not t fun k' rk' hk' hd' => by rw [uniq k k' rk rk' hk hk' hd hd']; exact hl
    by_cases hki : k = i
    · subst hki
      rw [hfF0 hun, hF0 (Nat.le_refl _)]
    · rcases D.st.read k i _ _ t (D.row k rk hk).2.1 ho hd ht hki with hr | hr
      · have hlt := D.st.lt hr
        rw [hF0 (by omega), hfF0]
        cases hl : listed.getD k false with
        | false => rfl
        | true => rw [h.reach hr hl] at hun; cases hun
      · have hlt := D.st.lt hr
        have hl := h.reach_ready hr hrd
        rw [h.did k rk t hk hd hl]
        rw [finF_some D.ok (k := k) (r := rk) (by rw [List.getElem?_take, if_pos hlt]; exact hk) hd fun k' r' h1 h2 => ?_]
        rw [List.getElem?_take] at h1
        split at h1
        · exact uniq k k' rk r' hk h1 hd h2
        · cases h1
  · rw [h.not t fun k rk hk hd => absurd ⟨k, rk, hk, hd⟩ hw]
    rw [finF_none D.ok fun r' hr' e' => by
      obtain ⟨q, hq⟩ := List.getElem?_of_mem (List.mem_of_mem_take hr')
      exact hw ⟨q, r', hq, e'⟩]

theorem getD_set_self {listed : Array Bool} {i : Nat} (d : Bool) (h : i < listed.size) : (listed.setIfInBounds i true).getD i d = true := by
  simp [h]
theorem getD_any {listed : Array Bool} {i : Nat} (h : i < listed.size) (d d' : Bool) : listed.getD i d = listed.getD i d' := by
  simp [h]

theorem DInv.step {ops : Array Oper} {R : List DRec} {F0 f : Frm} {s0 : St} {listed : Array Bool} {p : Nat} (h : DInv ops R F0 listed f p) (D : DRun P self ops M dead F0 s0 R) {i : Nat} {ri : DRec}
    (hi : R[i]? = some ri) (hun : listed.getD i false = false) (hrd : ∀ o, ops[i]? = some o → ∀ e ∈ o.after, Region.binds .any e = true → listed.getD e.on false = true) {p' : Nat}
    (hp' : p' ≤ (effs R).length) (hph : ∀ (q : Nat) e, (effs R)[q]? = some e → (q < p' ↔ (q < p ∨ e.1 = i))) :
    DInv ops R F0 (listed.setIfInBounds i true) (putE f ri.o.dst ri.v) p' := by
  obtain ⟨_, ho, _, _, _⟩ := D.row i ri hi
  have hlt : i < listed.size := by rw [h.size]; exact (Array.getElem?_eq_some_iff.1 ho).1
  have hset : ∀ k, (listed.setIfInBounds i true).getD k false = true ↔ (k = i ∨ listed.getD k false = true) := fun k => by
    by_cases e : k = i
    · subst e; simp [getD_set_self false hlt]
    · rw [getD_set_ne false (fun e' => e e'.symm)]; simp [e]
  refine ⟨by simpa using h.size, ?_, putE_ok h.ok _ _, by rw [putE_n, h.n], ?_, ?_, hp', ?_⟩
  · intro k o hk hl e he hb
    rw [hset]
    rcases (hset k).1 hl with rfl | hl
    · exact .inr (hrd o hk e he hb)
    · exact .inr (h.down k o hk hl e he hb)
  · intro k rk t hk hd hl
    rcases (hset k).1 hl with rfl | hl1
    · rw [hi] at hk; cases hk
      rw [hd, get_putE h.ok, if_pos rfl, h.n]
    · rw [get_putE_ne h.ok]
      · exact h.did k rk t hk hd hl1
      · intro e
        have := D.st.once _ _ _ _ t (D.row k rk hk).2.1 ho hd e
        subst this
        rw [hun] at hl1; cases hl1
  · intro t hn
    have e1 : ri.o.dst ≠ some t := fun e => by
      have := hn i ri hi e
      rw [getD_set_self false hlt] at this; cases this
    rw [get_putE_ne h.ok _ e1]
    refine h.not t fun k rk hk hd => ?_
    have := hn k rk hk hd
    cases hl : listed.getD k false with
    | false => rfl
    | true => rw [(hset k).2 (.inr hl)] at this; cases this
  · intro q e he
    rw [hset, hph q e he, h.ph q e he]
    exact Or.comm

theorem evL_sub {f g : Frm} {L : List Tmp} (h : ∀ t ∈ L, f.get t = g.get t) {ρ : Env} {A : Act} (hf : FRel ρ f A.tmps) : EvRel ρ (evL L g) A := by
  intro x v hv
  cases x with
  | tmp t =>
    simp only [evL] at hv
    cases ht : hasN t L with
    | false => rw [ht] at hv; cases hv
    | true =>
      rw [ht] at hv
      cases hv
      rw [← h t ((hasN_eq t L).1 ht)]
      exact hf.get t
  | const c => exact evF_rel hf _ _ (show evF f (.const c) = some v from hv)
  | global g => cases hv
  | func g => exact evF_rel hf _ _ (show evF f (.func g) = some v from hv)

theorem wantedE_sub {f g : Frm} {ops : Array Oper} {o : Oper} (h : ∀ t ∈ o.looksAt ops, f.get t = g.get t) : wantedE (guardOf ops o) f = wantedE (guardOf ops o) g := by
  unfold guardOf
  cases hg : o.guard with
  | none => rfl
  | some x =>
    obtain ⟨j, want⟩ := x
    simp only
    cases ho : ops[j]? with
    | none => rfl
    | some o' =>
      simp only
      cases hd : o'.dst with
      | none => rfl
      | some d =>
        simp only [wantedE]
        rw [h d (by unfold Oper.looksAt; rw [hg]; simp [ho, hd])]

theorem wantOK_sub {f g : Frm} {ops : Array Oper} {o : Oper} (h : ∀ t ∈ o.looksAt ops, f.get t = g.get t) : wantOK (guardOf ops o) f = wantOK (guardOf ops o) g := by
  unfold guardOf
  cases hg : o.guard with
  | none => rfl
  | some x =>
    obtain ⟨j, want⟩ := x
    simp only
    cases ho : ops[j]? with
    | none => rfl
    | some o' =>
      simp only
      cases hd : o'.dst with
      | none => rfl
      | some d =>
        simp only [wantOK]
        rw [h d (by unfold Oper.looksAt; rw [hg]; simp [ho, hd])]

theorem draw_end {ops : Array Oper} {R : List DRec} {F0 f : Frm} {s0 : St} (D : DRun P self ops M dead F0 s0 R) {listed : Array Bool} {p : Nat} (h : DInv ops R F0 listed f p) (all : ∀ i, i < listed.size → listed.getD i false = true)
    {own : Own} {ρ0 ρ : Env} {w0 w : World} {ds : List EDef} {A : Act} (h1 : ρ0.le ρ) (h2 : Fr own w0 w) (hf : FRel ρ f A.tmps) (hd : DRel ρ ds A.defers) (hS : SRel own ρ (lastS s0 ((effs R).take p)) w) :
    CPost own ρ0 w0 .normal ⟨finF F0 R, ds, lastS s0 (effs R)⟩ .normal A w := by
  have allR : ∀ (k : Nat) rk, R[k]? = some rk → listed.getD k false = true := fun k rk hk => all k (by
    rw [h.size, ← D.len]; exact (List.getElem?_eq_some_iff.1 hk).1)
  have hp : p = (effs R).length := by
    rcases Nat.lt_or_ge p (effs R).length with hlt | hge
    · obtain ⟨k, rk, a1, a2, a3, _⟩ := effs_get (List.getElem?_eq_getElem hlt)
      have := (h.ph p _ (List.getElem?_eq_getElem hlt)).1 (by rw [← a3, (D.row k rk a1).1]; exact allR k rk a1)
      omega
    · have := h.le; omega
  subst hp
  rw [List.take_length] at hS
  have hget : ∀ t, f.get t = (finF F0 R).get t := fun t => by
    by_cases hw : ∃ (k : Nat) (rk : DRec), R[k]? = some rk ∧ rk.o.dst = some t
    · obtain ⟨k, rk, hk, hdd⟩ := hw
      rw [h.did k rk t hk hdd (allR k rk hk), finF_some D.ok hk hdd fun k' rk' hk' hd' => D.st.once _ _ _ _ t (D.row k' rk' hk').2.1 (D.row k rk hk).2.1 hd' hdd]
    · rw [h.not t fun k rk hk hdd => absurd ⟨k, rk, hk, hdd⟩ hw, finF_none D.ok fun r' hr' e' => by
        obtain ⟨q, hq⟩ := List.getElem?_of_mem hr'
        exact hw ⟨q, r', hq, e'⟩]
  refine ⟨ρ, h1, rfl, ?_, hd, hS, h2⟩
  obtain ⟨a1, d, a2, a3, a4⟩ := hf
  obtain ⟨d', b2, b3⟩ := finF_ok R D.ok
  have hn : (finF F0 R).n = f.n := by rw [finF_n, h.n]
  refine ⟨by rw [hn]; exact a1, d', b2, b3, fun i X hX => ?_⟩
  have hlt : i < f.n := by rw [a1]; exact (Array.getElem?_eq_some_iff.1 hX).1
  have := hget i
  rw [Frm.get_eq, Frm.get_eq, blt_iff, blt_iff, hn, decide_eq_true hlt, cond_true, cond_true] at this
  rw [← this]
  exact a4 i X hX

structure DFin (P : Program) (sf : ESelf) (ops : Array Oper) (dead : Nat → Prop) (F0 : Frm) (s0 : St) (R : List DRec) (ds : List EDef) (e : EExit) (c' : Cfg) : Prop where
  fin : (∀ k, ¬ dead k) → e = .normal ∧ c' = ⟨finF F0 R, ds, lastS s0 (effs R)⟩
  pan : ∀ k, dead k → ∃ ip, dead ip ∧ (∀ j, dead j → j = ip ∨ Reach ops j ip) ∧ ∃ rp v s', R[ip]? = some rp ∧ rp.s = lastS s0 (effs R) ∧ (wantOK (guardOf ops rp.o) rp.f = true ∧ wantedE (guardOf ops rp.o) rp.f = true) ∧ opPan sf (eop P rp.s (evL (rp.o.looksAt ops) rp.f) rp.o.op) = some (v, s') ∧
    (∀ (q : Nat) e, (effs R)[q]? = some e → Reach ops ip e.1) ∧ e = .pan v ∧ c' = ⟨anyF F0 ops.toList, ds, s'⟩

theorem opPan_sound (hs : SelfOK P self) {own : Own} {ρ : Env} {s s' : St} {w : World} (h : SRel own ρ s w) {ev : Operand → Option V} {A : Act} (hA : EvRel ρ ev A) {o : Oper} {v : V}
    (hq : opPan self (eop P s ev o.op) = some (v, s')) {Q : Exit → Act → World → Prop} {K : Act → World → Prop}
    (hQ : ∀ ρ' X w', ρ.le ρ' → VRel ρ' v X → SRel own ρ' s' w' → Fr own w w' → Q (.panic [{ v := X, recovered := false }]) A w') : o.wpIn (RF r) n P A w K Q := by
  cases ho : eop P s ev o.op with
  | none => rw [ho] at hq; cases hq
  | some x =>
    obtain ⟨out, s1⟩ := x
    rw [ho] at hq
    have hrel := eop_rel h hA ho
    have hnd : ∀ cc, o.op ≠ .defer cc := fun cc ec => by rw [ec] at ho; cases ho
    refine ⟨fun f' _ => RF_fn _ _, ?_⟩
    rw [Oper.semAt_eq _ _ _ hnd]
    cases out with
    | val v1 => cases hq
    | skip => cases hq
    | pan v1 =>
      cases hq
      obtain ⟨rfl, X, g1, g2⟩ := hrel
      rw [g1, Oper.uponIn_panic]
      exact hQ ρ X w ρ.le_refl g2 h (Fr.refl _ _)
    | enter t =>
      have hs1 : s1 = s := by
        cases t with
        | fn f' a' => exact hrel.1
        | round l' a' => exact hrel.1
      subst hs1
      simp only [opPan] at hq
      cases hself : self t s1 with
      | none => rw [hself] at hq; cases hq
      | some p =>
        obtain ⟨ee, s2⟩ := p
        rw [hself] at hq
        cases ee with
        | ret v1 => cases hq
        | pan v1 =>
          cases hq
          have hcon := hs t s1 _ _ hself own ρ w h (n - 1)
          have tail : ∀ (E : Ending) (w' : World), Post own ρ w (.pan v) s' E w' →
              (match E, w' with
                | .returned v, w'' => K (A.put o.dst v) w''
                | .panicked chain, w'' => Q (.panic chain) A w''
                | .outgrown, _ => LetsOut Q) := by
            rintro E w' ⟨ρ', g1, ⟨X, rfl, g6⟩, g4, g5⟩
            exact hQ ρ' X w' g1 g6 g4 g5
          cases t with
          | fn f' a' =>
            obtain ⟨_, A', g2, g3⟩ := hrel
            rw [g2, Oper.uponIn_enter]
            refine ⟨fun hh => by simp [RF_depth] at hh, (show CallsIn (RF r) _ P _ _ _ _ from (hcon A' g3).mono fun E w' hp => ?_)⟩
            have := tail E w' hp
            cases E <;> exact this
          | round l' a' =>
            obtain ⟨_, x, L, A', g1, g2, g3, g4, g5⟩ := hrel
            rw [g5, Oper.uponIn_round]
            refine ⟨fun hh => by simp [RF_depth] at hh, (show RoundIn (RF r) _ P _ _ _ _ _ _ _ from (hcon x L A' g1 g2 g3 g4).mono fun E w' hp => ?_)⟩
            have := tail E w' hp
            cases E <;> exact this

theorem drawE_spec {ops : Array Oper} {c c' : Cfg} {e : EExit} (hf : c.tmps.ok) (h : drawE P self ops c = some (e, c')) :
    P.follows .mixedOrders = true ∧ ∃ s0 M R dead, PreOK c.st s0 M ∧ DRun P self ops M dead c.tmps s0 R ∧ DFin P self ops dead c.tmps s0 R c.defers e c' := by
  unfold drawE at h
  cases h1 : P.follows .mixedOrders with
  | false => simp [h1] at h
  | true =>
  cases h2 : stOK ops with
  | false => simp [h1, h2] at h
  | true =>
  simp only [h1, h2, Bool.and_self, cond_true] at h
  rcases hpre : preM P ops c.tmps c.st with ⟨s0, M⟩
  rw [hpre] at h
  simp only at h
  split at h
  · rename_i R hR
    cases h3 : chainE (ancsE ops.toList []) (effs R) with
    | false => simp [h3] at h
    | true =>
    cases h4 : chkAll P ops (ancsE ops.toList []) s0 (effs R) R with
    | false => simp [h3, h4] at h
    | true =>
    simp only [h3, h4, Bool.and_self, cond_true, Option.some.injEq, Prod.mk.injEq] at h
    obtain ⟨rfl, rfl⟩ := h
    obtain ⟨g1, g2⟩ := drawRun_spec hR
    have hi : ∀ (k : Nat) rk, R[k]? = some rk → rk.i = k := fun k rk hk => by simpa using (g2 k rk hk).1
    refine ⟨rfl, s0, M, R, fun _ => False, preM_ok hpre, ⟨stOK_spec h2, by simpa using g1, fun k rk hk => ?_, fun q q' e e' hq he he' => reach_of (chainE_spec h3 q q' e e' hq he he'), fun k rk hk hq p hp a b => ?_, hf⟩, ⟨fun _ => ⟨rfl, rfl⟩, fun k hk => hk.elim⟩⟩
    · obtain ⟨b1, b2, b3, b4, b5⟩ := g2 k rk hk
      refine ⟨hi k rk hk, by simpa using b2, .inr ?_, b4, b5⟩
      rw [hi k rk hk] at b3
      exact b3
    · have := chkAll_spec h4 rk (List.mem_of_getElem? hk) hq
      refine chkE_spec this p hp (fun q e hqp he => ?_) (fun q e hqp he => ?_)
      · rw [hi k rk hk, Bool.eq_false_iff]
        exact fun hh => a q e hqp he (reach_of hh)
      · rw [hi k rk hk, Bool.eq_false_iff]
        exact fun hh => b q e hqp he (reach_of hh)
  · unfold drawP at h
    split at h
    · rename_i R ip v s' hR
      cases h3 : chainE (ancsE ops.toList []) (effs R) with
      | false => simp [h3] at h
      | true =>
      cases h5 : allAfter (ogetN (lget (ancsE ops.toList []) ip)) (effs R) with
      | false => simp [h3, h5] at h
      | true =>
      cases h4 : chkAll P ops (ancsE ops.toList []) s0 (effs R) R with
      | false => simp [h3, h5, h4] at h
      | true =>
      simp only [h3, h4, h5, Bool.and_self, cond_true, Option.some.injEq, Prod.mk.injEq] at h
      obtain ⟨rfl, rfl⟩ := h
      obtain ⟨g1, _, ⟨rp, a1, a2, a3, a4, a5⟩, g2⟩ := panRun_spec hR
      rw [Nat.sub_zero] at a1
      have hi : ∀ (k : Nat) rk, R[k]? = some rk → rk.i = k := fun k rk hk => by simpa using (g2 k rk hk).1
      refine ⟨rfl, s0, M, R, fun k => k = ip ∨ Reach ops k ip, preM_ok hpre, ⟨stOK_spec h2, by simpa using g1, fun k rk hk => ?_, fun q q' e e' hq he he' => reach_of (chainE_spec h3 q q' e e' hq he he'), fun k rk hk hq p hp a b => ?_, hf⟩,
        ⟨fun hn => absurd (Or.inl rfl) (hn ip), fun k _ => ⟨ip, .inl rfl, fun j hj => hj, rp, v, s', a1, a3, a4, a5, fun q e he => reach_of (allAfter_spec h5 q e he), rfl, rfl⟩⟩⟩
      · obtain ⟨b1, b2, b3, b4, b5⟩ := g2 k rk hk
        refine ⟨hi k rk hk, by simpa using b2, ?_, b4, b5⟩
        rw [hi k rk hk] at b3
        rcases b3 with ⟨e, _⟩ | ⟨e, _⟩ | e
        · exact .inl (.inl e)
        · exact .inl (.inr (reach_of e))
        · exact .inr e
      · have := chkAll_spec h4 rk (List.mem_of_getElem? hk) hq
        refine chkE_spec this p hp (fun q e hqp he => ?_) (fun q e hqp he => ?_)
        · rw [hi k rk hk, Bool.eq_false_iff]
          exact fun hh => a q e hqp he (reach_of hh)
        · rw [hi k rk hk, Bool.eq_false_iff]
          exact fun hh => b q e hqp he (reach_of hh)
    · cases h

theorem count_set {l : List Bool} {i : Nat} (h : l[i]? = some false) : (l.set i true).countP (! ·) + 1 = l.countP (! ·) := by
  induction l generalizing i with
  | nil => simp at h
  | cons a l ih =>
    cases i with
    | zero => simp at h; subst h; simp
    | succ i =>
      have := ih (by simpa using h)
      simp only [List.set_cons_succ, List.countP_cons]
      omega

theorem draw_any (hs : SelfOK P self) {ops : Array Oper} {R : List DRec} {F0 : Frm} {s0 : St} (D : DRun P self ops M dead F0 s0 R) {own : Own} {ρ0 : Env} {w0 : World} {ds : List EDef} {e : EExit} {c' : Cfg} (hF : DFin P self ops dead F0 s0 R ds e c') :
    (∀ i b, findM i M = some b → ρ0.n ≤ b) → (∀ i j b, findM i M = some b → findM j M = some b → i = j) →
    ∀ (fuel : Nat) (listed : Array Bool) (f : Frm) (p : Nat) (ρ : Env) (A : Act) (w : World), DInv ops R F0 listed f p → listed.toList.countP (! ·) ≤ fuel → (∀ k, dead k → listed.getD k false = false) → (∀ i b, findM i M = some b → listed.getD i false = false → ρ b = none ∧ b < ρ.n) → ρ0.le ρ → Fr own w0 w → FRel ρ f A.tmps → DRel ρ ds A.defers →
      SRel own ρ (lastS s0 ((effs R).take p)) w →
      wpAnyIn (RF r) n P .any ops (CPost own ρ0 w0 e c') fuel listed A w := by
  intro hM0 hM1 fuel
  have nodead : ∀ {listed : Array Bool} {f : Frm} {p : Nat}, DInv ops R F0 listed f p → (∀ i, i < listed.size → listed.getD i false = true) → (∀ k, dead k → listed.getD k false = false) → ∀ k, ¬ dead k := fun h all hdd k hk => by
    obtain ⟨ip, h1, _, rp, v, s', h2, _⟩ := hF.pan k hk
    have hlt : ip < ops.size := by rw [← D.len]; exact (List.getElem?_eq_some_iff.1 h2).1
    have := all ip (by rw [h.size]; exact hlt)
    rw [hdd ip h1] at this; cases this
  induction fuel with
  | zero =>
    intro listed f p ρ A w h hc hdd hM h1 h2 hf hd hS
    have all : ∀ i, i < listed.size → listed.getD i false = true := fun i hi => by
      have h0 : listed.toList.countP (! ·) = 0 := by omega
      rw [List.countP_eq_zero] at h0
      have := h0 listed[i] (by simp)
      simpa [hi] using this
    refine ⟨?_, ?_⟩
    · cases hr : Region.ready .any ops listed with
      | nil => rfl
      | cons x l =>
        have := mem_ready.1 (hr ▸ List.mem_cons_self : x ∈ Region.ready .any ops listed)
        obtain ⟨a, o, b, _⟩ := this
        have hx : x < listed.size := by rw [h.size]; exact (Array.getElem?_eq_some_iff.1 b).1
        rw [getD_any hx true false, all x hx] at a
        cases a
    · obtain ⟨rfl, rfl⟩ := hF.fin (nodead h all hdd)
      exact draw_end D h all h1 h2 hf hd hS
  | succ fuel ih =>
    intro listed f p ρ A w h hc hdd hM h1 h2 hf hd hS
    refine ⟨fun hnil => ?_, fun i hi => ?_⟩
    · have all : ∀ i, i < listed.size → listed.getD i false = true := by
        intro i
        induction i using Nat.strongRecOn with
        | ind i ih =>
          intro hi
          cases hl : listed.getD i false with
          | true => rfl
          | false =>
            have hio : i < ops.size := by rw [← h.size]; exact hi
            have : i ∈ Region.ready .any ops listed := mem_ready.2 ⟨by rw [getD_any hi true false]; exact hl, ops[i], Array.getElem?_eq_getElem hio, fun e he hb => by
              have := D.st.back i ops[i] (Array.getElem?_eq_getElem hio) e he hb
              exact ih e.on this (by omega)⟩
            rw [hnil] at this; cases this
      obtain ⟨rfl, rfl⟩ := hF.fin (nodead h all hdd)
      exact draw_end D h all h1 h2 hf hd hS
    · obtain ⟨hun, o, ho, hrd⟩ := mem_ready.1 hi
      have hio : i < ops.size := (Array.getElem?_eq_some_iff.1 ho).1
      have hil : i < listed.size := by rw [h.size]; exact hio
      rw [getD_any hil true false] at hun
      have hri : R[i]? = some (R[i]'(by rw [D.len]; exact hio)) := List.getElem?_eq_getElem _
      generalize R[i]'(by rw [D.len]; exact hio) = ri at hri
      obtain ⟨ei, ho', hstep, _, hs'⟩ := D.row i ri hri
      have : o = ri.o := by rw [ho] at ho'; exact Option.some.inj ho'
      subst this
      have hrd : ∀ o, ops[i]? = some o → ∀ e ∈ o.after, Region.binds .any e = true → listed.getD e.on false = true := fun o2 h2 => by rw [ho] at h2; cases h2; exact hrd
      have hlk := fun t => h.looks D hri hun hrd (t := t)
      rcases Classical.em (dead i) with hdi | hdi
      · have hrd2 := hrd
        clear hrd
        obtain ⟨ip, q1, q2, rp, v, s', q3, q4, q5, q6, q7, rfl, rfl⟩ := hF.pan i hdi
        rcases q2 i hdi with rfl | hr
        · have hrp : rp = ri := by rw [hri] at q3; exact (Option.some.inj q3).symm
          subst hrp
          have hp : p = (effs R).length := by
            rcases Nat.lt_or_ge p (effs R).length with hlt | hge
            · have := (h.ph p _ (List.getElem?_eq_getElem hlt)).1 (h.reach_ready (q7 p _ (List.getElem?_eq_getElem hlt)) hrd2)
              omega
            · have := h.le; omega
          rw [hp, List.take_length, ← q4] at hS
          have hwant := wanted_rel hf ops rp.o (by rw [wantOK_sub hlk]; exact q5.1)
          rw [wantedE_sub hlk, q5.2] at hwant
          unfold wpOpIn
          simp only [ho]
          rw [← hwant]
          simp only [if_true]
          refine opPan_sound hs hS (evL_sub hlk hf) q6 fun ρ' X w' b1 b2 b3 b4 => ?_
          refine ⟨ρ', Env.le_trans h1 b1, ⟨X, rfl, b2⟩, ?_, hd.mono b1, b3, h2.trans b4⟩
          obtain ⟨a1, d, a2, a3, a4⟩ := hf.mono b1
          obtain ⟨d', e2, e3⟩ := anyF_ok ops.toList D.ok
          have hn : (anyF F0 ops.toList).n = f.n := by rw [anyF_n, h.n]
          refine ⟨by rw [hn]; exact a1, d', e2, e3, fun t Y hY => ?_⟩
          have hlt : t < f.n := by rw [a1]; exact (Array.getElem?_eq_some_iff.1 hY).1
          have hraw : ∀ g : Frm, g.n = f.n → g.get t = g.t.get t := fun g hg => by rw [Frm.get_eq, blt_iff, hg, decide_eq_true hlt, cond_true]
          obtain ⟨i1, _, i3⟩ := anyF_get (t := t) ops.toList D.ok (by rw [← h.n]; exact hlt)
          by_cases hdst : ∃ o ∈ ops.toList, o.dst = some t
          · show VRel ρ' ((anyF F0 ops.toList).t.get t) Y
            rw [← hraw _ hn, i1 hdst]
            simp only [VRel]
          · show VRel ρ' ((anyF F0 ops.toList).t.get t) Y
            rw [← hraw _ hn, i3 (fun o ho he => hdst ⟨o, ho, he⟩), ← h.not t fun k rk hk hdk => absurd ⟨rk.o, by
              have := (D.row k rk hk).2.1
              exact Array.mem_toList_iff.2 (Array.mem_of_getElem? this), hdk⟩ hdst, hraw f rfl]
            exact a4 t Y hY
        · have := h.reach_ready hr hrd2
          rw [hdd ip q1] at this; cases this
      have hstep := hstep.resolve_left hdi
      have hdd' : ∀ k, dead k → (listed.setIfInBounds i true).getD k false = false := fun k hk => by
        rw [getD_set_ne false (fun e' : i = k => hdi (by rw [e']; exact hk))]; exact hdd k hk
      have hcnt : (listed.setIfInBounds i true).toList.countP (! ·) ≤ fuel := by
        have : listed.toList[i]? = some false := by
          rw [Array.getElem?_toList, Array.getElem?_eq_getElem hil]
          simpa [hil] using hun
        have := count_set this
        rw [Array.toList_setIfInBounds]
        omega
      have hMs : ∀ ρ' : Env, (∀ j b, findM j M = some b → j ≠ i → listed.getD j false = false → ρ' b = none ∧ b < ρ'.n) → ∀ j b, findM j M = some b → (listed.setIfInBounds i true).getD j false = false → ρ' b = none ∧ b < ρ'.n := fun ρ' hh j b hj hl => by
        by_cases e : j = i
        · subst e; rw [getD_set_self false hil] at hl; cases hl
        · rw [getD_set_ne false (fun e' => e e'.symm)] at hl
          exact hh j b hj e hl
      have hwok : wantOK (guardOf ops ri.o) ri.f = true := (drawStep_fields hstep).2.2.2.2
      have hwant := wanted_rel hf ops ri.o (by rw [wantOK_sub hlk]; exact hwok)
      rw [wantedE_sub hlk] at hwant
      unfold wpOpIn
      simp only [ho]
      unfold drawStep at hstep
      rw [hwok, Bool.not_true, cond_false] at hstep
      cases hw : wantedE (guardOf ops ri.o) ri.f with
      | false =>
        rw [hw, cond_false] at hstep
        have hrv : ri.v = .undef ∧ ri.eff = none := by rw [← Option.some.inj hstep]; exact ⟨rfl, rfl⟩
        rw [hw] at hwant
        rw [← hwant]
        simp only [Bool.false_eq_true, if_false]
        refine ⟨fun f' _ => RF_fn _ _, ?_⟩
        have hinv := h.step D hri hun hrd h.le fun q e he => by
          obtain ⟨k, rk, a1, a2, a3, _⟩ := effs_get he
          constructor
          · exact .inl
          · rintro (b | b)
            · exact b
            · have : k = i := by rw [← b, ← a3]; exact ((D.row k rk a1).1).symm
              subst this
              rw [hri] at a1; cases a1
              rw [hrv.2] at a2; cases a2
        rw [hrv.1] at hinv
        exact ih _ _ p ρ _ w hinv hcnt hdd' (hMs ρ fun j b hj _ hl => hM j b hj hl) h1 h2 (putE_rel hf ((VRel.eq_1 ρ (.tuple #[])).mpr rfl) _) (by rw [put_defers]; exact hd) hS
      | true =>
        rw [hw, cond_true] at hstep
        rw [hw] at hwant
        rw [← hwant]
        simp only [if_true]
        split at hstep
        · rename_i v0 hv0
          have hrv : ri.q = true ∧ ri.eff = none ∧ ri.mb = findM i M := by rw [← Option.some.inj hstep]; exact ⟨rfl, rfl, rfl⟩
          have hq := D.quiet i ri hri hrv.1 p h.le (fun q e hq he hr => by
              have := h.reach hr ((h.ph q e he).2 hq)
              rw [hun] at this; cases this) (fun q e hq he hr => by
              have := (h.ph q e he).1 (h.reach_ready hr hrd)
              omega)
          have hinv := h.step D hri hun hrd h.le fun q e he => by
            obtain ⟨k, rk, a1, a2, a3, _⟩ := effs_get he
            constructor
            · exact .inl
            · rintro (b | b)
              · exact b
              · have : k = i := by rw [← b, ← a3]; exact ((D.row k rk a1).1).symm
                subst this
                rw [hri] at a1; cases a1
                rw [hrv.2.1] at a2; cases a2
          rw [hrv.2.2] at hq
          cases hmb : findM i M with
          | none =>
            rw [hmb] at hq
            exact qop_sound hS (evL_sub hlk hf) hq fun X hX => ih _ _ p ρ _ w hinv hcnt hdd' (hMs ρ fun j b hj _ hl => hM j b hj hl) h1 h2 (putE_rel hf hX _) (by rw [put_defers]; exact hd) hS
          | some b =>
            rw [hmb] at hq
            obtain ⟨hn1, hn2⟩ := hM i b hmb hun
            refine mk_sound hS (evL_sub hlk hf) hq hn1 (Nat.lt_of_lt_of_le hn2 hS.top) fun x X w' g1 g2 g3 => ?_
            have hsub := Env.sub_put x hn1
            have hle : ρ0.le (ρ.put b x) := ⟨Env.sub_trans h1.sub hsub, Nat.le_trans h1.top (Nat.le_max_left _ _), fun k hk e => by
              have := hM0 i b hmb
              rw [Env.put_ne (by omega)]
              exact h1.keep k hk e⟩
            refine ih _ _ p (ρ.put b x) _ w' hinv hcnt hdd' (hMs _ fun j b' hj hne hl => ?_) hle (h2.trans g3) (putE_rel (hf.up hsub) g1 _) (by rw [put_defers]; exact hd.up hsub) g2
            obtain ⟨k1, k2⟩ := hM j b' hj hl
            have hbb : b' ≠ b := fun e => hne (hM1 j i b (e ▸ hj) hmb)
            rw [Env.put_ne hbb]
            exact ⟨k1, Nat.lt_of_lt_of_le k2 (Nat.le_max_left _ _)⟩
        · split at hstep
          · cases hstep
          split at hstep
          · rename_i v0 s1 hv0
            have hrv : ri.v = v0 ∧ ri.eff = some s1 := by rw [← Option.some.inj hstep]; exact ⟨rfl, rfl⟩
            obtain ⟨q0, g1, g2⟩ := effs_of hri hrv.2
            rw [ei] at g1
            have hq0 : q0 = p := by
              have a1 : ¬ q0 < p := fun hh => by
                have := (h.ph q0 _ g1).2 hh
                rw [show ((i, s1) : Nat × St).1 = i from rfl, hun] at this; cases this
              rcases Nat.lt_or_ge p q0 with a2 | a2
              · have hp : p < (effs R).length := Nat.lt_trans a2 (List.getElem?_eq_some_iff.1 g1).1
                have := D.chain p q0 _ _ a2 (List.getElem?_eq_getElem hp) g1
                have := (h.ph p _ (List.getElem?_eq_getElem hp)).1 (h.reach_ready this hrd)
                omega
              · omega
            subst hq0
            have hlt : q0 < (effs R).length := (List.getElem?_eq_some_iff.1 g1).1
            rw [hs', g2] at hv0
            have hinv := h.step D hri hun hrd (p' := q0 + 1) hlt fun q e he => by
              obtain ⟨k, rk, a1, a2, a3, _⟩ := effs_get he
              constructor
              · intro b
                rcases Nat.lt_or_ge q q0 with b' | b'
                · exact .inl b'
                · have : q = q0 := by omega
                  subst this
                  rw [g1] at he; cases he
                  exact .inr rfl
              · rintro (b | b)
                · omega
                · rcases Nat.lt_trichotomy q q0 with c | c | c
                  · omega
                  · omega
                  · have := D.st.lt (D.chain q0 q _ _ c g1 he)
                    rw [b] at this
                    exact absurd this (Nat.lt_irrefl _)
            have htake : lastS s0 ((effs R).take (q0 + 1)) = s1 := by
              have hlast : ∀ (E : List (Nat × St)) (s : St) (e : Nat × St), lastS s (E ++ [e]) = e.2 := by
                intro E
                induction E with
                | nil => intro s e; rfl
                | cons a E ih => intro s e; exact ih a.2 e
              rw [List.take_add_one, g1]
              exact hlast _ _ _
            refine opOut_sound hs hS (evL_sub hlk hf) hv0 fun ρ' X w' b1 b2 b3 b4 => ?_
            rw [hrv.1] at hinv
            exact ih _ _ (q0 + 1) ρ' _ w' hinv hcnt hdd' (hMs ρ' fun j b hj _ hl => by obtain ⟨k1, k2⟩ := hM j b hj hl; exact ⟨b1.keep b k2 k1, Nat.lt_of_lt_of_le k2 b1.top⟩) (Env.le_trans h1 b1) (h2.trans b4) (putE_rel (hf.mono b1) b2 _) (by rw [put_defers]; exact hd.mono b1) (by rw [htake]; exact b3)
          · cases hstep
end
end Go.Sym
end

section
namespace Go.Sym
set_option linter.unusedSimpArgs false
set_option linter.unusedVariables false

structure Rel (own : Own) (ρ : Env) (c : Cfg) (A : Act) (w : World) : Prop where
  f : FRel ρ c.tmps A.tmps
  d : DRel ρ c.defers A.defers
  s : SRel own ρ c.st w

def RR (ρ : Env) : Option Nat → Option Nat → Prop
  | none, r => r = none
  | some l, r => ∃ x, ρ l = some x ∧ r = some x.B
theorem RR.mono {ρ ρ' : Env} (h : ρ.le ρ') : ∀ {a b : Option Nat}, RR ρ a b → RR ρ' a b
  | none, _, r => r
  | some _, _, ⟨x, h1, h2⟩ => ⟨x, h.sub.1 _ _ h1, h2⟩

def Env.below (ρ : Env) (k : Nat) : Prop := ρ.n ≤ k ∧ ∀ b x, ρ b = some x → b < k
def CodeAt (P : Program) (ro r : Option Nat) (n k : Nat) (x : Code) (c : Cfg) (e : EExit) (c' : Cfg) : Prop :=
  ∀ own ρ0 w0 ρ A w, ρ0.below k → RR ρ0 ro r → ρ0.le ρ → Fr own w0 w → Rel own ρ c A w → x.wpIn (RF r) n P (CPost own ρ0 w0 e c') A w
def CodeOK (P : Program) (ro r : Option Nat) (n k : Nat) (x : Code) (f : Cfg → Option (EExit × Cfg)) : Prop :=
  ∀ c e c', f c = some (e, c') → CodeAt P ro r n k x c e c'

section
variable {P : Program} {self : ESelf} {ro r : Option Nat} {n k : Nat}

theorem CPost.mk {own : Own} {ρ0 ρ : Env} {w0 w : World} {e : EExit} {c : Cfg} {A : Act} {E : Exit} (h1 : ρ0.le ρ) (h2 : Fr own w0 w) (h : Rel own ρ c A w) (hx : XRel ρ e E) : CPost own ρ0 w0 e c E A w :=
  ⟨ρ, h1, hx, h.f.toX e, h.d, h.s, h2⟩

theorem callsIn_RF {m : Nat} {f : FuncId} {args : Array Value} {w : World} {R : Ending → World → Prop} (h : CallsIn Fence.wide m P f args w R) : CallsIn (RF r) m P f args w R := h
theorem roundIn_RF {m l : Nat} {f : FuncId} {tmps : Array Value} {a b : Code} {w : World} {R : Ending → World → Prop} (h : RoundIn Fence.wide m P l f tmps a b w R) : RoundIn (RF r) m P l f tmps a b w R := h

theorem ops_sound (hs : SelfOK P self) (ops : Array Oper) : ∀ (l : List Oper) (idx : List Nat), idx.map (ops[·]?) = l.map some → ∀ c e c', runOps P self ops l c = some (e, c') →
    ∀ own ρ0 w0 ρ A w, ρ0.le ρ → Fr own w0 w → Rel own ρ c A w → wpOpsIn (RF r) n P ops (CPost own ρ0 w0 e c') idx A w := by
  intro l
  induction l with
  | nil =>
    intro idx hi c e c' h own ρ0 w0 ρ A w h1 h2 hr
    have hi : idx = [] := by simpa using hi
    subst hi
    have h : some (EExit.normal, c) = some (e, c') := h
    cases h
    exact CPost.mk h1 h2 hr rfl
  | cons o l ih =>
    intro idx hi c e c' h own ρ0 w0 ρ A w h1 h2 hr
    cases idx with
    | nil => simp at hi
    | cons i idx =>
    simp only [List.map_cons, List.cons.injEq] at hi
    obtain ⟨hio, hi⟩ := hi
    have ih := fun {c e c'} hh => ih idx hi c e c' hh own ρ0 w0
    replace h : stepE P self ops (runOps P self ops l) o c = some (e, c') := h
    obtain ⟨fr, ds, s⟩ := c
    simp only [stepE] at h
    cases hwk : wantOK (guardOf ops o) fr with
    | false => rw [hwk] at h; cases h
    | true =>
    rw [hwk, Bool.not_true, cond_false] at h
    have hw := wanted_rel hr.f ops o hwk
    simp only at hw
    simp only [wpOpsIn, hio]
    have hru := (VRel.eq_1 ρ (.tuple #[])).mpr rfl
    cases hwt : wantedE (guardOf ops o) fr with
    | false =>
      rw [hwt] at h
      rw [hwt] at hw
      simp only [cond_false] at h
      rw [← hw]
      simp only [Bool.false_eq_true, if_false]
      refine ⟨fun f' _ => RF_fn _ _, ih h ρ _ w h1 h2 ⟨putE_rel hr.f hru o.dst, ?_, hr.s⟩⟩
      rw [put_defers]; exact hr.d
    | true =>
      rw [hwt] at h
      rw [hwt] at hw
      simp only [cond_true] at h
      rw [← hw]
      simp only [if_true]
      unfold nextE at h
      split at h
      all_goals try rename_i hopv
      case h_5 => cases h
      all_goals
        have hnd : ∀ cc, o.op ≠ .defer cc := fun cc ec => by rw [ec, opE_defer] at hopv; cases hopv
        have hrel := opE_rel hr.s (evF_rel hr.f) hopv
        refine ⟨fun f' _ => RF_fn _ _, ?_⟩
        rw [Oper.semAt_eq _ _ _ hnd]
      · rename_i v s1
        obtain ⟨ρ', X, w', g1, g2, g3, g4, g5⟩ := hrel
        rw [g2, Oper.uponIn_value]
        refine ih h ρ' _ w' (Env.le_trans h1 g1) (h2.trans g5) ⟨putE_rel (hr.f.mono g1) g3 o.dst, ?_, g4⟩
        rw [put_defers]; exact hr.d.mono g1
      · rename_i s1
        obtain ⟨w', g2, g4, g5⟩ := hrel
        rw [g2, Oper.uponIn_skip]
        refine ih h ρ _ w' h1 (h2.trans g5) ⟨putE_rel hr.f hru o.dst, ?_, g4⟩
        rw [put_defers]; exact hr.d
      · rename_i v s1
        cases h
        obtain ⟨rfl, X, g2, g3⟩ := hrel
        rw [g2, Oper.uponIn_panic]
        exact CPost.mk h1 h2 ⟨hr.f, hr.d, hr.s⟩ ⟨X, rfl, g3⟩
      · rename_i t s1
        have tail : ∀ (E : Ending) (w' : World) (ee : EEnd) (s2 : St), self t s = some (ee, s2) → Post own ρ w ee s2 E w' →
            (match E, w' with
              | .returned v, w'' => wpOpsIn (RF r) n P ops (CPost own ρ0 w0 e c') idx (A.put o.dst v) w''
              | .panicked chain, w'' => CPost own ρ0 w0 e c' (.panic chain) A w''
              | .outgrown, _ => LetsOut (CPost own ρ0 w0 e c')) := by
          intro E w' ee s2 hself hpost
          have hs1 : s1 = s := by
            cases t with
            | fn f' a' => exact hrel.1
            | round l' a' => exact hrel.1
          subst hs1
          rw [hself] at h
          obtain ⟨ρ', g1, g3, g4, g5⟩ := hpost
          cases ee with
          | ret v =>
            obtain ⟨X, rfl, g6⟩ := g3
            simp only at h ⊢
            refine ih h ρ' _ w' (Env.le_trans h1 g1) (h2.trans g5) ⟨putE_rel (hr.f.mono g1) g6 o.dst, ?_, g4⟩
            rw [put_defers]; exact hr.d.mono g1
          | pan v =>
            obtain ⟨X, rfl, g6⟩ := g3
            simp only at h ⊢
            cases h
            exact CPost.mk (Env.le_trans h1 g1) (h2.trans g5) ⟨hr.f.mono g1, hr.d.mono g1, g4⟩ ⟨X, rfl, g6⟩
        have hsome : ∃ ee s2, self t s = some (ee, s2) := by
          have hs1 : s1 = s := by
            cases t with
            | fn f' a' => exact hrel.1
            | round l' a' => exact hrel.1
          subst hs1
          cases hself : self t s1 with
          | none => rw [hself] at h; cases h
          | some p => exact ⟨p.1, p.2, rfl⟩
        obtain ⟨ee, s2, hself⟩ := hsome
        have hcon := hs t s ee s2 hself own ρ w hr.s (n - 1)
        cases t with
        | fn f' a' =>
          obtain ⟨rfl, A', g2, g3⟩ := hrel
          rw [g2, Oper.uponIn_enter]
          refine ⟨fun hh => by simp [RF_depth] at hh, callsIn_RF ((hcon A' g3).mono fun E w' hp => ?_)⟩
          have := tail E w' ee s2 hself hp
          cases E <;> exact this
        | round l' a' =>
          obtain ⟨rfl, x, L, A', g1, g2, g3, g4, g5⟩ := hrel
          rw [g5, Oper.uponIn_round]
          refine ⟨fun hh => by simp [RF_depth] at hh, roundIn_RF ((hcon x L A' g1 g2 g3 g4).mono fun E w' hp => ?_)⟩
          have := tail E w' ee s2 hself hp
          cases E <;> exact this

theorem range_map {α : Type} (ops : Array α) : (List.range ops.size).map (ops[·]?) = ops.toList.map some := by
  apply List.ext_getElem?
  intro i
  rw [List.getElem?_map, List.getElem?_map]
  by_cases hi : i < ops.size
  · rw [List.getElem?_range hi]
    simp [hi]
  · rw [List.getElem?_eq_none (by simpa using hi), List.getElem?_eq_none (by simpa using hi)]
    rfl

theorem resolve_fn {A : Act} {cl : Call} {f : Operand} {fv : FuncId} {A1 C1 : Array Value} (hc : cl.callee = .value f) (e1 : A.eval f = .func (.func fv) A1 C1) (ty : TypeId) {w : World} :
    (resolve A.eval cl ty).run P w = .ok { target := .fn (.func fv) C1, args := A1 ++ cl.args.map A.eval } w := by
  simp only [resolve, hc, Sem.run_bind, e1, Deferred.ofValue, Sem.run_pure, Result.andThen_ok]

theorem dfer_sound (ops : Array Oper) : ∀ (l : List Oper) (idx : List Nat), idx.map (ops[·]?) = l.map some → ∀ c e c', dferE P l c = some (e, c') →
    ∀ own ρ0 w0 ρ A w, ρ0.le ρ → Fr own w0 w → Rel own ρ c A w → wpOpsIn (RF none) n P ops (CPost own ρ0 w0 e c') idx A w := by
  intro l
  induction l with
  | nil =>
    intro idx hi c e c' h own ρ0 w0 ρ A w h1 h2 hr
    have hi : idx = [] := by simpa using hi
    subst hi
    simp only [dferE] at h
    cases h
    exact CPost.mk h1 h2 hr rfl
  | cons o l ih =>
    intro idx hi c e c' h own ρ0 w0 ρ A w h1 h2 hr
    cases idx with
    | nil => simp at hi
    | cons i idx =>
    simp only [List.map_cons, List.cons.injEq] at hi
    obtain ⟨hio, hi⟩ := hi
    have ih := fun {c e c'} hh => ih idx hi c e c' hh own ρ0 w0
    simp only [dferE] at h
    split at h
    · cases h
    rename_i hg
    have hw : Region.wanted o (yielded ops A.tmps) = true := by unfold Region.wanted; rw [hg]
    have hru := (VRel.eq_1 ρ (.tuple #[])).mpr rfl
    simp only [wpOpsIn, hio, hw, if_true]
    split at h
    · rename_i cl hop
      split at h
      · rename_i f hc
        split at h
        · rename_i g first cap vs hf hvs
          cases hb : bodyOK P g with
          | false => rw [hb] at h; cases h
          | true =>
            rw [hb, cond_true] at h
            refine ⟨fun f' _ => RF_fn _ _, ?_⟩
            have e1 := evF_rel hr.f _ _ hf
            simp only [VRel] at e1
            obtain ⟨A1, C1, e1, e2, e3⟩ := e1
            have e4 := evalOs_rel (evF_rel hr.f) hvs
            rw [← map_toList] at e4
            have hrun : (o.semAt (RF none).round A.eval).run P w = .ok (.defer { target := .fn (.func g) C1, args := A1 ++ cl.args.map A.eval }) w := by
              show (o.semAt none A.eval).run P w = _
              rw [Oper.semAt_none]
              unfold execOp
              simp only [hop, Sem.run_bind, resolve_fn hc e1, Result.andThen_ok, Sem.run_pure]
            rw [hrun, Oper.uponIn_defer]
            refine ih h ρ _ w h1 h2 ⟨putE_rel (A := { A with defers := _ :: A.defers }) hr.f hru o.dst, ?_, hr.s⟩
            rw [put_defers]
            refine ⟨A1 ++ cl.args.map A.eval, C1, A.defers, rfl, ?_, e3, hr.d⟩
            rw [lapp_eq, Array.toList_append]
            exact e2.append e4
        · cases h
      · cases h
    · split at h
      · rename_i v hv
        exact qop_sound hr.s (evF_rel hr.f) hv fun X hX => ih h ρ _ w h1 h2 ⟨putE_rel hr.f hX o.dst, by rw [put_defers]; exact hr.d, hr.s⟩
      · cases h

theorem region_sound (hs : SelfOK P self) (id : Nat) (ops : Array Oper) (draw : Bool) : CodeOK P ro r n k (.region id ops draw) (regionE P self ro ops draw) := by
  intro c e c' h own ρ0 w0 ρ A w hk h0 h1 h2 hr
  cases draw with
  | false =>
    simp only [regionE] at h
    cases hd : hasDefer ops.toList with
    | true =>
      rw [hd, cond_true] at h
      cases ro with
      | some l => cases h
      | none =>
        have h0 : r = none := h0
        subst h0
        exact wpIn_region (dfer_sound ops ops.toList _ (range_map ops) c e c' h own ρ0 w0 ρ A w h1 h2 hr)
    | false =>
      rw [hd, cond_false] at h
      exact wpIn_region (ops_sound hs ops ops.toList _ (range_map ops) c e c' h own ρ0 w0 ρ A w h1 h2 hr)
  | true =>
    obtain ⟨hm, s0, M, R, dead, hpre, D, hfin⟩ := drawE_spec hr.f.ok h
    have hS0 := hr.s.ahead hpre.old hpre.le
    have hle0 : ρ.le ⟨ρ.f, s0.next, ρ.φ⟩ := ⟨⟨fun _ _ e => e, fun _ _ _ e => e⟩, Nat.le_trans hr.s.top hpre.le, fun _ _ e => e⟩
    refine wpIn_region_any hm ?_
    have hw : Fr own w0 { w with drawn := w.drawn + 1 } := h2.trans ⟨rfl, rfl, rfl, Nat.le_refl _, fun _ _ => rfl⟩
    refine draw_any hs D hfin (fun i b hb => Nat.le_trans h1.top (Nat.le_trans hr.s.top (hpre.new i b hb).1)) hpre.one ops.size _ c.tmps 0 ⟨ρ.f, s0.next, ρ.φ⟩ A _ ⟨by simp, ?_, hr.f.ok, rfl, ?_, fun _ _ => rfl, Nat.zero_le _, ?_⟩ ?_ (fun k _ => ?_) (fun i b hb _ => ⟨?_, (hpre.new i b hb).2⟩) (Env.le_trans h1 hle0) hw (hr.f.mono hle0) (hr.d.mono hle0) ⟨hS0.le, hS0.obj, hS0.inj, hS0.dom, hS0.top, hS0.fz, hS0.old⟩
    · intro i o ho hl
      by_cases hi : i < ops.size <;> simp [hi] at hl
    · intro k rk t _ _ hl
      by_cases hi : k < ops.size <;> simp [hi] at hl
    · intro q e he
      constructor
      · intro hl
        by_cases hi : e.1 < ops.size <;> simp [hi] at hl
      · omega
    · refine Nat.le_trans List.countP_le_length ?_
      simp
    · by_cases hi : k < ops.size <;> simp [hi]
    · cases e : ρ b with
      | none => rfl
      | some x => have := hr.s.dom b x e; have := (hpre.new i b hb).1; omega

section
variable {F : Fence} {b : Frame} {a : Act} {k : List Item} {cs : List Frame} {w : World} {Q : Exit → Act → World → Prop}
theorem stepR_scope {c : Code} : step P (lone (b.atR a (.code (.scope c) :: k)) cs w) = .next (lone (b.atR a (.code c :: .inScope c :: k)) cs w) := step_lone_go (by simp [stepG, stepG.exec, Frame.atR])
theorem stepR_inScope {c : Code} : step P (lone (b.atR a (.inScope c :: k)) cs w) = .next (lone (b.atR a k) cs w) := step_lone_go (by simp [stepG, stepG.exec, Frame.atR])
theorem wpIn_scope {c : Code} (h : c.wpIn F n P (fun e a' w' => (∀ l, e ≠ .goto l) ∧ Q e a' w') a w) : (Code.scope c).wpIn F n P Q a w := by
  intro b k cs hro hb hr
  have h0 : (lone (b.atR a (.code (.scope c) :: k)) cs w).fenced P F := fenced_calm hb hr rfl
  obtain ⟨e, a₁, w₁, hq, harr⟩ := h b (.inScope c :: k) cs hro hb hr
  cases e with
  | normal => exact ⟨.normal, a₁, w₁, hq.2, .head h0 stepR_scope (StepsIn.trans harr (.one (fenced_calm hb hr rfl) stepR_inScope))⟩
  | exit id =>
    have hx : exitTo id (.inScope c :: k) = exitTo id k := by simp [exitTo]
    exact ⟨.exit id, a₁, w₁, hq.2, fun k' hk => .head h0 stepR_scope (harr.1 k' (by rw [hx]; exact hk)),
      fun hr' hk => let ⟨k₁, h1, h2⟩ := harr.2 hr' (by rw [hx]; exact hk); ⟨k₁, h1, .head h0 stepR_scope h2⟩⟩
  | goto l => exact absurd rfl (hq.1 l)
  | ret => exact ⟨_, a₁, w₁, hq.2, .of_steps (.one h0 stepR_scope) harr⟩
  | panic ch => exact ⟨_, a₁, w₁, hq.2, .of_steps (.one h0 stepR_scope) harr⟩
  | outgrown => exact ⟨_, a₁, w₁, hq.2, .of_steps (.one h0 stepR_scope) harr⟩
end
theorem scope_sound {a : Code} {fa : Cfg → Option (EExit × Cfg)} (ha : CodeOK P ro r n k a fa) : CodeOK P ro r n k (.scope a) fa := by
  intro c e c' h own ρ0 w0 ρ A w hk h0 h1 h2 hr
  refine wpIn_scope (wpIn_mono (ha c _ _ h own ρ0 w0 ρ A w hk h0 h1 h2 hr) ?_)
  rintro E A1 w1 hp
  refine ⟨fun l hl => ?_, hp⟩
  obtain ⟨ρ', _, g, _⟩ := hp
  subst hl
  cases e with
  | normal => cases g
  | exit id => cases g
  | ret => cases g
  | pan v => obtain ⟨X, g, _⟩ := g; cases g

theorem seq_sound {a b : Code} {fa fb : Cfg → Option (EExit × Cfg)} (ha : CodeOK P ro r n k a fa) (hb : CodeOK P ro r n k b fb) : CodeOK P ro r n k (.seq a b) (seqE fa fb) := by
  intro c e c' h own ρ0 w0 ρ A w hk h0 h1 h2 hr
  refine wpIn_seq ?_
  unfold seqE at h
  split at h
  · rename_i c1 hc1
    refine wpIn_mono (ha c _ _ hc1 own ρ0 w0 ρ A w hk h0 h1 h2 hr) ?_
    rintro E A1 w1 ⟨ρ', g1, g2, g3, g4, g5, g6⟩
    have g2 : E = .normal := g2
    subst g2
    exact hb c1 e c' h own ρ0 w0 ρ' A1 w1 hk h0 g1 g6 ⟨g3, g4, g5⟩
  · rename_i hne
    refine wpIn_mono (ha c e c' h own ρ0 w0 ρ A w hk h0 h1 h2 hr) ?_
    intro E A1 w1 hq
    cases e with
    | normal => exact absurd h (hne c')
    | exit id => obtain ⟨ρ', g1, g2, g3⟩ := hq; have g2 : E = .exit id := g2; subst g2; exact ⟨ρ', g1, rfl, g3⟩
    | ret => obtain ⟨ρ', g1, g2, g3⟩ := hq; have g2 : E = .ret := g2; subst g2; exact ⟨ρ', g1, rfl, g3⟩
    | pan v => obtain ⟨ρ', g1, ⟨X, rfl, g2⟩, g3⟩ := hq; exact ⟨ρ', g1, ⟨X, rfl, g2⟩, g3⟩

theorem cond_sound {x : Operand} {a b : Code} {fa fb : Cfg → Option (EExit × Cfg)} (ha : CodeOK P ro r n k a fa) (hb : CodeOK P ro r n k b fb) : CodeOK P ro r n k (.cond x a b) (condE x fa fb) := by
  intro c e c' h own ρ0 w0 ρ A w hk h0 h1 h2 hr
  unfold condE at h
  split at h
  · rename_i hx
    have := evF_rel hr.f x _ hx
    simp only [VRel] at this
    exact wpIn_cond_true this (ha c e c' h own ρ0 w0 ρ A w hk h0 h1 h2 hr)
  · rename_i hx
    have := evF_rel hr.f x _ hx
    simp only [VRel] at this
    exact wpIn_cond_false this (hb c e c' h own ρ0 w0 ρ A w hk h0 h1 h2 hr)
  · cases h

theorem block_sound {id : Nat} {b : Code} {fb : Cfg → Option (EExit × Cfg)} (hb : CodeOK P ro r n k b fb) : CodeOK P ro r n k (.block id b) (blockE id fb) := by
  intro c e c' h own ρ0 w0 ρ A w hk h0 h1 h2 hr
  refine wpIn_block ?_
  unfold blockE at h
  split at h
  · rename_i id' c1 hc1
    refine wpIn_mono (hb c _ _ hc1 own ρ0 w0 ρ A w hk h0 h1 h2 hr) ?_
    rintro E A1 w1 ⟨ρ', g1, g2, g3⟩
    have g2 : E = .exit id' := g2
    subst g2
    cases hid : Nat.beq id' id with
    | true =>
      have e1 : id' = id := by simpa using hid
      rw [hid] at h; cases h
      simp only [Exit.inBlock, e1, if_true]
      exact ⟨ρ', g1, rfl, g3⟩
    | false =>
      have e1 : id' ≠ id := by intro e; subst e; simp at hid
      rw [hid] at h; cases h
      simp only [Exit.inBlock, e1, if_false]
      exact ⟨ρ', g1, rfl, g3⟩
  · rename_i hne
    refine wpIn_mono (hb c e c' h own ρ0 w0 ρ A w hk h0 h1 h2 hr) ?_
    intro E A1 w1 hq
    cases e with
    | exit id => exact absurd h (hne id c')
    | normal => obtain ⟨ρ', g1, g2, g3⟩ := hq; have g2 : E = .normal := g2; subst g2; exact ⟨ρ', g1, rfl, g3⟩
    | ret => obtain ⟨ρ', g1, g2, g3⟩ := hq; have g2 : E = .ret := g2; subst g2; exact ⟨ρ', g1, rfl, g3⟩
    | pan v => obtain ⟨ρ', g1, ⟨X, rfl, g2⟩, g3⟩ := hq; exact ⟨ρ', g1, ⟨X, rfl, g2⟩, g3⟩

theorem loop_sound {b : Code} {fb : Cfg → Option (EExit × Cfg)} (hb : CodeOK P ro r n k b fb) (fuel : Nat) : CodeOK P ro r n k (.loop b) (iterE fb fuel) := by
  intro c e c' h own ρ0 w0 ρ A w hk h0 h1 h2 hr
  refine wpIn_loop_rounds fuel ?_
  induction fuel generalizing c ρ A w with
  | zero => cases h
  | succ m ih =>
    rw [roundsIn_succ]
    have h : (match fb c with | some (.normal, c') => iterE fb m c' | r => r) = some (e, c') := h
    split at h
    · rename_i c1 hc1
      refine wpIn_mono (hb c _ _ hc1 own ρ0 w0 ρ A w hk h0 h1 h2 hr) ?_
      rintro E A1 w1 ⟨ρ', g1, g2, g3, g4, g5, g6⟩
      have g2 : E = .normal := g2
      subst g2
      exact ih c1 h ρ' A1 w1 g1 g6 ⟨g3, g4, g5⟩
    · rename_i hne
      refine wpIn_mono (hb c e c' h own ρ0 w0 ρ A w hk h0 h1 h2 hr) ?_
      intro E A1 w1 hq
      cases e with
      | normal => exact absurd h (hne c')
      | exit id => obtain ⟨ρ', g1, g2, g3⟩ := hq; have g2 : E = .exit id := g2; subst g2; exact ⟨ρ', g1, rfl, g3⟩
      | ret => obtain ⟨ρ', g1, g2, g3⟩ := hq; have g2 : E = .ret := g2; subst g2; exact ⟨ρ', g1, rfl, g3⟩
      | pan v => obtain ⟨ρ', g1, ⟨X, rfl, g2⟩, g3⟩ := hq; exact ⟨ρ', g1, ⟨X, rfl, g2⟩, g3⟩
end
end Go.Sym
end
