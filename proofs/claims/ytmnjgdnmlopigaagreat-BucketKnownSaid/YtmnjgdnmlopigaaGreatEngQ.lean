/-
  Of regions that draw their order: what the evaluator's tests say (which operations stand ahead of which; what is written once; what is the same in every order). No model step yet.
-/
import Derived.Test.YtmnjgdnmlopigaaGreatEngL
namespace Go.Eng
open Go.RowKit (Below)
set_option linter.unusedSimpArgs false
set_option linter.unusedVariables false

theorem eqQ_spec {a b : Int} (h : eqQ a b = true) : a = b := by rw [eqQ_eq] at h; simpa using h
theorem kEq_spec {a b : IntKind} (h : kEq a b = true) : a = b := by rw [kEq_iff] at h; simpa using h

mutual
theorem V.same_eq : ∀ (v w : V), v.same w = true → v = w
  | .undef, w, h => by cases w <;> simp [V.same] at h <;> rfl
  | .bool a, w, h => by cases w <;> simp [V.same] at h; cases a <;> simp_all
  | .int k a, w, h => by
    cases w <;> simp [V.same] at h
    rename_i k' b
    cases hk : kEq k k' with
    | false => simp [hk] at h
    | true => simp [hk] at h; rw [kEq_spec hk, eqQ_spec h]
  | .str s, w, h => by
    cases w <;> simp [V.same] at h
    rename_i t
    cases s; cases t
    simp_all
  | .nilp, w, h => by cases w <;> simp [V.same] at h <;> rfl
  | .nils, w, h => by cases w <;> simp [V.same] at h <;> rfl
  | .slz a, w, h => by cases w <;> simp [V.same] at h; cases a <;> simp_all
  | .nilm, w, h => by cases w <;> simp [V.same] at h <;> rfl
  | .nilf, w, h => by cases w <;> simp [V.same] at h <;> rfl
  | .nili, w, h => by cases w <;> simp [V.same] at h <;> rfl
  | .ptr b o, w, h => by cases w <;> simp [V.same] at h; simp_all
  | .sl b o l c x e, w, h => by
    cases w <;> simp [V.same] at h
    rename_i b' o' l' c' x' e'
    cases x <;> cases x' <;> simp_all
  | .map b, w, h => by cases w <;> simp [V.same] at h; simp_all
  | .fn f a c, w, h => by
    cases w <;> simp only [V.same, Bool.false_eq_true] at h
    rename_i f' a' c'
    cases h1 : Nat.beq f f' <;> cases h2 : sameL a a' <;> simp [h1, h2] at h
    rw [sameL_eq _ _ h2, sameL_eq _ _ h, Nat.eq_of_beq_eq_true h1]
  | .yld l, w, h => by cases w <;> simp [V.same] at h; simp_all
  | .iface t v, w, h => by
    cases w <;> simp only [V.same, Bool.false_eq_true] at h
    rename_i t' v'
    cases h1 : Nat.beq t t' <;> simp [h1] at h
    rw [V.same_eq _ _ h, Nat.eq_of_beq_eq_true h1]
  | .agg l, w, h => by
    cases w <;> simp only [V.same, Bool.false_eq_true] at h
    rw [sameL_eq _ _ h]
  | .tup l, w, h => by
    cases w <;> simp only [V.same, Bool.false_eq_true] at h
    rw [sameL_eq _ _ h]
  | .it b, w, h => by cases w <;> simp [V.same] at h; simp_all
  | .any, w, h => by simp [V.same] at h
theorem sameL_eq : ∀ (v w : List V), sameL v w = true → v = w
  | [], w, h => by cases w <;> simp [sameL] at h <;> rfl
  | v :: l, w, h => by
    cases w with
    | nil => simp [sameL] at h
    | cons u m =>
      simp only [sameL] at h
      cases h1 : v.same u <;> simp [h1] at h
      rw [V.same_eq _ _ h1, sameL_eq _ _ h]
end

/-! ### Bits -/
theorem tbQ_eq (m i : Nat) : tbQ m i = m.testBit i := by
  have e : tbQ m i = Nat.beq (m / 2 ^ i % 2) 1 := rfl
  rw [e, Nat.testBit_eq_decide_div_mod_eq, Bool.eq_iff_iff]
  simp
theorem tbQ_lor (a b i : Nat) : tbQ (Nat.lor a b) i = (tbQ a i || tbQ b i) := by
  simp only [tbQ_eq]
  exact Nat.testBit_or a b i
theorem tbQ_pow (a i : Nat) : tbQ (Nat.pow 2 a) i = decide (a = i) := by
  rw [tbQ_eq]
  exact Nat.testBit_two_pow
theorem tbQ_zero (i : Nat) : tbQ 0 i = false := by rw [tbQ_eq]; simp
theorem bindsQ_eq (e : Edge) : bindsQ e = Region.binds .any e := by
  unfold bindsQ Region.binds
  split <;> rename_i h <;> simp only [h] <;> rfl

/-! ### What stands ahead -/
inductive Reach (ops : Array Oper) : Nat → Nat → Prop
  | step {i : Nat} {o : Oper} {e : Edge} (ho : ops[i]? = some o) (he : e ∈ o.after) (hb : Region.binds .any e = true) : Reach ops i e.on
  | trans {i j k : Nat} : Reach ops i j → Reach ops j k → Reach ops i k

theorem maskE_spec {ops : Array Oper} {A : List Nat} (hA : ∀ (i m : Nat), A[i]? = some m → ∀ j, tbQ m j = true → Reach ops i j) : ∀ (es : List Edge) (j : Nat), tbQ (maskE A es) j = true →
    ∃ e ∈ es, Region.binds .any e = true ∧ (e.on = j ∨ Reach ops e.on j)
  | [], j, h => by rw [maskE, tbQ_zero] at h; cases h
  | e :: es, j, h => by
    rw [maskE] at h
    cases hb : bindsQ e with
    | false =>
      rw [hb, cond_false] at h
      obtain ⟨e', h1, h2⟩ := maskE_spec hA es j h
      exact ⟨e', List.mem_cons_of_mem _ h1, h2⟩
    | true =>
      rw [hb, cond_true, tbQ_lor, tbQ_lor, tbQ_pow] at h
      rw [bindsQ_eq] at hb
      simp only [Bool.or_eq_true, decide_eq_true_eq] at h
      rcases h with (h | h) | h
      · exact ⟨e, List.mem_cons_self, hb, .inl h⟩
      · rw [lget_eq] at h
        cases hg : A[e.on]? with
        | none => rw [hg, ogetN, tbQ_zero] at h; cases h
        | some m =>
          rw [hg, ogetN] at h
          exact ⟨e, List.mem_cons_self, hb, .inr (hA _ _ hg _ h)⟩
      · obtain ⟨e', h1, h2⟩ := maskE_spec hA es j h
        exact ⟨e', List.mem_cons_of_mem _ h1, h2⟩

theorem ancsE_spec {ops : Array Oper} : ∀ (l : List Oper) (A : List Nat), (∀ (i m : Nat), A[i]? = some m → ∀ j, tbQ m j = true → Reach ops i j) → (∀ (i : Nat) o, l[i]? = some o → ops[A.length + i]? = some o) →
    ∀ (i m : Nat), (ancsE l A)[i]? = some m → ∀ j, tbQ m j = true → Reach ops i j
  | [], A, hA, _ => hA
  | o :: l, A, hA, hl => by
    rw [ancsE, lapp_eq]
    refine ancsE_spec l _ ?_ ?_
    · intro i m hm j hj
      by_cases hi : i < A.length
      · rw [List.getElem?_append_left hi] at hm
        exact hA i m hm j hj
      · have hi' : i = A.length := by
          have := (List.getElem?_eq_some_iff.1 hm).1
          simp at this; omega
        subst hi'
        simp at hm
        subst hm
        have ho := hl 0 o rfl
        rw [Nat.add_zero] at ho
        obtain ⟨e, h1, h2, h3⟩ := maskE_spec hA _ j hj
        have h0 := Reach.step ho (by simpa using h1) h2
        rcases h3 with rfl | h3
        · exact h0
        · exact .trans h0 h3
    · intro i o' ho'
      have := hl (i + 1) o' (by simpa using ho')
      rw [List.length_append, List.length_singleton]
      rw [show A.length + 1 + i = A.length + (i + 1) by omega]
      exact this
theorem reach_of {ops : Array Oper} {i j : Nat} (h : tbQ (ogetN (lget (ancsE ops.toList []) i)) j = true) : Reach ops i j := by
  rw [lget_eq] at h
  cases hg : (ancsE ops.toList [])[i]? with
  | none => rw [hg, ogetN, tbQ_zero] at h; cases h
  | some m =>
    rw [hg, ogetN] at h
    exact ancsE_spec ops.toList [] (fun i m hm => by simp at hm) (fun i o ho => by simpa using ho) i m hg j h

theorem hasN_eq (d : Nat) : ∀ l : List Nat, hasN d l = true ↔ d ∈ l
  | [] => by simp [hasN]
  | x :: l => by
    have := hasN_eq d l
    cases h : Nat.beq x d with
    | true => simp [hasN, h, (Nat.eq_of_beq_eq_true h)]
    | false =>
      have hne : d ≠ x := fun e => by subst e; simp at h
      simp [hasN, h, this, hne]

theorem backE_spec {i : Nat} : ∀ {l : List Edge}, backE i l = true → ∀ e ∈ l, Region.binds .any e = true → e.on < i
  | [], _, e, he, _ => by cases he
  | a :: l, h, e, he, hb => by
    simp only [backE, Bool.and_eq_true] at h
    rcases List.mem_cons.1 he with rfl | he
    · have h1 := h.1
      rw [bindsQ_eq, hb, cond_true] at h1
      exact Nat.le_of_ble_eq_true h1
    · exact backE_spec h.2 e he hb
theorem apartE_spec {ops : Array Oper} {A : List Nat} {i d : Nat} : ∀ {l : List Oper} {j0 : Nat}, apartE ops A i d l j0 = true → ∀ (j : Nat) o, l[j]? = some o → i ≠ j0 + j →
    o.dst ≠ some d ∧ (d ∈ o.looksAt ops → tbQ (ogetN (lget A i)) (j0 + j) = true ∨ tbQ (ogetN (lget A (j0 + j))) i = true)
  | [], _, _, j, o, ho, _ => by simp at ho
  | a :: l, j0, h, j, o, ho, hne => by
    simp only [apartE, Bool.and_eq_true] at h
    cases j with
    | zero =>
      simp at ho; subst ho
      have h1 := h.1
      have hb : Nat.beq i j0 = false := by
        cases e : Nat.beq i j0 with
        | false => rfl
        | true => exact absurd (Nat.eq_of_beq_eq_true e) (by simpa using hne)
      rw [hb, cond_false, Bool.and_eq_true] at h1
      refine ⟨fun e => ?_, fun hd => ?_⟩
      · rw [e] at h1; simp at h1
      · have h2 := h1.2
        rw [(hasN_eq d _).2 hd, cond_true, Bool.or_eq_true] at h2
        simpa using h2
    | succ j =>
      have := apartE_spec h.2 j o (by simpa using ho) (by simp only [Nat.succ_eq_add_one]; omega)
      rw [show Nat.succ j0 + j = j0 + (j + 1) by simp only [Nat.succ_eq_add_one]; omega] at this
      exact this
theorem stE_spec {ops : Array Oper} {A : List Nat} : ∀ {l : List Oper} {i0 : Nat}, stE ops A l i0 = true → ∀ (i : Nat) o, l[i]? = some o →
    backE (i0 + i) o.after.toList = true ∧ ∀ d, o.dst = some d → apartE ops A (i0 + i) d ops.toList 0 = true
  | [], _, _, i, o, ho => by simp at ho
  | a :: l, i0, h, i, o, ho => by
    simp only [stE, Bool.and_eq_true] at h
    cases i with
    | zero =>
      simp at ho; subst ho
      exact ⟨h.1.1, fun d hd => by have := h.1.2; rw [hd] at this; exact this⟩
    | succ i =>
      have := stE_spec h.2 i o (by simpa using ho)
      rw [show Nat.succ i0 + i = i0 + (i + 1) by simp only [Nat.succ_eq_add_one]; omega] at this
      exact this

structure StOK (ops : Array Oper) : Prop where
  back : ∀ (i : Nat) o, ops[i]? = some o → ∀ e ∈ o.after, Region.binds .any e = true → e.on < i
  once : ∀ (i j : Nat) o o' d, ops[i]? = some o → ops[j]? = some o' → o.dst = some d → o'.dst = some d → i = j
  read : ∀ (i j : Nat) o o' d, ops[i]? = some o → ops[j]? = some o' → o.dst = some d → d ∈ o'.looksAt ops → i ≠ j → Reach ops i j ∨ Reach ops j i
theorem stOK_spec {ops : Array Oper} (h : stOK ops = true) : StOK ops where
  back := fun i o ho e he hb => by
    have := (stE_spec h i o (by simpa using ho)).1
    rw [Nat.zero_add] at this
    exact backE_spec this e (by simpa using he) hb
  once := fun i j o o' d ho ho' hd hd' => by
    by_cases hij : i = j
    · exact hij
    · have := (stE_spec h i o (by simpa using ho)).2 d hd
      rw [Nat.zero_add] at this
      exact absurd hd' (apartE_spec this j o' (by simpa using ho') (by omega)).1
  read := fun i j o o' d ho ho' hd hl hne => by
    have := (stE_spec h i o (by simpa using ho)).2 d hd
    rw [Nat.zero_add] at this
    have := (apartE_spec this j o' (by simpa using ho') (by omega)).2 hl
    rw [Nat.zero_add] at this
    exact this.imp reach_of reach_of
theorem StOK.lt {ops : Array Oper} (h : StOK ops) {i j : Nat} (r : Reach ops i j) : j < i := by
  induction r with
  | step ho he hb => exact h.back _ _ ho _ he hb
  | trans _ _ h1 h2 => omega

/-! ### The run's records -/
section
variable {P : Program} {self : ESelf} {ops : Array Oper}
theorem drawRun_spec {M : List (Nat × Nat)} : ∀ {l : List Oper} {i : Nat} {f : Frm} {s : St} {R : List DRec}, drawRun P self ops M l i f s = some R →
    R.length = l.length ∧ ∀ (k : Nat) r, R[k]? = some r → r.i = i + k ∧ l[k]? = some r.o ∧ drawStep P self ops (findM r.i M) r.i r.o r.f r.s = some r ∧ r.f = finF f (R.take k) ∧ r.s = lastS s (effs (R.take k))
  | [], i, f, s, R, h => by
    simp only [drawRun] at h
    cases h
    exact ⟨rfl, fun k r hr => by simp at hr⟩
  | o :: l, i, f, s, R, h => by
    simp only [drawRun] at h
    split at h
    · rename_i r hr
      split at h
      · rename_i R' hR
        cases h
        obtain ⟨h1, h2⟩ := drawRun_spec hR
        have hrr : r.i = i ∧ r.o = o ∧ r.f = f ∧ r.s = s := by
          unfold drawStep at hr
          cases hw : wantedE (guardOf ops o) f with
          | false => rw [hw, cond_false] at hr; cases hr; exact ⟨rfl, rfl, rfl, rfl⟩
          | true =>
            rw [hw, cond_true] at hr
            split at hr
            · cases hr; exact ⟨rfl, rfl, rfl, rfl⟩
            · split at hr
              · cases hr
              · split at hr
                · cases hr; exact ⟨rfl, rfl, rfl, rfl⟩
                · cases hr
        obtain ⟨e1, e2, e3, e4⟩ := hrr
        refine ⟨by simp [h1], fun k r' hr' => ?_⟩
        cases k with
        | zero =>
          simp at hr'; subst hr'
          refine ⟨e1, by simp [e2], by rw [e1, e2, e3, e4]; exact hr, by simp [finF, e3], by simp [effs, lastS, e4]⟩
        | succ k =>
          obtain ⟨g1, g2, g3, g4, g5⟩ := h2 k r' (by simpa using hr')
          refine ⟨by rw [g1]; simp only [Nat.succ_eq_add_one]; omega, by simpa using g2, g3, ?_, ?_⟩
          · rw [g4, List.take_succ_cons, finF, e2]
          · rw [g5, List.take_succ_cons, effs]
            cases he : r.eff with
            | none => simp [orS, he]
            | some s' => simp [orS, he, lastS]
      · cases h
    · cases h

theorem drawStep_fields {M : Option Nat} {i : Nat} {o : Oper} {f : Frm} {s : St} {r : DRec} (hr : drawStep P self ops M i o f s = some r) : r.i = i ∧ r.o = o ∧ r.f = f ∧ r.s = s := by
  unfold drawStep at hr
  cases hw : wantedE (guardOf ops o) f with
  | false => rw [hw, cond_false] at hr; cases hr; exact ⟨rfl, rfl, rfl, rfl⟩
  | true =>
    rw [hw, cond_true] at hr
    split at hr
    · cases hr; exact ⟨rfl, rfl, rfl, rfl⟩
    · split at hr
      · cases hr
      · split at hr
        · cases hr; exact ⟨rfl, rfl, rfl, rfl⟩
        · cases hr
theorem drawStep_self {self' : ESelf} {M : Option Nat} {i : Nat} {o : Oper} {f : Frm} {s : St} {r : DRec} (hr : drawStep P self ops M i o f s = some r) (he : r.eff = none) : drawStep P self' ops M i o f s = some r := by
  unfold drawStep at hr ⊢
  cases hw : wantedE (guardOf ops o) f with
  | false => rw [hw, cond_false] at hr; rw [cond_false]; exact hr
  | true =>
    rw [hw, cond_true] at hr
    rw [cond_true]
    split at hr
    · exact hr
    · split at hr
      · cases hr
      · split at hr
        · cases hr; cases he
        · cases hr
/-- the records of a run in which an operation (ip) panics -/
theorem panTail_spec {M : List (Nat × Nat)} {A : List Nat} {ip : Nat} : ∀ {l : List Oper} {i : Nat} {f : Frm} {s : St} {R : List DRec}, panTail P ops M A ip l i f s = some R →
    R.length = l.length ∧ effs R = [] ∧ ∀ (k : Nat) r, R[k]? = some r → r.i = i + k ∧ l[k]? = some r.o ∧ (tbQ (ogetN (lget A r.i)) ip = true ∧ r.q = false ∨ ∀ sf, drawStep P sf ops (findM r.i M) r.i r.o r.f r.s = some r) ∧ r.f = finF f (R.take k) ∧ r.s = s
  | [], i, f, s, R, h => by
    simp only [panTail] at h
    cases h
    exact ⟨rfl, rfl, fun k r hr => by simp at hr⟩
  | o :: l, i, f, s, R, h => by
    simp only [panTail] at h
    cases hd : tbQ (ogetN (lget A i)) ip with
    | true =>
      rw [hd, cond_true] at h
      split at h
      · rename_i R' hR
        cases h
        obtain ⟨h1, h2, h3⟩ := panTail_spec hR
        refine ⟨by simp [h1], by simpa [effs] using h2, fun k r' hr' => ?_⟩
        cases k with
        | zero =>
          simp at hr'; subst hr'
          exact ⟨rfl, rfl, .inl ⟨hd, rfl⟩, rfl, rfl⟩
        | succ k =>
          obtain ⟨g1, g2, g3, g4, g5⟩ := h3 k r' (by simpa using hr')
          refine ⟨by rw [g1]; simp only [Nat.succ_eq_add_one]; omega, by simpa using g2, g3, ?_, g5⟩
          rw [g4, List.take_succ_cons, finF]
      · cases h
    | false =>
      rw [hd, cond_false] at h
      split at h
      · rename_i r hr
        split at h
        · rename_i he
          split at h
          · rename_i R' hR
            cases h
            obtain ⟨e1, e2, e3, e4⟩ := drawStep_fields hr
            obtain ⟨h1, h2, h3⟩ := panTail_spec hR
            refine ⟨by simp [h1], by simp [effs, he, h2], fun k r' hr' => ?_⟩
            cases k with
            | zero =>
              simp at hr'; subst hr'
              refine ⟨e1, by simp [e2], .inr fun sf => by rw [e1, e2, e3, e4]; exact drawStep_self hr he, by simp [finF, e3], e4⟩
            | succ k =>
              obtain ⟨g1, g2, g3, g4, g5⟩ := h3 k r' (by simpa using hr')
              refine ⟨by rw [g1]; simp only [Nat.succ_eq_add_one]; omega, by simpa using g2, g3, ?_, g5⟩
              rw [g4, List.take_succ_cons, finF, e2]
          · cases h
        · cases h
      · cases h
theorem panRun_spec {M : List (Nat × Nat)} {A : List Nat} : ∀ {l : List Oper} {i : Nat} {f : Frm} {s : St} {R : List DRec} {ip : Nat} {v : V} {s' : St}, panRun P self ops M A l i f s = some (R, ip, v, s') →
    R.length = l.length ∧ i ≤ ip ∧ (∃ rp, R[ip - i]? = some rp ∧ rp.q = false ∧ rp.s = lastS s (effs R) ∧ wantedE (guardOf ops rp.o) rp.f = true ∧ opPan self (eop P rp.s (evL (rp.o.looksAt ops) rp.f) rp.o.op) = some (v, s')) ∧
    ∀ (k : Nat) r, R[k]? = some r → r.i = i + k ∧ l[k]? = some r.o ∧ (r.i = ip ∧ r.q = false ∨ tbQ (ogetN (lget A r.i)) ip = true ∧ r.q = false ∨ drawStep P self ops (findM r.i M) r.i r.o r.f r.s = some r) ∧ r.f = finF f (R.take k) ∧ r.s = lastS s (effs (R.take k))
  | [], i, f, s, R, ip, v, s', h => by simp only [panRun] at h; cases h
  | o :: l, i, f, s, R, ip, v, s', h => by
    simp only [panRun] at h
    split at h
    · rename_i r hr
      split at h
      · rename_i R' x hR
        cases h
        obtain ⟨e1, e2, e3, e4⟩ := drawStep_fields hr
        obtain ⟨h1, h2, ⟨rp, a1, a2, a3, a4, a5⟩, h3⟩ := panRun_spec hR
        simp only [Nat.succ_eq_add_one] at h2 a1
        have hl : ∀ E : List (Nat × St), lastS s (match r.eff with | some s1 => (r.i, s1) :: E | none => E) = lastS (orS s r.eff) E := fun E => by cases r.eff <;> rfl
        refine ⟨by simp [h1], by omega, ⟨rp, ?_, a2, ?_, a4, a5⟩, fun k r' hr' => ?_⟩
        · rw [show ip - i = (ip - (i + 1)) + 1 by omega]; simpa using a1
        · rw [a3, effs]; cases he : r.eff <;> simp [orS, lastS]
        · cases k with
          | zero =>
            simp at hr'; subst hr'
            refine ⟨e1, by simp [e2], .inr (.inr (by rw [e1, e2, e3, e4]; exact hr)), by simp [finF, e3], by simp [effs, lastS, e4]⟩
          | succ k =>
            obtain ⟨g1, g2, g3, g4, g5⟩ := h3 k r' (by simpa using hr')
            refine ⟨by rw [g1]; simp only [Nat.succ_eq_add_one]; omega, by simpa using g2, g3, ?_, ?_⟩
            · rw [g4, List.take_succ_cons, finF, e2]
            · rw [g5, List.take_succ_cons, effs]
              cases he : r.eff with
              | none => simp [orS, he]
              | some s1 => simp [orS, he, lastS]
      · cases h
    · cases hw : wantedE (guardOf ops o) f with
      | false => rw [hw, cond_false] at h; cases h
      | true =>
        rw [hw, cond_true] at h
        split at h
        · cases h
        · split at h
          · rename_i v1 s1 hp
            split at h
            · rename_i R' hR
              cases h
              obtain ⟨h1, h2, h3⟩ := panTail_spec hR
              refine ⟨by simp [h1], Nat.le_refl _, ⟨_, by rw [Nat.sub_self]; rfl, rfl, by simp [effs, h2, lastS], hw, hp⟩, fun k r' hr' => ?_⟩
              cases k with
              | zero =>
                simp at hr'; subst hr'
                exact ⟨rfl, rfl, .inl ⟨rfl, rfl⟩, rfl, rfl⟩
              | succ k =>
                obtain ⟨g1, g2, g3, g4, g5⟩ := h3 k r' (by simpa using hr')
                refine ⟨by rw [g1]; simp only [Nat.succ_eq_add_one]; omega, by simpa using g2, .inr (g3.imp id fun g => g self), ?_, ?_⟩
                · rw [g4, List.take_succ_cons, finF]
                · have : effs (R'.take k) = [] := by
                    have : ∀ (R : List DRec) k, effs R = [] → effs (R.take k) = [] := by
                      intro R
                      induction R with
                      | nil => intro k _; simp [effs]
                      | cons a R ih =>
                        intro k hh
                        cases k with
                        | zero => rfl
                        | succ k =>
                          simp only [effs] at hh
                          cases he : a.eff with
                          | none => rw [he] at hh; simp only [List.take_succ_cons, effs, he]; exact ih k hh
                          | some s2 => rw [he] at hh; cases hh
                    exact this R' k h2
                  simp [List.take_succ_cons, effs, this, lastS, g5]
            · cases h
          · cases h
theorem allAfter_spec {m : Nat} : ∀ {l : List (Nat × St)}, allAfter m l = true → ∀ (q : Nat) e, l[q]? = some e → tbQ m e.1 = true
  | [], _, q, e, h => by simp at h
  | a :: l, h, q, e, he => by
    simp only [allAfter, Bool.and_eq_true] at h
    cases q with
    | zero => simp at he; subst he; exact h.1
    | succ q => exact allAfter_spec h.2 q e (by simpa using he)

theorem effs_get : ∀ {R : List DRec} {q : Nat} {e : Nat × St}, (effs R)[q]? = some e → ∃ (k : Nat) (r : DRec), R[k]? = some r ∧ r.eff = some e.2 ∧ r.i = e.1 ∧ effs (R.take k) = (effs R).take q
  | [], q, e, h => by simp [effs] at h
  | r :: R, q, e, h => by
    cases he : r.eff with
    | none =>
      simp only [effs, he] at h ⊢
      obtain ⟨k, r', h1, h2, h3, h4⟩ := effs_get h
      exact ⟨k + 1, r', by simpa using h1, h2, h3, by simp only [List.take_succ_cons, effs, he, h4]⟩
    | some s =>
      simp only [effs, he] at h ⊢
      cases q with
      | zero =>
        simp at h
        exact ⟨0, r, rfl, by rw [← h]; exact he, by rw [← h], by simp [effs]⟩
      | succ q =>
        obtain ⟨k, r', h1, h2, h3, h4⟩ := effs_get (R := R) (by simpa using h)
        exact ⟨k + 1, r', by simpa using h1, h2, h3, by simp only [List.take_succ_cons, effs, he, h4]⟩
theorem effs_of : ∀ {R : List DRec} {k : Nat} {r : DRec} {s : St}, R[k]? = some r → r.eff = some s → ∃ q, (effs R)[q]? = some (r.i, s) ∧ effs (R.take k) = (effs R).take q
  | [], k, r, s, h, _ => by simp at h
  | a :: R, k, r, s, h, hs => by
    cases k with
    | zero =>
      simp at h; subst h
      exact ⟨0, by simp [effs, hs], by simp [effs]⟩
    | succ k =>
      obtain ⟨q, h1, h2⟩ := effs_of (R := R) (by simpa using h) hs
      cases he : a.eff with
      | none => exact ⟨q, by simpa [effs, he] using h1, by simp only [List.take_succ_cons, effs, he, h2]⟩
      | some s' => exact ⟨q + 1, by simpa [effs, he] using h1, by simp only [List.take_succ_cons, effs, he, h2]⟩

theorem beforeE_spec {A : List Nat} {i : Nat} : ∀ {l : List (Nat × St)}, chainE.beforeE A i l = true → ∀ (q : Nat) e, l[q]? = some e → tbQ (ogetN (lget A e.1)) i = true
  | [], _, q, e, h => by simp at h
  | a :: l, h, q, e, he => by
    simp only [chainE.beforeE, Bool.and_eq_true] at h
    cases q with
    | zero => simp at he; subst he; exact h.1
    | succ q => exact beforeE_spec h.2 q e (by simpa using he)
theorem chainE_spec {A : List Nat} : ∀ {l : List (Nat × St)}, chainE A l = true → ∀ (q q' : Nat) e e', q < q' → l[q]? = some e → l[q']? = some e' → tbQ (ogetN (lget A e'.1)) e.1 = true
  | [], _, q, q', e, e', _, h, _ => by simp at h
  | a :: l, h, q, q', e, e', hq, he, he' => by
    simp only [chainE, Bool.and_eq_true] at h
    cases q' with
    | zero => omega
    | succ q' =>
      cases q with
      | zero => simp at he; subst he; exact beforeE_spec h.1 q' e' (by simpa using he')
      | succ q => exact chainE_spec h.2 q q' e e' (by omega) (by simpa using he) (by simpa using he')

theorem anyB_false {m : Nat} : ∀ {l : List (Nat × St)}, (∀ e ∈ l, tbQ m e.1 = false) → anyB m l = false
  | [], _ => rfl
  | e :: l, h => by rw [anyB, h e List.mem_cons_self, cond_false]; exact anyB_false fun e he => h e (List.mem_cons_of_mem _ he)

theorem chkE_spec {A : List Nat} {r : DRec} : ∀ {E : List (Nat × St)} {s : St}, chkE P ops A r s E = true → ∀ p, p ≤ E.length →
    (∀ q e, q < p → E[q]? = some e → tbQ (ogetN (lget A e.1)) r.i = false) → (∀ q e, p ≤ q → E[q]? = some e → tbQ (ogetN (lget A r.i)) e.1 = false) →
    qopM P r.mb (lastS s (E.take p)) (evL (r.o.looksAt ops) r.f) r.o.op = some r.v
  | [], s, h, p, hp, _, _ => by
    have hp : p = 0 := by simpa using hp
    subst hp
    simp only [chkE] at h
    split at h
    · rename_i v hv
      rw [← V.same_eq _ _ h]
      exact hv
    · cases h
  | e :: l, s, h, p, hp, h1, h2 => by
    simp only [chkE, Bool.and_eq_true] at h
    cases p with
    | zero =>
      have h3 := h.1
      rw [anyB_false (fun e' he' => by
        obtain ⟨q, hq⟩ := List.getElem?_of_mem he'
        exact h2 q e' (Nat.zero_le _) hq), cond_false] at h3
      split at h3
      · rename_i v hv
        rw [← V.same_eq _ _ h3]
        exact hv
      · cases h3
    | succ p =>
      have h4 := h.2
      rw [h1 0 e (by omega) rfl, cond_false] at h4
      exact chkE_spec h4 p (by simpa using hp) (fun q e' hq he' => h1 (q + 1) e' (by omega) (by simpa using he')) (fun q e' hq he' => h2 (q + 1) e' (by omega) (by simpa using he'))
theorem chkAll_spec {A : List Nat} {s : St} {E : List (Nat × St)} : ∀ {R : List DRec}, chkAll P ops A s E R = true → ∀ r ∈ R, r.q = true → chkE P ops A r s E = true
  | [], _, r, hr, _ => by cases hr
  | a :: l, h, r, hr, hq => by
    simp only [chkAll, Bool.and_eq_true] at h
    rcases List.mem_cons.1 hr with rfl | hr
    · have := h.1; rw [hq, cond_true] at this; exact this
    · exact chkAll_spec h.2 r hr hq
end

/-! ### What is named ahead -/
structure PreOK (s s1 : St) (M : List (Nat × Nat)) : Prop where
  old : ∀ b, b < s.next → s1.heap.get b = s.heap.get b
  le : s.next ≤ s1.next
  new : ∀ i b, findM i M = some b → s.next ≤ b ∧ b < s1.next
  one : ∀ i j b, findM i M = some b → findM j M = some b → i = j
theorem preRun_ok {P : Program} {ops : Array Oper} {s0 : St} : ∀ (l : List Oper) (i : Nat) (f : Frm) (s : St) (D : Nat) (M : List (Nat × Nat)), PreOK s0 s M → PreOK s0 (preRun P ops l i f s D M).1 (preRun P ops l i f s D M).2
  | [], _, _, _, _, _, h => h
  | o :: l, i, f, s, D, M, h => by
    unfold preRun
    cases doneAll D o.after.toList with
    | false => exact preRun_ok l _ _ _ _ _ h
    | true =>
      rw [cond_true]
      cases wantedE (guardOf ops o) f with
      | false => exact preRun_ok l _ _ _ _ _ h
      | true =>
        rw [cond_true]
        split
        · exact preRun_ok l _ _ _ _ _ h
        · split
          · rename_i m _
            refine preRun_ok l _ _ _ _ _ ⟨fun b hb => ?_, Nat.le_trans h.le (Nat.le_succ _), fun k b hk => ?_, fun k k' b hk hk' => ?_⟩
            · have := h.le
              simp only [St.new, T.get_set]
              rw [if_neg (by omega)]
              exact h.old b hb
            · have e : (s.new m.obj).next = s.next + 1 := rfl
              rw [e]
              simp only [findM] at hk
              cases hb : Nat.beq i k with
              | true => rw [hb, cond_true] at hk; cases hk; exact ⟨h.le, Nat.lt_succ_self _⟩
              | false =>
                rw [hb, cond_false] at hk
                have := h.new k b hk
                exact ⟨this.1, by omega⟩
            · simp only [findM] at hk hk'
              cases hb : Nat.beq i k with
              | true =>
                rw [hb, cond_true] at hk; cases hk
                cases hb' : Nat.beq i k' with
                | true => rw [← Nat.eq_of_beq_eq_true hb, ← Nat.eq_of_beq_eq_true hb']
                | false =>
                  rw [hb', cond_false] at hk'
                  exact absurd (h.new k' _ hk').2 (Nat.lt_irrefl _)
              | false =>
                rw [hb, cond_false] at hk
                cases hb' : Nat.beq i k' with
                | true =>
                  rw [hb', cond_true] at hk'; cases hk'
                  exact absurd (h.new k _ hk).2 (Nat.lt_irrefl _)
                | false =>
                  rw [hb', cond_false] at hk'
                  exact h.one k k' b hk hk'
          · exact preRun_ok l _ _ _ _ _ h
theorem preM_ok {P : Program} {ops : Array Oper} {f : Frm} {s s1 : St} {M : List (Nat × Nat)} (h : preM P ops f s = (s1, M)) : PreOK s s1 M := by
  unfold preM at h
  have base : PreOK s s [] := ⟨fun _ _ => rfl, Nat.le_refl _, fun i b h => (by cases h), fun i j b h => (by cases h)⟩
  cases hc : chainE (ancsE ops.toList []) (effIdx ops.toList 0) with
  | true => rw [hc, cond_true] at h; cases h; exact base
  | false =>
    rw [hc, cond_false] at h
    have := preRun_ok (P := P) (ops := ops) ops.toList 0 f s 0 [] base
    rw [h] at this
    exact this

/-! ### Frames -/
def Frm.ok (f : Frm) : Prop := ∃ d, f.t.full d ∧ f.n ≤ 2 ^ d
theorem FRel.ok {ρ : Env} {f : Frm} {A : Array Value} (h : FRel ρ f A) : f.ok := by obtain ⟨_, d, h2, h3, _⟩ := h; exact ⟨d, h2, h3⟩
theorem putE_n (f : Frm) (d : Option Tmp) (v : V) : (putE f d v).n = f.n := by
  cases d with
  | none => rfl
  | some k => rw [putE_some]; cases Nat.blt k f.n <;> rfl
theorem putE_ok {f : Frm} (h : f.ok) (d : Option Tmp) (v : V) : (putE f d v).ok := by
  cases d with
  | none => exact h
  | some k =>
    obtain ⟨d, h2, h3⟩ := h
    rw [putE_some]
    cases Nat.blt k f.n with
    | false => exact ⟨d, h2, h3⟩
    | true => exact ⟨d, B.set_full _ _ _ _ h2, h3⟩
/-- what is read of a slot in which v was put -/
def gv (n t : Nat) (v : V) : V := if t < n then v else .undef
theorem get_putE {f : Frm} (h : f.ok) (k : Nat) (v : V) (t : Nat) : (putE f (some k) v).get t = if t = k then gv f.n t v else f.get t := by
  obtain ⟨d, h2, h3⟩ := h
  rw [putE_some, blt_iff]
  by_cases hk : k < f.n
  · rw [decide_eq_true hk, cond_true, Frm.get_eq, Frm.get_eq, blt_iff]
    show (bif decide (t < f.n) then (B.set v f.t k).get t else .undef) = _
    by_cases ht : t < f.n
    · rw [decide_eq_true ht, cond_true, cond_true, B.get_set v f.t d k t h2 (by omega) (by omega)]
      by_cases e : t = k
      · subst e; simp [gv, hk]
      · simp [e]
    · rw [decide_eq_false ht, cond_false, cond_false]
      by_cases e : t = k
      · subst e; exact absurd hk ht
      · simp [e]
  · rw [decide_eq_false hk, cond_false]
    by_cases e : t = k
    · subst e; rw [if_pos rfl, gv, if_neg hk, Frm.get_eq, blt_iff, decide_eq_false hk]; rfl
    · simp [e]
theorem get_putE_ne {f : Frm} (h : f.ok) {d : Option Tmp} (v : V) {t : Nat} (hd : d ≠ some t) : (putE f d v).get t = f.get t := by
  cases d with
  | none => rfl
  | some k => rw [get_putE h, if_neg (fun e => hd (by rw [e]))]

theorem finF_n : ∀ (R : List DRec) (f : Frm), (finF f R).n = f.n
  | [], _ => rfl
  | r :: R, f => by rw [finF, finF_n, putE_n]
theorem finF_ok : ∀ (R : List DRec) {f : Frm}, f.ok → (finF f R).ok
  | [], _, h => h
  | r :: R, f, h => by rw [finF]; exact finF_ok R (putE_ok h _ _)
theorem finF_none {t : Nat} : ∀ {R : List DRec} {f : Frm}, f.ok → (∀ r ∈ R, r.o.dst ≠ some t) → (finF f R).get t = f.get t
  | [], _, _, _ => rfl
  | r :: R, f, h, hr => by
    rw [finF, finF_none (putE_ok h _ _) fun r hr' => hr r (List.mem_cons_of_mem _ hr'), get_putE_ne h _ (hr r List.mem_cons_self)]
theorem finF_some {t : Nat} : ∀ {R : List DRec} {f : Frm} {k : Nat} {r : DRec}, f.ok → R[k]? = some r → r.o.dst = some t → (∀ (k' : Nat) r', R[k']? = some r' → r'.o.dst = some t → k' = k) → (finF f R).get t = gv f.n t r.v
  | [], _, _, _, _, h, _, _ => by simp at h
  | a :: R, f, k, r, h, hr, hd, hu => by
    cases k with
    | zero =>
      simp at hr; subst hr
      rw [finF, finF_none (putE_ok h _ _), hd, get_putE h, if_pos rfl]
      intro r' hr' e
      obtain ⟨q, hq⟩ := List.getElem?_of_mem hr'
      have := hu (q + 1) r' (by simpa using hq) e
      omega
    | succ k =>
      rw [finF, finF_some (putE_ok h _ _) (by simpa using hr) hd fun k' r' h1 h2 => by have := hu (k' + 1) r' (by simpa using h1) h2; omega, putE_n]
theorem anyF_n : ∀ (l : List Oper) (f : Frm), (anyF f l).n = f.n
  | [], _ => rfl
  | o :: l, f => by rw [anyF, anyF_n, putE_n]
theorem anyF_ok : ∀ (l : List Oper) {f : Frm}, f.ok → (anyF f l).ok
  | [], _, h => h
  | o :: l, f, h => by rw [anyF]; exact anyF_ok l (putE_ok h _ _)
theorem anyF_get {t : Nat} : ∀ (l : List Oper) {f : Frm}, f.ok → t < f.n → ((∃ o ∈ l, o.dst = some t) → (anyF f l).get t = .any) ∧ (f.get t = .any → (anyF f l).get t = .any) ∧ ((∀ o ∈ l, o.dst ≠ some t) → (anyF f l).get t = f.get t)
  | [], f, h, ht => ⟨fun ⟨_, h, _⟩ => (by cases h), fun h => h, fun _ => rfl⟩
  | o :: l, f, h, ht => by
    obtain ⟨i1, i2, i3⟩ := anyF_get (t := t) l (putE_ok h o.dst .any) (by rw [putE_n]; exact ht)
    have hput : o.dst = some t → (putE f o.dst .any).get t = .any := fun e => by rw [e, get_putE h, if_pos rfl, gv, if_pos ht]
    refine ⟨fun ⟨o', ho', he⟩ => ?_, fun hf => ?_, fun hn => ?_⟩
    · rw [anyF]
      rcases List.mem_cons.1 ho' with rfl | ho'
      · exact i2 (hput he)
      · exact i1 ⟨o', ho', he⟩
    · rw [anyF]
      by_cases e : o.dst = some t
      · exact i2 (hput e)
      · exact i2 (by rw [get_putE_ne h _ e]; exact hf)
    · rw [anyF, i3 fun o' ho' => hn o' (List.mem_cons_of_mem _ ho'), get_putE_ne h _ (hn o List.mem_cons_self)]
end Go.Eng
