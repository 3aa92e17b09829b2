/-
  Numbers' bytes, the shortest that serve: they rise as the numbers do, none begins another one's; and what is read back. Plain numbers and lists; no program. No condition but 64 bits.
-/
import Derived.WalkKit
namespace Go.Wire

/-- a number's lowest k bytes, the highest first -/
def be : Nat → Nat → List UInt8
  | 0, _ => []
  | k + 1, n => be k (n / 256) ++ [UInt8.ofNat (n % 256)]
theorem be_length : ∀ k n, (be k n).length = k
  | 0, _ => rfl
  | k + 1, n => by simp [be, be_length k]
/-- how many bytes a number takes -/
def sz (n : Nat) : Nat := if h : n = 0 then 0 else sz (n / 256) + 1
termination_by n
decreasing_by omega
theorem sz_zero : sz 0 = 0 := by unfold sz; simp
theorem sz_pos {n : Nat} (h : n ≠ 0) : sz n = sz (n / 256) + 1 := by rw [sz]; simp [h]
theorem sz_lt : ∀ n, n < 256 ^ sz n := by
  intro n
  induction n using Nat.strongRecOn with
  | _ n ih =>
    by_cases h : n = 0
    · subst h; simp [sz_zero]
    · rw [sz_pos h, Nat.pow_succ]
      have := ih (n / 256) (by omega)
      omega
theorem sz_ge : ∀ n, n ≠ 0 → 256 ^ (sz n - 1) ≤ n := by
  intro n
  induction n using Nat.strongRecOn with
  | _ n ih =>
    intro h
    rw [sz_pos h, Nat.add_sub_cancel]
    by_cases h0 : n / 256 = 0
    · rw [h0, sz_zero]; simp; omega
    · have h1 := ih (n / 256) (by omega) h0
      have h2 : sz (n / 256) = (sz (n / 256) - 1) + 1 := by rw [sz_pos h0]; rfl
      rw [h2, Nat.pow_succ]
      exact Nat.le_trans (Nat.mul_le_mul_right 256 h1) (Nat.div_mul_le_self n 256)
theorem pow_mono {a b : Nat} (h : a ≤ b) : 256 ^ a ≤ 256 ^ b := Nat.pow_le_pow_right (by omega) h
theorem sz_le {n k : Nat} (h : n < 256 ^ k) : sz n ≤ k := by
  by_cases h0 : n = 0
  · subst h0; rw [sz_zero]; omega
  · rcases Nat.lt_or_ge k (sz n) with hk | hk
    · have h1 := sz_ge n h0
      have h2 := pow_mono (show k ≤ sz n - 1 by omega)
      exact absurd (Nat.lt_of_le_of_lt (Nat.le_trans h2 h1) h) (Nat.lt_irrefl _)
    · exact hk
theorem sz_mono {a b : Nat} (h : a ≤ b) : sz a ≤ sz b := sz_le (Nat.lt_of_le_of_lt h (sz_lt b))
theorem sz_is {n k : Nat} (h1 : 256 ^ k ≤ n) (h2 : n < 256 ^ (k + 1)) : sz n = k + 1 := by
  have := sz_le h2
  rcases Nat.lt_or_ge (sz n) (k + 1) with h | h
  · have := pow_mono (show sz n ≤ k by omega)
    have := sz_lt n
    omega
  · omega

/-- a number's bytes -/
def enc (n : Nat) : List UInt8 := if n < 248 then [UInt8.ofNat n] else UInt8.ofNat (247 + sz n) :: be (sz n) n

/-! ### Order -/
theorem less_snoc : ∀ (x y : List UInt8) (c d : UInt8), x.length = y.length → Op.bytesLess (x ++ [c]) (y ++ [d]) = (Op.bytesLess x y || (x == y && decide (c < d)))
  | [], [], c, d, _ => by simp [Op.bytesLess]
  | a :: x, b :: y, c, d, h => by
    have ih := less_snoc x y c d (by simpa using h)
    simp only [List.cons_append, Op.bytesLess, ih]
    by_cases h1 : a < b
    · simp [h1]
    · by_cases h2 : a = b
      · subst h2; simp [h1]
      · have h3 : (a == b) = false := by rw [beq_eq_false_iff_ne]; exact h2
        simp [h1, h3]
theorem be_inj : ∀ (k a b : Nat), a < 256 ^ k → b < 256 ^ k → be k a = be k b → a = b
  | 0, a, b, ha, hb, _ => by simp at ha hb; omega
  | k + 1, a, b, ha, hb, h => by
    rw [Nat.pow_succ] at ha hb
    have h1 := List.append_inj' h rfl
    have h2 := be_inj k (a / 256) (b / 256) (by omega) (by omega) h1.1
    have h3 : (UInt8.ofNat (a % 256)).toNat = (UInt8.ofNat (b % 256)).toNat := by rw [List.cons.inj h1.2 |>.1]
    simp at h3
    omega
theorem be_less : ∀ (k a b : Nat), a < 256 ^ k → b < 256 ^ k → Op.bytesLess (be k a) (be k b) = decide (a < b)
  | 0, a, b, ha, hb => by simp at ha hb; simp [be, Op.bytesLess, ha, hb]
  | k + 1, a, b, ha, hb => by
    rw [Nat.pow_succ] at ha hb
    have ih := be_less k (a / 256) (b / 256) (by omega) (by omega)
    have he : (be k (a / 256) == be k (b / 256)) = decide (a / 256 = b / 256) := by
      rw [Bool.eq_iff_iff, beq_iff_eq, decide_eq_true_eq]
      exact ⟨be_inj k _ _ (by omega) (by omega), fun h => by rw [h]⟩
    have hc : (UInt8.ofNat (a % 256) < UInt8.ofNat (b % 256)) = (a % 256 < b % 256) := by
      simp [UInt8.lt_iff_toNat_lt]
    rw [be, be, less_snoc _ _ _ _ (by rw [be_length, be_length]), ih, he, Bool.eq_iff_iff]
    simp only [Bool.or_eq_true, Bool.and_eq_true, decide_eq_true_eq, hc]
    omega
theorem sz_8 {n : Nat} (h : n < 2 ^ 64) : sz n ≤ 8 := sz_le (by simpa using h)
theorem lt_byte (a b : Nat) (ha : a < 256) (hb : b < 256) : (UInt8.ofNat a < UInt8.ofNat b) ↔ a < b := by
  rw [UInt8.lt_iff_toNat_lt]
  simp [Nat.mod_eq_of_lt ha, Nat.mod_eq_of_lt hb]
theorem eq_byte (a b : Nat) (ha : a < 256) (hb : b < 256) : (UInt8.ofNat a = UInt8.ofNat b) ↔ a = b := by
  constructor
  · intro h
    have := congrArg UInt8.toNat h
    simpa [Nat.mod_eq_of_lt ha, Nat.mod_eq_of_lt hb] using this
  · rintro rfl; rfl
theorem sz_one {n : Nat} (h : 248 ≤ n) : 1 ≤ sz n := by rw [sz_pos (by omega)]; omega
/-- the bytes rise as the numbers do -/
theorem enc_less {a b : Nat} (ha : a < 2 ^ 64) (hb : b < 2 ^ 64) : Op.bytesLess (enc a) (enc b) = decide (a < b) := by
  have h8a := sz_8 ha
  have h8b := sz_8 hb
  rw [Bool.eq_iff_iff, decide_eq_true_eq]
  unfold enc
  split <;> split <;> rename_i h1 h2 <;> simp only [Op.bytesLess, Bool.or_eq_true, Bool.and_eq_true, decide_eq_true_eq, beq_iff_eq]
  · rw [lt_byte _ _ (by omega) (by omega)]; simp
  · have := sz_one (Nat.le_of_not_lt h2)
    rw [lt_byte _ _ (by omega) (by omega)]
    constructor
    · intro _; omega
    · intro _; left; omega
  · have := sz_one (Nat.le_of_not_lt h1)
    rw [lt_byte _ _ (by omega) (by omega), eq_byte _ _ (by omega) (by omega)]
    constructor
    · rintro (h | ⟨h, _⟩) <;> omega
    · intro _; omega
  · rw [lt_byte _ _ (by omega) (by omega), eq_byte _ _ (by omega) (by omega)]
    rcases Nat.lt_trichotomy (sz a) (sz b) with h | h | h
    · constructor
      · intro _
        rcases Nat.lt_or_ge a b with h' | h'
        · exact h'
        · have := sz_mono h'; omega
      · intro _; left; omega
    · have hl := be_less (sz b) a b (by rw [← h]; exact sz_lt a) (sz_lt b)
      rw [h, hl, decide_eq_true_eq]
      constructor
      · rintro (h' | ⟨_, h'⟩)
        · omega
        · exact h'
      · intro h'; exact .inr ⟨rfl, h'⟩
    · constructor
      · rintro (h' | ⟨h', _⟩) <;> omega
      · intro h'
        have := sz_mono (Nat.le_of_lt h'); omega
theorem enc_length {n : Nat} (h : n < 2 ^ 64) : 1 ≤ (enc n).length ∧ (enc n).length ≤ 9 := by
  have := sz_8 h
  unfold enc
  split
  · simp
  · simp [be_length]; omega
/-- none begins another one's -/
theorem enc_prefix {a b : Nat} (ha : a < 2 ^ 64) (hb : b < 2 ^ 64) (r : List UInt8) (h : enc b = enc a ++ r) : a = b := by
  have h8a := sz_8 ha
  have h8b := sz_8 hb
  unfold enc at h
  split at h <;> split at h <;> rename_i h1 h2
  · have := (List.cons.inj h).1
    rw [eq_byte _ _ (by omega) (by omega)] at this
    omega
  · have h0 := (List.cons.inj h).1
    have := sz_one (Nat.le_of_not_lt h2)
    rw [eq_byte _ _ (by omega) (by omega)] at h0
    omega
  · have h0 := (List.cons.inj h).1
    have := sz_one (Nat.le_of_not_lt h1)
    rw [eq_byte _ _ (by omega) (by omega)] at h0
    omega
  · have h3 := (List.cons.inj h).1
    rw [eq_byte _ _ (by omega) (by omega)] at h3
    have h4 : be (sz b) b = be (sz a) a ++ r := (List.cons.inj h).2
    have h5 : sz a = sz b := by omega
    have h6 : r = [] := by
      have := congrArg List.length h4
      simp only [be_length, List.length_append] at this
      exact List.length_eq_zero_iff.1 (by omega)
    rw [h6, List.append_nil, h5] at h4
    exact (be_inj (sz b) b a (sz_lt b) (by rw [← h5]; exact sz_lt a) h4).symm
theorem enc_inj {a b : Nat} (ha : a < 2 ^ 64) (hb : b < 2 ^ 64) : enc a = enc b ↔ a = b :=
  ⟨fun h => enc_prefix ha hb [] (by rw [List.append_nil, h]), fun h => by rw [h]⟩

/-! ### Reading -/
def val (l : List UInt8) : Nat := l.foldl (fun n b => n * 256 + b.toNat) 0
theorem val_snoc (l : List UInt8) (b : UInt8) : val (l ++ [b]) = val l * 256 + b.toNat := by simp [val]
theorem snocRec {P : List UInt8 → Prop} (h0 : P []) (h1 : ∀ l b, P l → P (l ++ [b])) (l : List UInt8) : P l := by
  have h : ∀ m : List UInt8, P m.reverse := fun m => by
    induction m with
    | nil => exact h0
    | cons b m ih => rw [List.reverse_cons]; exact h1 _ _ ih
  simpa using h l.reverse
theorem be_snoc_val (l : List UInt8) : ∀ k, l.length = k → be k (val l) = l ∧ val l < 256 ^ k := by
  refine snocRec (P := fun l => ∀ k, l.length = k → be k (val l) = l ∧ val l < 256 ^ k) ?_ ?_ l
  · intro k h; subst h; exact ⟨rfl, by simp [val]⟩
  · intro l b ih k h
    simp at h
    subst h
    obtain ⟨h1, h2⟩ := ih l.length rfl
    have hb : b.toNat < 256 := UInt8.toNat_lt b
    rw [val_snoc, Nat.pow_succ]
    refine ⟨?_, by omega⟩
    rw [be, show (val l * 256 + b.toNat) / 256 = val l by omega, show (val l * 256 + b.toNat) % 256 = b.toNat by omega, h1]
    simp
theorem val_cons_ge (c : UInt8) (hc : c ≠ 0) (l : List UInt8) : 256 ^ l.length ≤ val (c :: l) := by
  refine snocRec (P := fun l => 256 ^ l.length ≤ val (c :: l)) ?_ ?_ l
  · have : c.toNat ≠ 0 := fun h => hc (by rw [← UInt8.toNat_inj, h]; rfl)
    simp [val]; omega
  · intro l b ih
    rw [← List.cons_append, val_snoc, List.length_append, List.length_singleton, Nat.pow_succ]
    omega
/-- bytes that are read as a number are those that it would have -/
theorem read_back (c : UInt8) (l : List UInt8) (hc : c ≠ 0) (h : 248 ≤ val (c :: l)) : enc (val (c :: l)) = UInt8.ofNat (247 + (l.length + 1)) :: c :: l := by
  have h1 := be_snoc_val (c :: l) (l.length + 1) rfl
  have h2 := sz_is (val_cons_ge c hc l) h1.2
  rw [enc, if_neg (by omega), h2, h1.1]
/-- the number that bytes begin with, and what stands behind it -/
def readNum : List UInt8 → Option (Nat × List UInt8)
  | [] => none
  | c :: t => if c.toNat < 248 then some (c.toNat, t) else if t.length < c.toNat - 247 then none else
      if enc (val (t.take (c.toNat - 247))) = c :: t.take (c.toNat - 247) then some (val (t.take (c.toNat - 247)), t.drop (c.toNat - 247)) else none
/-- .. with the reader's word: the number, is it not well, what is left -/
def numP (l : List UInt8) : Nat × Bool × List UInt8 := match readNum l with
  | some (n, r) => (n, false, r)
  | none => (0, true, [])
theorem numP_nil : numP [] = (0, true, []) := rfl
theorem numP_small (c : UInt8) (t : List UInt8) (h : c.toNat < 248) : numP (c :: t) = (c.toNat, false, t) := by simp [numP, readNum, h]
theorem numP_short (c : UInt8) (t : List UInt8) (h : ¬ c.toNat < 248) (hk : t.length < c.toNat - 247) : numP (c :: t) = (0, true, []) := by
  rw [numP, readNum, if_neg h, if_pos hk]
/-- a number whose first byte is none, or that would have fewer bytes, is none -/
theorem enc_ne_zero (c : UInt8) (l : List UInt8) (_h : ¬ c.toNat < 248) (hl : (0 : UInt8) :: l ≠ []) : enc (val (0 :: l)) ≠ c :: 0 :: l := by
  intro he
  have hv : val (0 :: l) = val l := by simp [val]
  have h1 := (be_snoc_val l l.length rfl).2
  have h2 := sz_le h1
  rw [hv] at he
  unfold enc at he
  split at he
  · have := congrArg List.length he; simp at this
  · have := congrArg List.length he; simp [be_length] at this; omega
theorem enc_ne_small (c : UInt8) (l : List UInt8) (hl : l ≠ []) (hv : val l < 248) : enc (val l) ≠ c :: l := by
  intro he
  rw [enc, if_pos hv] at he
  have : 1 = l.length + 1 := congrArg List.length he
  exact hl (List.length_eq_zero_iff.1 (by omega))
theorem numP_zero (c : UInt8) (t : List UInt8) (h : ¬ c.toNat < 248) (h0 : t.head? = some 0) : numP (c :: t) = (0, true, []) := by
  cases t with
  | nil => simp at h0
  | cons x t =>
    have hx : x = 0 := by simpa using h0
    subst hx
    rw [numP, readNum, if_neg h]
    by_cases hs : ((0 : UInt8) :: t).length < c.toNat - 247
    · rw [if_pos hs]
    · obtain ⟨k, hk⟩ : ∃ k, c.toNat - 247 = k + 1 := ⟨c.toNat - 248, by omega⟩
      rw [if_neg hs, hk, List.take_succ_cons, if_neg (enc_ne_zero c _ h (by simp))]
theorem numP_low (c : UInt8) (t : List UInt8) (h : ¬ c.toNat < 248) (hk : ¬ t.length < c.toNat - 247) (hv : val (t.take (c.toNat - 247)) < 248) : numP (c :: t) = (0, true, []) := by
  rw [numP, readNum, if_neg h, if_neg hk, if_neg]
  refine enc_ne_small c _ ?_ hv
  intro h1
  have : min (c.toNat - 247) t.length = 0 := by rw [← List.length_take, h1]; rfl
  omega
theorem numP_good (c : UInt8) (t : List UInt8) (h : ¬ c.toNat < 248) (hk : ¬ t.length < c.toNat - 247) (h0 : t.head? ≠ some 0) (hv : 248 ≤ val (t.take (c.toNat - 247))) :
    numP (c :: t) = (val (t.take (c.toNat - 247)), false, t.drop (c.toNat - 247)) := by
  have he : enc (val (t.take (c.toNat - 247))) = c :: t.take (c.toNat - 247) := by
    cases t with
    | nil => simp at hk; omega
    | cons x t =>
      have hx : x ≠ 0 := by simpa using h0
      obtain ⟨k, hk'⟩ : ∃ k, c.toNat - 247 = k + 1 := ⟨c.toNat - 248, by omega⟩
      rw [hk'] at hv ⊢
      rw [List.take_succ_cons] at hv ⊢
      rw [read_back x (t.take k) hx hv]
      have h3 : (t.take k).length = k := by rw [List.length_take]; simp at hk; omega
      have h4 : UInt8.ofNat (247 + (k + 1)) = c := by
        rw [← UInt8.toNat_inj]
        have := UInt8.toNat_lt c
        simp
        omega
      rw [h3, h4]
  rw [numP, readNum, if_neg h, if_neg hk, if_pos he]
theorem numP_cases (c : UInt8) (t : List UInt8) : (c.toNat < 248 ∧ numP (c :: t) = (c.toNat, false, t)) ∨ numP (c :: t) = (0, true, []) ∨
    (¬ c.toNat < 248 ∧ ¬ t.length < c.toNat - 247 ∧ enc (val (t.take (c.toNat - 247))) = c :: t.take (c.toNat - 247) ∧ numP (c :: t) = (val (t.take (c.toNat - 247)), false, t.drop (c.toNat - 247))) := by
  by_cases h : c.toNat < 248
  · exact .inl ⟨h, numP_small c t h⟩
  · by_cases hk : t.length < c.toNat - 247
    · exact .inr (.inl (numP_short c t h hk))
    · by_cases he : enc (val (t.take (c.toNat - 247))) = c :: t.take (c.toNat - 247)
      · exact .inr (.inr ⟨h, hk, he, by rw [numP, readNum, if_neg h, if_neg hk, if_pos he]⟩)
      · exact .inr (.inl (by rw [numP, readNum, if_neg h, if_neg hk, if_neg he]))
/-- what is read is of 64 bits -/
theorem numP_lt : ∀ l : List UInt8, (numP l).1 < 18446744073709551616
  | [] => by rw [numP_nil]; show 0 < _; omega
  | c :: t => by
    have hc := UInt8.toNat_lt c
    rcases numP_cases c t with ⟨h, e⟩ | e | ⟨h, hk, he, e⟩
    · rw [e]; show c.toNat < _; omega
    · rw [e]; show 0 < _; omega
    · rw [e]
      have h1 := (be_snoc_val (t.take (c.toNat - 247)) (c.toNat - 247) (by rw [List.length_take]; omega)).2
      have h2 := pow_mono (show c.toNat - 247 ≤ 8 by omega)
      have h3 : 256 ^ 8 = 18446744073709551616 := by simp
      rw [h3] at h2
      dsimp only
      exact Nat.lt_of_lt_of_le h1 h2
/-- what is left is not longer -/
theorem numP_left : ∀ l : List UInt8, (numP l).2.2.length ≤ l.length
  | [] => by rw [numP_nil]; exact Nat.le_refl _
  | c :: t => by
    rcases numP_cases c t with ⟨h, e⟩ | e | ⟨h, hk, he, e⟩
    · rw [e]; show t.length ≤ t.length + 1; omega
    · rw [e]; exact Nat.zero_le _
    · rw [e]; dsimp only; rw [List.length_drop, List.length_cons]; omega
theorem numP_bad : ∀ l : List UInt8, (numP l).2.1 = true → numP l = (0, true, [])
  | [], _ => rfl
  | c :: t, h => by
    rcases numP_cases c t with ⟨_, e⟩ | e | ⟨_, _, _, e⟩
    · rw [e] at h; cases h
    · exact e
    · rw [e] at h; cases h
/-- bytes that are taken are those that the number has -/
theorem numP_enc : ∀ l : List UInt8, (numP l).2.1 = false → l = enc (numP l).1 ++ (numP l).2.2
  | [], h => by cases h
  | c :: t, h => by
    rcases numP_cases c t with ⟨h8, e⟩ | e | ⟨h8, hk, he, e⟩
    · rw [e]
      show c :: t = enc c.toNat ++ t
      rw [enc, if_pos h8]
      simp
    · rw [e] at h; cases h
    · rw [e]
      dsimp only
      rw [he, List.cons_append, List.take_append_drop]
end Go.Wire
