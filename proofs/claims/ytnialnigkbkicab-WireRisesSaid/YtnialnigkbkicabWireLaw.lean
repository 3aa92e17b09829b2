/-
  Numbers' bytes, the shortest that serve: they rise as the numbers do, none begins another one's; and what is read back. Plain numbers and lists; no program. No condition but 64 bits.
-/
import Derived.WalkKit
namespace Go.Wire

/-- a number's lowest k bytes, the highest first -/
def be : Nat → Nat → List UInt8
  | 0, _ => []
  | k + 1, n => be k (n / 256) ++ [UInt8.ofNat (n % 256)]
theorem be_length : ∀ k n, (be k n).length = k
  | 0, _ => rfl
  | k + 1, n => by simp [be, be_length k]
/-- how many bytes a number takes -/
def sz (n : Nat) : Nat := if h : n = 0 then 0 else sz (n / 256) + 1
termination_by n
decreasing_by omega
theorem sz_zero : sz 0 = 0 := by unfold sz; simp
theorem sz_pos {n : Nat} (h : n ≠ 0) : sz n = sz (n / 256) + 1 := by rw [sz]; simp [h]
theorem sz_lt : ∀ n, n < 256 ^ sz n := by
  intro n
  induction n using Nat.strongRecOn with
  | _ n ih =>
    by_cases h : n = 0
    · subst h; simp [sz_zero]
    · rw [sz_pos h, Nat.pow_succ]
      have := ih (n / 256) (by omega)
      omega
theorem sz_ge : ∀ n, n ≠ 0 → 256 ^ (sz n - 1) ≤ n := by
  intro n
  induction n using Nat.strongRecOn with
  | _ n ih =>
    intro h
    rw [sz_pos h, Nat.add_sub_cancel]
    by_cases h0 : n / 256 = 0
    · rw [h0, sz_zero]; simp; omega
    · have h1 := ih (n / 256) (by omega) h0
      have h2 : sz (n / 256) = (sz (n / 256) - 1) + 1 := by rw [sz_pos h0]; rfl
      rw [h2, Nat.pow_succ]
      exact Nat.le_trans (Nat.mul_le_mul_right 256 h1) (Nat.div_mul_le_self n 256)
theorem pow_mono {a b : Nat} (h : a ≤ b) : 256 ^ a ≤ 256 ^ b := Nat.pow_le_pow_right (by omega) h
theorem sz_le {n k : Nat} (h : n < 256 ^ k) : sz n ≤ k := by
  by_cases h0 : n = 0
  · subst h0; rw [sz_zero]; omega
  · rcases Nat.lt_or_ge k (sz n) with hk | hk
    · have h1 := sz_ge n h0
      have h2 := pow_mono (show k ≤ sz n - 1 by omega)
      exact absurd (Nat.lt_of_le_of_lt (Nat.le_trans h2 h1) h) (Nat.lt_irrefl _)
    · exact hk
theorem sz_mono {a b : Nat} (h : a ≤ b) : sz a ≤ sz b := sz_le (Nat.lt_of_le_of_lt h (sz_lt b))
theorem sz_is {n k : Nat} (h1 : 256 ^ k ≤ n) (h2 : n < 256 ^ (k + 1)) : sz n = k + 1 := by
  have := sz_le h2
  rcases Nat.lt_or_ge (sz n) (k + 1) with h | h
  · have := pow_mono (show sz n ≤ k by omega)
    have := sz_lt n
    omega
  · omega

/-- a number's bytes -/
def enc (n : Nat) : List UInt8 := if n < 248 then [UInt8.ofNat n] else UInt8.ofNat (247 + sz n) :: be (sz n) n

/-! ### Order -/
theorem less_snoc : ∀ (x y : List UInt8) (c d : UInt8), x.length = y.length → Op.bytesLess (x ++ [c]) (y ++ [d]) = (Op.bytesLess x y || (x == y && decide (c < d)))
  | [], [], c, d, _ => by simp [Op.bytesLess]
  | a :: x, b :: y, c, d, h => by
    have ih := less_snoc x y c d (by simpa using h)
    simp only [List.cons_append, Op.bytesLess, ih]
    by_cases h1 : a < b
    · simp [h1]
    · by_cases h2 : a = b
      · subst h2; simp [h1]
      · have h3 : (a == b) = false := by rw [beq_eq_false_iff_ne]; exact h2
        simp [h1, h3]
theorem be_inj : ∀ (k a b : Nat), a < 256 ^ k → b < 256 ^ k → be k a = be k b → a = b
  | 0, a, b, ha, hb, _ => by simp at ha hb; omega
  | k + 1, a, b, ha, hb, h => by
    rw [Nat.pow_succ] at ha hb
    have h1 := List.append_inj' h rfl
    have h2 := be_inj k (a / 256) (b / 256) (by omega) (by omega) h1.1
    have h3 : (UInt8.ofNat (a % 256)).toNat = (UInt8.ofNat (b % 256)).toNat := by rw [List.cons.inj h1.2 |>.1]
    simp at h3
    omega
theorem be_less : ∀ (k a b : Nat), a < 256 ^ k → b < 256 ^ k → Op.bytesLess (be k a) (be k b) = decide (a < b)
  | 0, a, b, ha, hb => by simp at ha hb; simp [be, Op.bytesLess, ha, hb]
  | k + 1, a, b, ha, hb => by
    rw [Nat.pow_succ] at ha hb
    have ih := be_less k (a / 256) (b / 256) (by omega) (by omega)
    have he : (be k (a / 256) == be k (b / 256)) = decide (a / 256 = b / 256) := by
      rw [Bool.eq_iff_iff, beq_iff_eq, decide_eq_true_eq]
      exact ⟨be_inj k _ _ (by omega) (by omega), fun h => by rw [h]⟩
    have hc : (UInt8.ofNat (a % 256) < UInt8.ofNat (b % 256)) = (a % 256 < b % 256) := by
      simp [UInt8.lt_iff_toNat_lt]
    rw [be, be, less_snoc _ _ _ _ (by rw [be_length, be_length]), ih, he, Bool.eq_iff_iff]
    simp only [Bool.or_eq_true, Bool.and_eq_true, decide_eq_true_eq, hc]
    omega
theorem sz_8 {n : Nat} (h : n < 2 ^ 64) : sz n ≤ 8 := sz_le (by simpa using h)
theorem lt_byte (a b : Nat) (ha : a < 256) (hb : b < 256) : (UInt8.ofNat a < UInt8.ofNat b) ↔ a < b := by
  rw [UInt8.lt_iff_toNat_lt]
  simp [Nat.mod_eq_of_lt ha, Nat.mod_eq_of_lt hb]
theorem eq_byte (a b : Nat) (ha : a < 256) (hb : b < 256) : (UInt8.ofNat a = UInt8.ofNat b) ↔ a = b := by
  constructor
  · intro h
    have := congrArg UInt8.toNat h
    simpa [Nat.mod_eq_of_lt ha, Nat.mod_eq_of_lt hb] using this
  · rintro rfl; rfl
theorem sz_one {n : Nat} (h : 248 ≤ n) : 1 ≤ sz n := by rw [sz_pos (by omega)]; omega
/-- the bytes rise as the numbers do -/
theorem enc_less {a b : Nat} (ha : a < 2 ^ 64) (hb : b < 2 ^ 64) : Op.bytesLess (enc a) (enc b) = decide (a < b) := by
  have h8a := sz_8 ha
  have h8b := sz_8 hb
  rw [Bool.eq_iff_iff, decide_eq_true_eq]
  unfold enc
  split <;> split <;> rename_i h1 h2 <;> simp only [Op.bytesLess, Bool.or_eq_true, Bool.and_eq_true, decide_eq_true_eq, beq_iff_eq]
  · rw [lt_byte _ _ (by omega) (by omega)]; simp
  · have := sz_one (Nat.le_of_not_lt h2)
    rw [lt_byte _ _ (by omega) (by omega)]
    constructor
    · intro _; omega
    · intro _; left; omega
  · have := sz_one (Nat.le_of_not_lt h1)
    rw [lt_byte _ _ (by omega) (by omega), eq_byte _ _ (by omega) (by omega)]
    constructor
    · rintro (h | ⟨h, _⟩) <;> omega
    · intro _; omega
  · rw [lt_byte _ _ (by omega) (by omega), eq_byte _ _ (by omega) (by omega)]
    rcases Nat.lt_trichotomy (sz a) (sz b) with h | h | h
    · constructor
      · intro _
        rcases Nat.lt_or_ge a b with h' | h'
        · exact h'
        · have := sz_mono h'; omega
      · intro _; left; omega
    · have hl := be_less (sz b) a b (by rw [← h]; exact sz_lt a) (sz_lt b)
      rw [h, hl, decide_eq_true_eq]
      constructor
      · rintro (h' | ⟨_, h'⟩)
        · omega
        · exact h'
      · intro h'; exact .inr ⟨rfl, h'⟩
    · constructor
      · rintro (h' | ⟨h', _⟩) <;> omega
      · intro h'
        have := sz_mono (Nat.le_of_lt h'); omega
theorem enc_length {n : Nat} (h : n < 2 ^ 64) : 1 ≤ (enc n).length ∧ (enc n).length ≤ 9 := by
  have := sz_8 h
  unfold enc
  split
  · simp
  · simp [be_length]; omega
/-- none begins another one's -/
theorem enc_prefix {a b : Nat} (ha : a < 2 ^ 64) (hb : b < 2 ^ 64) (r : List UInt8) (h : enc b = enc a ++ r) : a = b := by
  have h8a := sz_8 ha
  have h8b := sz_8 hb
  unfold enc at h
  split at h <;> split at h <;> rename_i h1 h2
  · have := (List.cons.inj h).1
    rw [eq_byte _ _ (by omega) (by omega)] at this
    omega
  · have h0 := (List.cons.inj h).1
    have := sz_one (Nat.le_of_not_lt h2)
    rw [eq_byte _ _ (by omega) (by omega)] at h0
    omega
  · have h0 := (List.cons.inj h).1
    have := sz_one (Nat.le_of_not_lt h1)
    rw [eq_byte _ _ (by omega) (by omega)] at h0
    omega
  · have h3 := (List.cons.inj h).1
    rw [eq_byte _ _ (by omega) (by omega)] at h3
    have h4 : be (sz b) b = be (sz a) a ++ r := (List.cons.inj h).2
    have h5 : sz a = sz b := by omega
    have h6 : r = [] := by
      have := congrArg List.length h4
      simp only [be_length, List.length_append] at this
      exact List.length_eq_zero_iff.1 (by omega)
    rw [h6, List.append_nil, h5] at h4
    exact (be_inj (sz b) b a (sz_lt b) (by rw [← h5]; exact sz_lt a) h4).symm
theorem enc_inj {a b : Nat} (ha : a < 2 ^ 64) (hb : b < 2 ^ 64) : enc a = enc b ↔ a = b :=
  ⟨fun h => enc_prefix ha hb [] (by rw [List.append_nil, h]), fun h => by rw [h]⟩

/-! ### Reading -/
def val (l : List UInt8) : Nat := l.foldl (fun n b => n * 256 + b.toNat) 0
theorem val_snoc (l : List UInt8) (b : UInt8) : val (l ++ [b]) = val l * 256 + b.toNat := by simp [val]
theorem snocRec {P : List UInt8 → Prop} (h0 : P []) (h1 : ∀ l b, P l → P (l ++ [b])) (l : List UInt8) : P l := by
  have h : ∀ m : List UInt8, P m.reverse := fun m => by
    induction m with
    | nil => exact h0
    | cons b m ih => rw [List.reverse_cons]; exact h1 _ _ ih
  simpa using h l.reverse
theorem be_snoc_val (l : List UInt8) : ∀ k, l.length = k → be k (val l) = l ∧ val l < 256 ^ k := by
  refine snocRec (P := fun l => ∀ k, l.length = k → be k (val l) = l ∧ val l < 256 ^ k) ?_ ?_ l
  · intro k h; subst h; exact ⟨rfl, by simp [val]⟩
  · intro l b ih k h
    simp at h
    subst h
    obtain ⟨h1, h2⟩ := ih l.length rfl
    have hb : b.toNat < 256 := UInt8.toNat_lt b
    rw [val_snoc, Nat.pow_succ]
    refine ⟨?_, by omega⟩
    rw [be, show (val l * 256 + b.toNat) / 256 = val l by omega, show (val l * 256 + b.toNat) % 256 = b.toNat by omega, h1]
    simp
theorem val_cons_ge (c : UInt8) (hc : c ≠ 0) (l : List UInt8) : 256 ^ l.length ≤ val (c :: l) := by
  refine snocRec (P := fun l => 256 ^ l.length ≤ val (c :: l)) ?_ ?_ l
  · have : c.toNat ≠ 0 := fun h => hc (by rw [← UInt8.toNat_inj, h]; rfl)
    simp [val]; omega
  · intro l b ih
    rw [← List.cons_append, val_snoc, List.length_append, List.length_singleton, Nat.pow_succ]
    omega
/-- bytes that are read as a number are those that it would have -/
theorem read_back (c : UInt8) (l : List UInt8) (hc : c ≠ 0) (h : 248 ≤ val (c :: l)) : enc (val (c :: l)) = UInt8.ofNat (247 + (l.length + 1)) :: c :: l := by
  have h1 := be_snoc_val (c :: l) (l.length + 1) rfl
  have h2 := sz_is (val_cons_ge c hc l) h1.2
  rw [enc, if_neg (by omega), h2, h1.1]
end Go.Wire
