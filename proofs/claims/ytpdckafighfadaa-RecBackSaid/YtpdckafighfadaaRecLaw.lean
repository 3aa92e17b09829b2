/-
  Fixed rows of bytes rise as their numbers do. Plain; no program in sight.
-/
import Derived.Test.YtpdckafighfadaaSymV
namespace Go.Proofs.Ytpdckafighfadaa
open Go.Sym

def valU : List UInt8 → Nat
  | [] => 0
  | a :: x => a.toNat * 256 ^ x.length + valU x
theorem valU_lt : ∀ l : List UInt8, valU l < 256 ^ l.length
  | [] => by simp [valU]
  | a :: x => by
    have h := valU_lt x
    have ha : a.toNat ≤ 255 := by have := a.toNat_lt; omega
    rw [valU, List.length_cons, Nat.pow_succ]
    have : a.toNat * 256 ^ x.length ≤ 255 * 256 ^ x.length := Nat.mul_le_mul_right _ ha
    omega
theorem less_val : ∀ l m : List UInt8, l.length = m.length → (Op.bytesLess l m = true ↔ valU l < valU m)
  | [], [], _ => by simp [Op.bytesLess, valU]
  | [], _ :: _, h => by simp at h
  | _ :: _, [], h => by simp at h
  | a :: x, b :: y, h => by
    have hl : x.length = y.length := by simpa using h
    have ih := less_val x y hl
    have hx := valU_lt x
    have hy := valU_lt y
    rw [valU, valU, hl]
    rw [hl] at hx
    have h3 : a < b ∧ ¬ b < a ∧ a ≠ b ∧ a.toNat + 1 ≤ b.toNat ∨ a = b ∨ b < a ∧ ¬ a < b ∧ a ≠ b ∧ b.toNat + 1 ≤ a.toNat := by
      simp only [UInt8.lt_iff_toNat_lt, ← UInt8.toNat_inj, ne_eq]
      omega
    rcases h3 with ⟨h1, h2, h3, h4⟩ | h1 | ⟨h1, h2, h3, h4⟩
    · have : (a.toNat + 1) * 256 ^ y.length ≤ b.toNat * 256 ^ y.length := Nat.mul_le_mul_right _ h4
      rw [Nat.add_mul, Nat.one_mul] at this
      rw [Op.bytesLess]
      simp [h1]
      omega
    · subst h1
      have h2 : ¬ a < a := by rw [UInt8.lt_iff_toNat_lt]; omega
      rw [Op.bytesLess]
      simp [h2, ih]
    · have : (b.toNat + 1) * 256 ^ y.length ≤ a.toNat * 256 ^ y.length := Nat.mul_le_mul_right _ h4
      rw [Nat.add_mul, Nat.one_mul] at this
      rw [Op.bytesLess]
      simp [h1, h2, h3]
      omega
theorem eq_val : ∀ l m : List UInt8, l.length = m.length → (l = m ↔ valU l = valU m)
  | [], [], _ => by simp
  | [], _ :: _, h => by simp at h
  | _ :: _, [], h => by simp at h
  | a :: x, b :: y, h => by
    have hl : x.length = y.length := by simpa using h
    refine ⟨fun h => by rw [h], fun he => ?_⟩
    have hx := valU_lt x
    have hy := valU_lt y
    rw [valU, valU, hl] at he
    rw [hl] at hx
    have hab : a.toNat = b.toNat := by
      rcases Nat.lt_trichotomy a.toNat b.toNat with h1 | h1 | h1
      · have : (a.toNat + 1) * 256 ^ y.length ≤ b.toNat * 256 ^ y.length := Nat.mul_le_mul_right _ h1
        rw [Nat.add_mul, Nat.one_mul] at this
        omega
      · exact h1
      · have : (b.toNat + 1) * 256 ^ y.length ≤ a.toNat * 256 ^ y.length := Nat.mul_le_mul_right _ h1
        rw [Nat.add_mul, Nat.one_mul] at this
        omega
    rw [hab] at he
    have := (eq_val x y hl).2 (by omega)
    rw [this, UInt8.toNat_inj.1 hab]
theorem valU_snoc : ∀ (l : List UInt8) (b : UInt8), valU (l ++ [b]) = valU l * 256 + b.toNat
  | [], b => by simp [valU]
  | a :: x, b => by
    rw [List.cons_append, valU, valU, valU_snoc x b, List.length_append, List.length_singleton, Nat.pow_succ, Nat.add_mul]
    have : a.toNat * (256 ^ x.length * 256) = a.toNat * 256 ^ x.length * 256 := by rw [Nat.mul_assoc]
    omega
/-- so many bytes of a number, the highest first -/
def be : Nat → Nat → List UInt8
  | 0, _ => []
  | n + 1, m => be n (m / 256) ++ [UInt8.ofNat (m % 256)]
theorem be_len : ∀ n m, (be n m).length = n
  | 0, _ => rfl
  | n + 1, m => by rw [be, List.length_append, be_len n]; rfl
theorem be_val : ∀ n m, m < 256 ^ n → valU (be n m) = m
  | 0, m, h => by simp at h; subst h; rfl
  | n + 1, m, h => by
    rw [Nat.pow_succ] at h
    rw [be, valU_snoc, be_val n (m / 256) (by omega)]
    have : (UInt8.ofNat (m % 256)).toNat = m % 256 := by simp
    rw [this]
    omega
theorem valU_app (l : List UInt8) : ∀ m : List UInt8, valU (l ++ m) = valU l * 256 ^ m.length + valU m := by
  induction l with
  | nil => intro m; simp [valU]
  | cons a x ih =>
    intro m
    rw [List.cons_append, valU, valU, ih m, List.length_append, Nat.pow_add, Nat.add_mul]
    have : a.toNat * (256 ^ x.length * 256 ^ m.length) = a.toNat * 256 ^ x.length * 256 ^ m.length := by rw [Nat.mul_assoc]
    omega
/-- a revision's bytes -/
noncomputable def keyB : Int → Int → ByteArray := hide fun m n => ⟨(be 8 m.toNat ++ be 8 n.toNat).toArray⟩
theorem keyB_eq (m n : Int) : keyB m n = ⟨(be 8 m.toNat ++ be 8 n.toNat).toArray⟩ := by rw [keyB, hide_eq]
theorem keyB_list (m n : Int) : (keyB m n).data.toList = be 8 m.toNat ++ be 8 n.toNat := by rw [keyB_eq]
theorem keyB_size (m n : Int) : (keyB m n).size = 16 := by
  rw [keyB_eq]
  show (be 8 m.toNat ++ be 8 n.toNat).toArray.size = 16
  rw [List.size_toArray, List.length_append, be_len, be_len]
/-- eight bytes as a number -/
noncomputable def spV : ByteArray → Nat → Int := hide fun s o => ((valU ((s.data.toList.drop o).take 8) : Nat) : Int)
theorem spV_eq (s : ByteArray) (o : Nat) : spV s o = ((valU ((s.data.toList.drop o).take 8) : Nat) : Int) := by rw [spV, hide_eq]
theorem spV_0 (m n : Int) (h : 0 ≤ m ∧ m < 18446744073709551616) : spV (keyB m n) 0 = m := by
  rw [spV_eq, keyB_list, List.drop_zero, List.take_append_of_le_length (by rw [be_len]; exact Nat.le_refl _), List.take_of_length_le (by rw [be_len]; exact Nat.le_refl _), be_val 8 _ (by omega)]
  omega
theorem spV_8 (m n : Int) (h : 0 ≤ n ∧ n < 18446744073709551616) : spV (keyB m n) 8 = n := by
  rw [spV_eq, keyB_list, List.drop_left' (be_len 8 _), List.take_of_length_le (by rw [be_len]; exact Nat.le_refl _), be_val 8 _ (by omega)]
  omega
theorem keyB_val (m n : Int) (h : 0 ≤ m ∧ m < 18446744073709551616) (h' : 0 ≤ n ∧ n < 18446744073709551616) : valU (be 8 m.toNat ++ be 8 n.toNat) = m.toNat * 18446744073709551616 + n.toNat := by
  rw [valU_app, be_len, be_val 8 _ (by omega), be_val 8 _ (by omega)]
theorem keyB_lt (a b c d : Int) (ha : 0 ≤ a ∧ a < 18446744073709551616) (hb : 0 ≤ b ∧ b < 18446744073709551616) (hc : 0 ≤ c ∧ c < 18446744073709551616) (hd : 0 ≤ d ∧ d < 18446744073709551616) :
    sLt (keyB a b) (keyB c d) = decide (a < c ∨ a = c ∧ b < d) := by
  unfold sLt
  rw [keyB_list, keyB_list, Bool.eq_iff_iff, less_val _ _ (by simp [be_len]), keyB_val a b ha hb, keyB_val c d hc hd, decide_eq_true_eq]
  omega
theorem keyB_sEq (a b c d : Int) (ha : 0 ≤ a ∧ a < 18446744073709551616) (hb : 0 ≤ b ∧ b < 18446744073709551616) (hc : 0 ≤ c ∧ c < 18446744073709551616) (hd : 0 ≤ d ∧ d < 18446744073709551616) :
    sEq (keyB a b) (keyB c d) = decide (a = c ∧ b = d) := by
  have h : keyB a b = keyB c d ↔ (keyB a b).data.toList = (keyB c d).data.toList := ⟨fun h => by rw [h], ba_ext⟩
  unfold sEq
  rw [decide_eq_decide, h, keyB_list, keyB_list, eq_val _ _ (by simp [be_len]), keyB_val a b ha hb, keyB_val c d hc hd]
  omega

/-! ### bytes of numbers, as the evaluator says them -/
def byV (m : Int) (k : Nat) : Int := IntKind.u8.wrap (m.fdiv (2 ^ k))
theorem byV_eq (m : Int) (k : Nat) (h : 0 ≤ m) : UInt8.ofNat (byV m k).toNat = UInt8.ofNat (m.toNat / 2 ^ k % 256) := by
  obtain ⟨q, rfl⟩ := Int.eq_ofNat_of_zero_le h
  have e : ((q : Int).fdiv (2 ^ k)) = ((q / 2 ^ k : Nat) : Int) := by
    rw [Int.fdiv_eq_ediv_of_nonneg _ (Int.pow_nonneg (by decide))]
    simp
  have h2 : byV (q : Int) k = ((q / 2 ^ k % 256 : Nat) : Int) := by
    unfold byV
    rw [e]
    simp [IntKind.wrap, IntKind.bits, IntKind.signed]
  rw [h2, Int.toNat_natCast, Int.toNat_natCast]
theorem be8 (m : Nat) : be 8 m = [UInt8.ofNat (m / 2 ^ 56 % 256), UInt8.ofNat (m / 2 ^ 48 % 256), UInt8.ofNat (m / 2 ^ 40 % 256), UInt8.ofNat (m / 2 ^ 32 % 256), UInt8.ofNat (m / 2 ^ 24 % 256), UInt8.ofNat (m / 2 ^ 16 % 256), UInt8.ofNat (m / 2 ^ 8 % 256), UInt8.ofNat (m / 2 ^ 0 % 256)] := by
  simp only [be, Nat.div_div_eq_div_mul, List.nil_append, List.cons_append, Nat.reduceMul, Nat.reducePow, Nat.div_one]
theorem strOf_key (m n : Int) (hm : 0 ≤ m) (hn : 0 ≤ n) : strOf [byV m 56, byV m 48, byV m 40, byV m 32, byV m 24, byV m 16, byV m 8, byV m 0, byV n 56, byV n 48, byV n 40, byV n 32, byV n 24, byV n 16, byV n 8, byV n 0] = keyB m n := by
  rw [keyB_eq, be8, be8]
  simp only [strOf, List.map, byV_eq m _ hm, byV_eq n _ hn]
  rfl
def stV (x b : Int) : Int := IntKind.u64.wrap (Int.ofNat ((ofI .u64 (IntKind.u64.wrap (x * 2 ^ min (Int.toNat 8) IntKind.u64.bits))).lor (ofI .u64 (IntKind.u64.wrap b))))
theorem stV_eq (x b : Nat) (hx : x < 2 ^ 56) (hb : b < 256) : stV x b = ((x * 256 + b : Nat) : Int) := by
  have e1 : IntKind.u64.wrap ((x : Int) * 2 ^ min (Int.toNat 8) IntKind.u64.bits) = ((x * 256 : Nat) : Int) := by
    rw [show ((x : Int) * 2 ^ min (Int.toNat 8) IntKind.u64.bits) = ((x * 256 : Nat) : Int) by rw [Int.natCast_mul]; rfl]
    exact wrap_u64 (by omega) (by omega)
  have e2 : IntKind.u64.wrap (b : Int) = (b : Int) := wrap_u64 (by omega) (by omega)
  have e3 : ∀ q : Nat, q < 2 ^ 64 → ofI .u64 (q : Int) = q := fun q hq => by
    have h : ((ofI .u64 (q : Int) : Nat) : Int) = (q : Int) % ((kM .u64 : Nat) : Int) := modN_eq (kM .u64) (by decide) q
    have hk : ((kM .u64 : Nat) : Int) = 18446744073709551616 := rfl
    rw [hk] at h
    omega
  unfold stV
  rw [e1, e2, e3 _ (by omega), e3 _ (by omega)]
  have e4 : Nat.lor (x * 256) b = x * 256 + b := by
    have := Nat.two_pow_add_eq_or_of_lt (i := 8) (b := b) (by omega) x
    rw [Nat.mul_comm x 256]
    exact this.symm
  rw [e4]
  exact wrap_u64 (by simp only [Int.ofNat_eq_natCast]; omega) (by simp only [Int.ofNat_eq_natCast]; omega)
def spS (s : ByteArray) (o : Nat) : Nat → Int
  | 0 => 0
  | k + 1 => stV (spS s o k) (bAt s (o + k))
theorem spS_eq (s : ByteArray) (o : Nat) : ∀ k, k ≤ 8 → o + k ≤ s.data.toList.length → spS s o k = ((valU ((s.data.toList.drop o).take k) : Nat) : Int)
  | 0, _, _ => by simp [spS, valU]
  | k + 1, h, h2 => by
    have ih := spS_eq s o k (by omega) (by omega)
    have hlt : o + k < s.data.toList.length := by omega
    have e : (s.data.toList.drop o).take (k + 1) = (s.data.toList.drop o).take k ++ [s.data.toList[o + k]] := by
      rw [List.take_succ_eq_append_getElem (by rw [List.length_drop]; omega), List.getElem_drop]
    have hv := valU_lt ((s.data.toList.drop o).take k)
    have hl : ((s.data.toList.drop o).take k).length = k := by rw [List.length_take, List.length_drop]; omega
    rw [hl] at hv
    have hp : (256 : Nat) ^ k ≤ 256 ^ 7 := Nat.pow_le_pow_right (by decide) (by omega)
    have hb : bAt s (o + k) = ((s.data.toList[o + k].toNat : Nat) : Int) := by
      unfold bAt
      rw [List.getD_eq_getElem?_getD, List.getElem?_eq_getElem hlt]
      rfl
    have h256 := s.data.toList[o + k].toNat_lt
    rw [spS, ih, hb, stV_eq _ _ (by omega) (by omega), e, valU_snoc]
theorem spS_8 (s : ByteArray) (o : Nat) (h : o + 8 ≤ s.size) : spS s o 8 = spV s o := by
  rw [spV_eq]
  exact spS_eq s o 8 (Nat.le_refl _) (by rw [Array.length_toList]; exact h)
end Go.Proofs.Ytpdckafighfadaa
