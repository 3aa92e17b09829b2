/-
  The sums, as numbers: eight bits at a time through the table come to the same as bit by bit. Plain numbers; no program. No condition.
-/
import Derived.KernelRfl
namespace Go.Crc

def poly : Nat := 0x82f63b78
/-- one bit of the register goes out -/
def out (r : Nat) : Nat := (r / 2) ^^^ (if r % 2 = 1 then poly else 0)
def out8 (r : Nat) : Nat := out (out (out (out (out (out (out (out r)))))))

theorem xor_div2 (a b : Nat) : (a ^^^ b) / 2 = (a / 2) ^^^ (b / 2) := Nat.xor_div_two
theorem xor_mod2 (a b : Nat) : (a ^^^ b) % 2 = (a + b) % 2 := by
  have h : (a ^^^ b) % 2 = (a % 2) ^^^ (b % 2) := Nat.xor_mod_two_pow (n := 1)
  rw [h]
  rcases Nat.mod_two_eq_zero_or_one a with ha | ha <;> rcases Nat.mod_two_eq_zero_or_one b with hb | hb <;> rw [ha, hb]
  · show 0 = _; omega
  · show 1 = _; omega
  · show 1 = _; omega
  · show 0 = _; omega
theorem out_xor (a b : Nat) : out (a ^^^ b) = out a ^^^ out b := by
  unfold out
  rw [xor_div2]
  have h := xor_mod2 a b
  rcases Nat.mod_two_eq_zero_or_one a with ha | ha <;> rcases Nat.mod_two_eq_zero_or_one b with hb | hb
  · rw [if_neg (by omega), if_neg (by omega), if_neg (by omega)]; simp
  · rw [if_pos (by omega), if_neg (by omega), if_pos (by omega)]; simp [Nat.xor_assoc]
  · rw [if_pos (by omega), if_pos (by omega), if_neg (by omega)]
    simp only [Nat.xor_zero]
    rw [Nat.xor_assoc, Nat.xor_assoc, Nat.xor_comm (b / 2) poly]
  · rw [if_neg (by omega), if_pos (by omega), if_pos (by omega), Nat.xor_zero]
    rw [Nat.xor_assoc, Nat.xor_comm poly, Nat.xor_assoc (b / 2), Nat.xor_self, Nat.xor_zero]
theorem out8_xor (a b : Nat) : out8 (a ^^^ b) = out8 a ^^^ out8 b := by simp only [out8, out_xor]
theorem out_even (z : Nat) : out (2 * z) = z := by
  unfold out
  rw [if_neg (by omega), Nat.xor_zero]
  omega
theorem out8_high (y : Nat) : out8 (256 * y) = y := by
  have e : 256 * y = 2 * (2 * (2 * (2 * (2 * (2 * (2 * (2 * y))))))) := by omega
  rw [e]
  simp only [out8, out_even]
theorem split (x : Nat) : x = (256 * (x / 256)) ^^^ (x % 256) := by
  have h1 : x % 256 < 2 ^ 8 := Nat.mod_lt _ (by decide)
  have h2 := Nat.two_pow_add_eq_or_of_lt h1 (x / 256)
  have h3 : (256 * (x / 256)) ^^^ (x % 256) = 2 ^ 8 * (x / 256) ||| x % 256 := by
    apply Nat.eq_of_testBit_eq
    intro i
    rw [Nat.testBit_xor, Nat.testBit_or]
    rw [show 256 * (x / 256) = 2 ^ 8 * (x / 256) from rfl]
    rw [Nat.testBit_two_pow_mul]
    by_cases hi : 8 ≤ i
    · have : (x % 256).testBit i = false := Nat.testBit_lt_two_pow (Nat.lt_of_lt_of_le h1 (Nat.pow_le_pow_right (by decide) hi))
      simp [this]
    · simp [hi]
  rw [h3, ← h2]
  omega
/-- eight bits at a time -/
theorem out8_split (x : Nat) : out8 x = (x / 256) ^^^ out8 (x % 256) := by
  conv => lhs; rw [split x]
  rw [out8_xor, out8_high]

/-- a bit of a byte against the register, as the document has it -/
def bitIn (r : Nat) (odd : Bool) : Nat := (r / 2) ^^^ (if odd then poly else 0)
def bitOf (b k : Nat) : Nat := b / 2 ^ k % 2
def stepB (b : Nat) (r k : Nat) : Nat := bitIn r (r % 2 != bitOf b k)
def byteB (r b : Nat) : Nat := [0, 1, 2, 3, 4, 5, 6, 7].foldl (stepB b) r
theorem stepB_out (r b k : Nat) : stepB b r k ^^^ (b / 2 ^ (k + 1)) = out (r ^^^ (b / 2 ^ k)) := by
  have h0 : b / 2 ^ (k + 1) = b / 2 ^ k / 2 := by rw [Nat.pow_succ, Nat.div_div_eq_div_mul]
  unfold stepB bitIn out bitOf
  rw [h0, xor_div2]
  generalize b / 2 ^ k = c
  have h := xor_mod2 r c
  have hb : (r % 2 != c % 2) = true ↔ (r ^^^ c) % 2 = 1 := by
    rw [h, bne_iff_ne]
    omega
  by_cases hc : (r ^^^ c) % 2 = 1
  · rw [if_pos hc, if_pos (hb.2 hc), Nat.xor_assoc, Nat.xor_comm poly, ← Nat.xor_assoc]
  · have : ¬ (r % 2 != c % 2) = true := fun e => hc (hb.1 e)
    rw [if_neg hc, if_neg this]
    simp
theorem byteB_out8 (r b : Nat) (hb : b < 256) : byteB r b = out8 (r ^^^ b) := by
  have e : ∀ r k, out (r ^^^ (b / 2 ^ k)) = stepB b r k ^^^ (b / 2 ^ (k + 1)) := fun r k => (stepB_out r b k).symm
  have z : b / 2 ^ 8 = 0 := Nat.div_eq_of_lt hb
  unfold out8
  rw [show r ^^^ b = r ^^^ (b / 2 ^ 0) by simp, e, e, e, e, e, e, e, e, z, Nat.xor_zero]
  rfl
/-- a byte through the table -/
def byteT (r b : Nat) : Nat := (r / 256) ^^^ out8 ((r % 256) ^^^ b)
theorem byteT_eq (r b : Nat) (hb : b < 256) : byteT r b = byteB r b := by
  rw [byteB_out8 r b hb, out8_split]
  have h1 : (r ^^^ b) / 256 = r / 256 := by
    rw [show (256 : Nat) = 2 ^ 8 from rfl, Nat.xor_div_two_pow, Nat.div_eq_of_lt (show b < 2 ^ 8 from hb), Nat.xor_zero]
  have h2 : (r ^^^ b) % 256 = (r % 256) ^^^ b := by
    rw [show (256 : Nat) = 2 ^ 8 from rfl, Nat.xor_mod_two_pow, Nat.mod_eq_of_lt (show b < 2 ^ 8 from hb)]
  rw [h1, h2, byteT]
theorem out_lt {r : Nat} (h : r < 4294967296) : out r < 4294967296 := by
  unfold out
  refine Nat.xor_lt_two_pow (n := 32) (show r / 2 < 2 ^ 32 by omega) ?_
  split
  · decide
  · decide
theorem out8_lt {r : Nat} (h : r < 4294967296) : out8 r < 4294967296 := by
  unfold out8
  exact out_lt (out_lt (out_lt (out_lt (out_lt (out_lt (out_lt (out_lt h)))))))
theorem byteT_lt {r b : Nat} (h : r < 4294967296) (hb : b < 256) : byteT r b < 4294967296 := by
  unfold byteT
  have h1 : (r % 256) ^^^ b < 2 ^ 8 := Nat.xor_lt_two_pow (Nat.mod_lt _ (by decide)) hb
  refine Nat.xor_lt_two_pow (n := 32) (show r / 256 < 2 ^ 32 by omega) (out8_lt (by omega))
end Go.Crc
