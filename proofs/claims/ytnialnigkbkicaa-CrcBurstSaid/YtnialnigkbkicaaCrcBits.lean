/-
  The sums, bit by bit: linear, and no burst of up to 32 bits is nothing to them. Plain numbers and lists; no program. No condition.
-/
import Derived.Test.YtnialnigkbkicaaCrcLaw
namespace Go.Crc

/-- bits, one behind the other, go into a register -/
def feed (r : Nat) (l : List Nat) : Nat := l.foldl (fun r b => out (r ^^^ b)) r
theorem feed_append (r : Nat) (l m : List Nat) : feed r (l ++ m) = feed (feed r l) m := by simp [feed]
theorem feed_cons (r b : Nat) (l : List Nat) : feed r (b :: l) = feed (out (r ^^^ b)) l := rfl
theorem out_lt32 {r : Nat} (h : r < 4294967296) : out r < 4294967296 := out_lt h
theorem feed_lt : ∀ (l : List Nat) {r : Nat}, r < 4294967296 → (∀ b ∈ l, b < 2) → feed r l < 4294967296
  | [], _, h, _ => h
  | b :: l, r, h, hb => by
    rw [feed_cons]
    refine feed_lt l (out_lt (Nat.xor_lt_two_pow (n := 32) h ?_)) fun c hc => hb c (List.mem_cons_of_mem _ hc)
    have := hb b List.mem_cons_self
    exact Nat.lt_of_lt_of_le this (by decide)
/-- bit by bit: one turned against the other -/
theorem feed_xor : ∀ (l m : List Nat) (r s : Nat), l.length = m.length → feed (r ^^^ s) (l.zipWith (· ^^^ ·) m) = feed r l ^^^ feed s m
  | [], [], r, s, _ => rfl
  | [], _ :: _, _, _, h => by simp at h
  | _ :: _, [], _, _, h => by simp at h
  | a :: l, b :: m, r, s, h => by
    rw [List.zipWith_cons_cons, feed_cons, feed_cons, feed_cons]
    have e : (r ^^^ s) ^^^ (a ^^^ b) = (r ^^^ a) ^^^ (s ^^^ b) := by
      rw [Nat.xor_assoc, ← Nat.xor_assoc s, Nat.xor_comm s a, Nat.xor_assoc a, ← Nat.xor_assoc]
    rw [e, out_xor]
    exact feed_xor l m _ _ (by simpa using h)

theorem poly_bit : poly.testBit 31 = true := by decide
/-- nothing but nothing goes out as nothing -/
theorem out_zero {r : Nat} (h : r < 4294967296) (h0 : out r = 0) : r = 0 := by
  unfold out at h0
  by_cases ho : r % 2 = 1
  · rw [if_pos ho] at h0
    have h1 : (r / 2 ^^^ poly).testBit 31 = true := by
      rw [Nat.testBit_xor, poly_bit, Nat.testBit_lt_two_pow (show r / 2 < 2 ^ 31 by omega)]
      rfl
    rw [h0] at h1
    simp at h1
  · rw [if_neg ho, Nat.xor_zero] at h0
    omega
theorem out_z : out 0 = 0 := rfl
theorem feed_zeros_zero : ∀ n, feed 0 (List.replicate n 0) = 0
  | 0 => rfl
  | n + 1 => by rw [List.replicate_succ, feed_cons, Nat.xor_zero, out_z]; exact feed_zeros_zero n
theorem feed_zeros {r : Nat} : ∀ n, r < 4294967296 → feed r (List.replicate n 0) = 0 → r = 0
  | 0, _, h => h
  | n + 1, hr, h => by
    rw [List.replicate_succ, feed_cons, Nat.xor_zero] at h
    exact out_zero hr (feed_zeros n (out_lt hr) h)

/-- the low n bits of a number, the lowest first -/
def lowBits : Nat → Nat → List Nat
  | 0, _ => []
  | n + 1, N => N % 2 :: lowBits n (N / 2)
theorem lowBits_length : ∀ n N, (lowBits n N).length = n
  | 0, _ => rfl
  | n + 1, N => by simp [lowBits, lowBits_length n]
theorem lowBits_lt : ∀ n N, ∀ b ∈ lowBits n N, b < 2
  | 0, _, b, h => by cases h
  | n + 1, N, b, h => by
    rcases List.mem_cons.1 h with rfl | h
    · exact Nat.mod_lt _ (by decide)
    · exact lowBits_lt n _ b h
def outN : Nat → Nat → Nat
  | 0, r => r
  | n + 1, r => outN n (out r)
/-- the bits of a number against a register, one behind the other, are the number against it at once -/
theorem feed_low : ∀ (n r N : Nat), N < 2 ^ n → feed r (lowBits n N) = outN n (r ^^^ N)
  | 0, r, N, h => by
    have : N = 0 := by simpa using h
    subst this; simp [lowBits, feed, outN]
  | n + 1, r, N, h => by
    rw [lowBits, feed_cons, feed_low n _ _ (by rw [Nat.pow_succ] at h; omega), outN]
    congr 1
    unfold out
    have h1 : (r ^^^ N % 2) / 2 = r / 2 := by rw [xor_div2, show N % 2 / 2 = 0 by omega, Nat.xor_zero]
    have h2 : (r ^^^ N % 2) % 2 = (r ^^^ N) % 2 := by rw [xor_mod2, xor_mod2]; omega
    rw [h1, h2, xor_div2]
    rw [Nat.xor_assoc, Nat.xor_assoc, Nat.xor_comm (N / 2)]
theorem outN_zero : ∀ (n : Nat) {r : Nat}, r < 4294967296 → outN n r = 0 → r = 0
  | 0, _, _, h => h
  | n + 1, _, hr, h => out_zero hr (outN_zero n (out_lt hr) h)

/-- a burst: so many noughts, the low bits of a number below 2^32, noughts: it is nothing to the register only if the number is -/
theorem burst {a n c N : Nat} (hn : n ≤ 32) (hN : N < 2 ^ n) (h : feed 0 (List.replicate a 0 ++ (lowBits n N ++ List.replicate c 0)) = 0) : N = 0 := by
  rw [feed_append, feed_append, feed_zeros_zero] at h
  have h32 : (2 : Nat) ^ n ≤ 4294967296 := Nat.pow_le_pow_right (n := 2) (by decide) hn
  have h1 := feed_zeros c (feed_lt _ (by decide) (lowBits_lt n N)) h
  rw [feed_low n 0 N hN, Nat.zero_xor] at h1
  exact outN_zero n (by omega) h1

/-! ### Bytes -/
def bitsL (l : List UInt8) : List Nat := l.flatMap fun b => lowBits 8 b.toNat
theorem feed_byte (r : Nat) (b : UInt8) : feed r (lowBits 8 b.toNat) = out8 (r ^^^ b.toNat) := by
  rw [feed_low 8 r _ b.toNat_lt]
  rfl
theorem byteT_out8 (r b : Nat) (hb : b < 256) : byteT r b = out8 (r ^^^ b) := by rw [byteT_eq r b hb, byteB_out8 r b hb]
theorem feed_bits : ∀ (l : List UInt8) (r : Nat), feed r (bitsL l) = l.foldl (fun r b => byteT r b.toNat) r
  | [], r => rfl
  | b :: l, r => by
    rw [bitsL, List.flatMap_cons, feed_append, feed_byte, ← byteT_out8 r b.toNat b.toNat_lt]
    exact feed_bits l _
end Go.Crc
