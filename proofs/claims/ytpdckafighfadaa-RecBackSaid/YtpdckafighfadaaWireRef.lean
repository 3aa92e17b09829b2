/-
  The document's writing of numbers and texts, and the program's of texts, walked: the same bytes. Conditions: numbers of 64 bits, texts of some hundred thousand bytes.
-/
import Derived.Test.YtpdckafighfadaaWireRead
namespace Go.Wire
theorem be_cons : ∀ (k n : Nat), be (k + 1) n = UInt8.ofNat (n / 256 ^ k % 256) :: be k n
  | 0, n => by simp [be]
  | k + 1, n => by
    rw [be, be_cons k (n / 256), be, List.cons_append, Nat.div_div_eq_div_mul, Nat.pow_succ, Nat.mul_comm 256]
end Go.Wire
namespace Go.Proofs.Ytpdckafighfadaa
open Go.RowKit Go.ChangeShapes Go.WideShapes

def beB (k n : Nat) : ByteArray := ⟨(Wire.be k n).toArray⟩
theorem beB_size (k n : Nat) : (beB k n).size = k := by simp [beB, ByteArray.size, Wire.be_length]
theorem beB_cons (k n c : Nat) (h : c = n / 256 ^ k % 256) : (⟨#[UInt8.ofNat c]⟩ : ByteArray) ++ beB k n = beB (k + 1) n := by
  subst h
  apply ByteArray.ext
  simp [beB, Wire.be_cons]
theorem encB_great (s : ByteArray) (n : Nat) (h : ¬ n < 248) : s ++ ⟨#[UInt8.ofNat (247 + Wire.sz n)]⟩ ++ beB (Wire.sz n) n = s ++ encB n := by
  apply ByteArray.ext
  simp [beB, encB, Wire.enc, h]
theorem encB_small (s : ByteArray) (n : Nat) (h : n < 248) : s ++ ⟨#[UInt8.ofNat n]⟩ = s ++ encB n := by
  apply ByteArray.ext
  simp [encB, Wire.enc, h]

theorem conv1i (c : Int) (n : Nat) (Z : ByteArray) (hZ : ⟨#[UInt8.ofNat n]⟩ = Z) (h : c = n) (hn : n < 256) (w1 : World) : (convert 43 9 (.slice (some ⟨w1.heap.size, 0, none⟩) 1 1)).run Try.prog (w1.alloc (.cells #[.int .u8 c] 5)) =
    .ok (.string Z) (w1.alloc (.cells #[.int .u8 c] 5)) := by subst h hZ; exact conv1 n hn w1

set_option maxRecDepth 100000 in
set_option maxHeartbeats 4000000 in
theorem refput_walk (s : ByteArray) (n : Nat) (w : World) (hn : n < 18446744073709551616) (hs : s.size ≤ 100000) :
    Calls Try.prog 25 #[.string s, .int .u64 n] w fun e w' => e = .returned (.string (s ++ encB n)) ∧ Below w.heap.size w w' := by
  have hB := Below.refl w.heap.size w
  by_cases h8 : n < 248
  · have hE := Lib.hid (encB_small s n h8)
    have hc := conv1 n (by omega)
    go_enter Try.func25, Try.ntmps25
    go_wp2
    go_ret
    rw [hE.out]
    exact ⟨rfl, hB.alloc (Nat.le_refl _) _⟩
  · have hE := Lib.hid (encB_great s n h8)
    go_enter Try.func25, Try.ntmps25
    go_wp2
    go_loopw [1, 5] (fun nv dv wr => ∃ k : Nat, k ≤ Wire.sz n ∧ nv = .int .u64 ((n / 256 ^ k : Nat) : Int) ∧ dv = .string (beB k n) ∧ Below w.heap.size w wr) (fun nv _ _ => (intOf nv).toNat)
    case atStart => exact ⟨0, Nat.zero_le _, by simp, rfl, Below.refl _ _⟩
    case round =>
      obtain ⟨k, hk, rfl, rfl, hB⟩ := hrel
      have hk8 : k ≤ 8 := Nat.le_trans hk (Wire.sz_8 hn)
      have hbz := beB_size k n
      obtain ⟨q, hq⟩ : ∃ q, n / 256 ^ k = q := ⟨_, rfl⟩
      obtain ⟨D, hD⟩ : ∃ D, beB k n = D := ⟨_, rfl⟩
      have hQ := Lib.hid hq
      have hDD := Lib.hid hD
      rw [hD] at hbz
      rw [hq, hD]
      have hsz := hB.size
      by_cases h0 : q = 0
      · subst h0
        have hend : k = Wire.sz n := by
          refine Nat.le_antisymm hk (Wire.sz_le ?_)
          rcases Nat.div_eq_zero_iff.1 hQ.out with h | h
          · exact absurd h (Nat.ne_of_gt (Nat.pow_pos (by omega)))
          · exact h
        obtain ⟨Z, hZ⟩ : ∃ Z : ByteArray, ⟨#[UInt8.ofNat (247 + k)]⟩ = Z := ⟨_, rfl⟩
        have hc := conv1i (247 + (k : Int)) (247 + k) Z hZ (by omega) (by omega)
        have hZz : Z.size = 1 := by rw [← hZ]; rfl
        have hE2 : s ++ ⟨#[UInt8.ofNat (247 + k)]⟩ ++ D = s ++ encB n := by rw [← hDD.out, hend]; exact hE.out
        rw [hZ] at hE2
        have hE2 := Lib.hid hE2
        clear hZ
        clear hq hD hend
        go_wp2
        go_ret
        exact ⟨rfl, hB.alloc hsz _⟩
      · have hlt : k < Wire.sz n := by
          rcases Nat.lt_or_ge k (Wire.sz n) with h | h
          · exact h
          · exfalso
            apply h0
            rw [← hQ.out]
            exact Nat.div_eq_of_lt (Nat.lt_of_lt_of_le (Wire.sz_lt n) (Wire.pow_mono h))
        have hqb : q < 18446744073709551616 := by rw [← hQ.out]; exact Nat.lt_of_le_of_lt (Nat.div_le_self _ _) hn
        obtain ⟨Z, hZ⟩ : ∃ Z : ByteArray, ⟨#[UInt8.ofNat (q % 256)]⟩ = Z := ⟨_, rfl⟩
        have hc := conv1i ((q : Int) % 256) (q % 256) Z hZ (by omega) (by omega)
        have hZz : Z.size = 1 := by rw [← hZ]; rfl
        have hd2 : ∃ D2, (⟨#[UInt8.ofNat (q % 256)]⟩ : ByteArray) ++ D = D2 := ⟨_, rfl⟩
        have hDn : (⟨#[UInt8.ofNat (q % 256)]⟩ : ByteArray) ++ D = beB (k + 1) n := by rw [← hDD.out]; exact beB_cons k n _ (by rw [hQ.out])
        rw [hZ] at hDn
        have hDN := Lib.hid hDn
        have hqn : n / 256 ^ (k + 1) = q / 256 := by rw [Nat.pow_succ, ← Nat.div_div_eq_div_mul, hQ.out]
        have hQN := Lib.hid hqn
        clear hq hD hDn hqn hd2 hZ
        go_wp2
        refine ⟨⟨k + 1, hlt, ?_, ?_, hB.alloc hsz _⟩, ?_⟩
        · rw [hQN.out]; go_num
        · rw [← hDN.out]
        · simp [intOf]; omega

theorem encB_le (n : Nat) (hn : n < 18446744073709551616) : 1 ≤ (encB n).size ∧ (encB n).size ≤ 9 := by
  have h := Wire.enc_length hn
  have e : (encB n).size = (Wire.enc n).length := by simp [encB, ByteArray.size]
  omega
/-- a text's bytes: its length, and it -/
def txtB (t : ByteArray) : ByteArray := encB t.size ++ t
theorem txtB_size (t : ByteArray) (h : t.size < 18446744073709551616) : (txtB t).size ≤ t.size + 9 := by
  have := encB_le t.size h
  simp [txtB]; omega

set_option maxRecDepth 100000 in
theorem puttext_walk (s t : ByteArray) (w : World) (hs : s.size ≤ 100000) (ht : t.size ≤ 100000) :
    Calls Try.prog 21 #[.string s, .string t] w fun e w' => e = .returned (.string (s ++ txtB t)) ∧ Below w.heap.size w w' := by
  have hn : t.size < 18446744073709551616 := by omega
  obtain ⟨hz1, hz2⟩ := encB_le t.size hn
  have hE := Lib.hid (show s ++ encB t.size ++ t = s ++ txtB t from ByteArray.append_assoc)
  have hput := fun b cap w hb hc => put_one s t.size b cap w hb hc hn hs
  clear hn
  generalize encB t.size = Z at *
  go_enter Try.func21, Try.ntmps21
  go_wp2_with (go_at_call 40; refine (hput _ _ _ (by simp) (cell_new _ _ _ _)).mono ?_; rintro e w1 ⟨rfl, hw1⟩)
  go_ret
  rw [hE.out]
  exact ⟨rfl, ((Below.refl _ w).alloc (Nat.le_refl _) _).trans (hw1.mono (by simp))⟩

set_option maxRecDepth 100000 in
theorem reftext_walk (s t : ByteArray) (w : World) (hs : s.size ≤ 100000) (ht : t.size ≤ 100000) :
    Calls Try.prog 24 #[.string s, .string t] w fun e w' => e = .returned (.string (s ++ txtB t)) ∧ Below w.heap.size w w' := by
  have hn : t.size < 18446744073709551616 := by omega
  obtain ⟨hz1, hz2⟩ := encB_le t.size hn
  have hE := Lib.hid (show s ++ encB t.size ++ t = s ++ txtB t from ByteArray.append_assoc)
  have hput := fun w => refput_walk s t.size w hn hs
  clear hn
  generalize encB t.size = Z at *
  go_enter Try.func24, Try.ntmps24
  go_wp2_with (go_at_call 25; refine (hput _).mono ?_; rintro e w1 ⟨rfl, hw1⟩)
  go_ret
  rw [hE.out]
  exact ⟨rfl, hw1⟩
end Go.Proofs.Ytpdckafighfadaa
