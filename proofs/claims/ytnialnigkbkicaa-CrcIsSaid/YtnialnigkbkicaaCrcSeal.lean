/-
  The program's and the reference's "Seal" and "Open". (under way)
-/
import Derived.Test.YtnialnigkbkicaaCrcKnow
import Derived.Lib.Hide
namespace Go.Proofs.Ytnialnigkbkicaa
open Go.RowKit Go.ChangeShapes Go.WideShapes

/-- the sum of bytes -/
def crcL (l : List UInt8) : Nat := 4294967295 ^^^ sumT 4294967295 l
theorem crcL_lt (l : List UInt8) : crcL l < 4294967296 := Nat.xor_lt_two_pow (n := 32) (by decide) (sumT_lt l (by decide))

theorem sum_one (b cap : Nat) (s : ByteArray) (w : World) (hb : b < w.heap.size) (hc : w.cell? ⟨b, 0, none⟩ = some (.string s)) (hs : s.size ≤ 9223372036854775807) :
    Calls Try.prog 10 #[.slice (some ⟨b, 0, none⟩) 1 cap] w fun e w' => e = .returned (.int .u32 (crcL s.data.toList : Nat)) ∧ Below w.heap.size w w' := by
  refine (sum_walk b 0 1 cap w (fun _ => s) hb (fun k hk => ?_) (by omega) (fun _ _ => hs)).mono ?_
  · obtain rfl : k = 0 := by omega
    exact hc
  · rintro e w' ⟨rfl, hw⟩
    exact ⟨rfl, hw⟩

theorem cell_new (w : World) (C : Array Value) (t : TypeId) (i : Nat) : (w.alloc (.cells C t)).cell? ⟨w.heap.size, i, none⟩ = C[i]? := by
  have h : (w.alloc (.cells C t)).heap[w.heap.size]? = some (.cells C t (0, 0)) := by
    show (w.heap.push _)[w.heap.size]? = _
    simp
  unfold World.cell?
  rw [h]
  rfl
/-- a number's four bytes, the lowest first -/
def four (n : Nat) : ByteArray := ⟨#[UInt8.ofNat (n % 256), UInt8.ofNat (n / 256 % 256), UInt8.ofNat (n / 65536 % 256), UInt8.ofNat (n / 16777216 % 256)]⟩
theorem conv4 (n : Nat) (hn : n < 4294967296) (w1 : World) : (convert 35 9 (.slice (some ⟨w1.heap.size, 0, none⟩) 4 4)).run Try.prog (w1.alloc (.cells #[.int .u8 ((n : Int) % 256), .int .u8 ((n : Int) / 256 % 256), .int .u8 ((n : Int) / 65536 % 256), .int .u8 ((n : Int) / 16777216)] 5)) =
    .ok (.string (four n)) (w1.alloc (.cells #[.int .u8 ((n : Int) % 256), .int .u8 ((n : Int) / 256 % 256), .int .u8 ((n : Int) / 65536 % 256), .int .u8 ((n : Int) / 16777216)] 5)) := by
  rw [run_convert_bytes_string _ _ _ 5 _ _ _ Try.underlying35 Try.underlying5 Try.underlying9]
  rw [run_bytesToString _ _ _ _ [(n : Int) % 256, (n : Int) / 256 % 256, (n : Int) / 65536 % 256, (n : Int) / 16777216]]
  · have e : ∀ k : Nat, ((n : Int) / (k : Int) % 256).toNat = n / k % 256 := fun k => by
      rw [← Int.natCast_ediv]; exact Int.toNat_emod (Int.natCast_nonneg _) (by omega)
    have e0 : ((n : Int) % 256).toNat = n % 256 := Int.toNat_emod (by omega) (by omega)
    have e1 := e 256
    have e2 := e 65536
    have e1 : ((n : Int) / 256 % 256).toNat = n / 256 % 256 := e1
    have e2 : ((n : Int) / 65536 % 256).toNat = n / 65536 % 256 := e2
    have e3 : ((n : Int) / 16777216).toNat = n / 16777216 % 256 := by omega
    simp only [List.foldl, e0, e1, e2, e3]
    rfl
  · have := run_loadCells (P := Try.prog) (w := w1.alloc (.cells #[.int .u8 ((n : Int) % 256), .int .u8 ((n : Int) / 256 % 256), .int .u8 ((n : Int) / 65536 % 256), .int .u8 ((n : Int) / 16777216)] 5)) ⟨w1.heap.size, 0, none⟩ 4
      (fun j => [Value.int .u8 ((n : Int) % 256), .int .u8 ((n : Int) / 256 % 256), .int .u8 ((n : Int) / 65536 % 256), .int .u8 ((n : Int) / 16777216)].getD j undef) (fun j hj => by
        have e : (⟨w1.heap.size, 0, none⟩ : Addr).add j = ⟨w1.heap.size, j, none⟩ := by rw [Eng.addr_add, Nat.zero_add]
        rw [e, cell_new]
        rcases j with _ | _ | _ | _ | j
        · rfl
        · rfl
        · rfl
        · rfl
        · omega)
    rw [this]
    rfl
/-- sealed -/
def sealB (s : ByteArray) : ByteArray := s ++ four (crcL s.data.toList)

set_option maxRecDepth 100000 in
theorem seal_walk (s : ByteArray) (w : World) (hs : s.size ≤ 4004) :
    Calls Try.prog 15 #[.string s] w fun e w' => e = .returned (.string (sealB s)) ∧ Below w.heap.size w w' := by
  have hn := crcL_lt s.data.toList
  go_enter Try.func15, Try.ntmps15
  go_wp2_with (go_at_call 10; refine (sum_one _ _ s _ (by simp) (cell_new _ _ _ _) (by omega)).mono ?_; rintro e w1 ⟨rfl, hw1⟩; have hconv := conv4 (crcL s.data.toList) hn w1; have h4 : (four (crcL s.data.toList)).size = 4 := rfl)
  go_ret
  exact ⟨rfl, (((Below.refl _ w).alloc (Nat.le_refl _) _).trans (hw1.mono (by simp))).alloc (by have := hw1.size; simp at this; omega) _⟩

/-- is it sealed? -/
def openedB (s : ByteArray) : Bool := decide (4 ≤ s.size) && decide (sealB (s.extract 0 (s.size - 4)) = s)

theorem ext_size (s : ByteArray) (k : Nat) : (s.extract 0 (s.size - k)).size = s.size - k := by simp
theorem open_no4 (s : ByteArray) (w : World) (h4 : s.size < 4) :
    Calls Try.prog 13 #[.string s] w fun e w' => e = .returned (.tuple #[.string ⟨#[]⟩, .bool false]) ∧ Below w.heap.size w w' := by
  go_enter Try.func13, Try.ntmps13
  go_wp2
  go_ret2
  exact ⟨rfl, Below.refl _ _⟩

set_option maxRecDepth 100000 in
theorem open_yes (s : ByteArray) (w : World) (hs : s.size ≤ 4008) (h4 : 4 ≤ s.size) (hy : sealB (s.extract 0 (s.size - 4)) = s) :
    Calls Try.prog 13 #[.string s] w fun e w' => e = .returned (.tuple #[.string (s.extract 0 (s.size - 4)), .bool true]) ∧ Below w.heap.size w w' := by
  have hz := ext_size s 4
  have HY := Lib.hid hy
  clear hy
  have hsz : (s.extract 0 (s.size - 4)).size ≤ 4004 := by omega
  clear hz
  go_enter Try.func13, Try.ntmps13
  go_wp2_with (go_at_call 15; refine (seal_walk _ _ hsz).mono ?_; rintro e w1 ⟨rfl, hw1⟩; rw [HY.out])
  go_ret2
  exact ⟨rfl, hw1⟩

set_option maxRecDepth 100000 in
theorem open_no (s : ByteArray) (w : World) (hs : s.size ≤ 4008) (h4 : 4 ≤ s.size) (hy : sealB (s.extract 0 (s.size - 4)) ≠ s) :
    Calls Try.prog 13 #[.string s] w fun e w' => e = .returned (.tuple #[.string ⟨#[]⟩, .bool false]) ∧ Below w.heap.size w w' := by
  have hz := ext_size s 4
  have hsz : (s.extract 0 (s.size - 4)).size ≤ 4004 := by omega
  clear hz
  have hn : ((sealB (s.extract 0 (s.size - 4))).toList == s.toList) = false := by
    rw [Bool.eq_false_iff]
    intro h
    rw [ByteArray.toList_eq, ByteArray.toList_eq, beq_iff_eq] at h
    exact hy (Eng.ba_ext h)
  clear hy
  go_enter Try.func13, Try.ntmps13
  go_wp2_with (go_at_call 15; refine (seal_walk _ _ hsz).mono ?_; rintro e w1 ⟨rfl, hw1⟩)
  go_ret2
  exact ⟨rfl, hw1⟩

theorem and1 (x : Nat) (h : x < 4294967296) : bits .and .u32 (x : Int) 1 = ((x % 2 : Nat) : Int) := by
  have := u32_and_nat x 1 h (by omega)
  rw [Nat.and_one_is_mod] at this
  simpa using this
theorem bit_m (b m : Nat) (hb : b < 256) : ((b : Int) / 2 ^ m % 4294967296) = ((b / 2 ^ m : Nat) : Int) := by
  have h1 : ((b / 2 ^ m : Nat) : Int) = (b : Int) / 2 ^ m := by simp
  have h2 : b / 2 ^ m ≤ b := Nat.div_le_self _ _
  rw [← h1]
  generalize b / 2 ^ m = c at h2
  exact Int.emod_eq_of_lt (Int.natCast_nonneg _) (by omega)
theorem odd_eq (r b m : Nat) (hr : r < 4294967296) (hb : b < 256) : (bits .and .u32 (r : Int) 1 != bits .and .u32 ((b : Int) / 2 ^ m % 4294967296) 1) = (r % 2 != Crc.bitOf b m) := by
  have h2 : b / 2 ^ m ≤ b := Nat.div_le_self _ _
  rw [bit_m b m hb, and1 r hr, and1 _ (by omega), Bool.eq_iff_iff]
  simp only [bne_iff_ne, ne_eq, Crc.bitOf]
  omega
theorem stepB_lt {b r m : Nat} (h : r < 4294967296) : Crc.stepB b r m < 4294967296 := by
  unfold Crc.stepB Crc.bitIn
  refine Nat.xor_lt_two_pow (n := 32) (show r / 2 < 2 ^ 32 by omega) ?_
  split
  · decide
  · decide
theorem foldB_lt {b : Nat} : ∀ (l : List Nat) {r : Nat}, r < 4294967296 → l.foldl (Crc.stepB b) r < 4294967296
  | [], _, h => h
  | _ :: l, _, h => foldB_lt l (stepB_lt h)
theorem range_snoc (b R m : Nat) : (List.range (m + 1)).foldl (Crc.stepB b) R = Crc.stepB b ((List.range m).foldl (Crc.stepB b) R) m := by
  rw [List.range_succ, List.foldl_append]
  rfl
theorem xorP (r : Nat) (h : r < 4294967296) : bits .xor .u32 ((r : Int) / 2) 2197175160 = ((r / 2 ^^^ 2197175160 : Nat) : Int) := by
  have := u32_xor_nat (r / 2) 2197175160 (by omega) (by omega)
  simpa using this
theorem ret_int {k : IntKind} {a b : Int} (h : a = b) : Ending.returned (.int k a) = .returned (.int k b) := by rw [h]

set_option maxRecDepth 100000 in
theorem ref_sum (s : ByteArray) (w : World) (hs : s.size ≤ 100000) :
    Calls Try.prog 11 #[.string s] w fun e w' => e = .returned (.int .u32 (crcL s.data.toList : Nat)) ∧ w = w' := by
  go_enter Try.func11, Try.ntmps11
  go_wp2
  go_loop [3, 4] (fun r i => ∃ k : Nat, k ≤ s.size ∧ i = .int .i64 k ∧ r = .int .u32 (sumT 4294967295 (s.data.toList.take k))) (fun _ i => s.size - (intOf i).toNat)
  case atStart => exact ⟨0, Nat.zero_le _, rfl, rfl⟩
  case round =>
    obtain ⟨k, hk, rfl, rfl⟩ := hrel
    go_wp2
    · have hlt : k < s.size := by assumption
      obtain ⟨R, hR⟩ : ∃ R, sumT 4294967295 (s.data.toList.take k) = R := ⟨_, rfl⟩
      have HR := Lib.hid hR
      rw [hR]
      clear hR
      obtain ⟨b, hb⟩ : ∃ b, s[k].toNat = b := ⟨_, rfl⟩
      have hb256 : b < 256 := by rw [← hb]; exact UInt8.toNat_lt _
      have HB := Lib.hid hb
      go_loop [3, 5] (fun r j => ∃ m : Nat, m ≤ 8 ∧ j = .int .i64 m ∧ r = .int .u32 (((List.range m).foldl (Crc.stepB b) R : Nat) : Int)) (fun _ j => 8 - (intOf j).toNat)
      case atStart => exact ⟨0, Nat.zero_le _, rfl, rfl⟩
      case round =>
        obtain ⟨m, hm, rfl, rfl⟩ := hrel
        obtain ⟨r, hr⟩ : ∃ r, (List.range m).foldl (Crc.stepB b) R = r := ⟨_, rfl⟩
        have Hr := Lib.hid hr
        rw [hr]
        clear hr
        have hrl : r < 4294967296 := by
          rw [← Hr.out]; refine foldB_lt _ ?_; rw [← HR.out]; exact sumT_lt _ (by decide)
        have HO := Lib.hid (odd_eq r b m hrl hb256)
        go_wp2
        · refine ⟨⟨m + 1, by omega, by go_num, ?_⟩, by simp [intOf]; omega⟩
          rename_i hodd
          rw [HO.out] at hodd
          rw [range_snoc, Hr.out, Crc.stepB, Crc.bitIn, if_pos hodd, xorP r hrl]
          rfl
        · refine ⟨⟨m + 1, by omega, by go_num, ?_⟩, by simp [intOf]; omega⟩
          rename_i hodd
          rw [HO.out] at hodd
          rw [range_snoc, Hr.out, Crc.stepB, Crc.bitIn, hodd, if_neg (by decide), Nat.xor_zero]
          go_num
        · have h8 : m = 8 := by omega
          subst h8
          refine ⟨⟨k + 1, by omega, by go_num, ?_⟩, by simp [intOf]; omega⟩
          rw [take_snoc s k hlt, sumT_snoc, HR.out, Crc.byteT_eq _ _ (UInt8.toNat_lt _), HB.out, ← Hr.out]
          rfl
    · have hge : ¬ k < s.size := by assumption
      have hmax : bits .xor .u32 IntKind.u32.max ((sumT 4294967295 (s.data.toList.take k) : Nat) : Int) = ((4294967295 ^^^ sumT 4294967295 (s.data.toList.take k) : Nat) : Int) := by
        have := u32_xor_nat 4294967295 (sumT 4294967295 (s.data.toList.take k)) (by omega) (sumT_lt _ (by decide))
        simpa [IntKind.max, IntKind.signed, IntKind.bits] using this
      rw [hmax]
      go_ret
      exact ⟨ret_int (by rw [crcL, sum_end s _ k (by omega)]), rfl⟩

set_option maxRecDepth 100000 in
theorem ref_seal (s : ByteArray) (w : World) (hs : s.size ≤ 4004) :
    Calls Try.prog 16 #[.string s] w fun e w' => e = .returned (.string (sealB s)) ∧ Below w.heap.size w w' := by
  have hn := crcL_lt s.data.toList
  go_enter Try.func16, Try.ntmps16
  go_wp2_with (go_at_call 11; refine (ref_sum s _ (by omega)).mono ?_; rintro e w1 ⟨rfl, rfl⟩; have hconv := conv4 (crcL s.data.toList) hn w; have h4 : (four (crcL s.data.toList)).size = 4 := rfl)
  go_ret
  exact ⟨rfl, (Below.refl _ w).alloc (Nat.le_refl _) _⟩
theorem ref_open_no4 (s : ByteArray) (w : World) (h4 : s.size < 4) :
    Calls Try.prog 14 #[.string s] w fun e w' => e = .returned (.tuple #[.string ⟨#[]⟩, .bool false]) ∧ Below w.heap.size w w' := by
  go_enter Try.func14, Try.ntmps14
  go_wp2
  go_ret2
  exact ⟨rfl, Below.refl _ _⟩
set_option maxRecDepth 100000 in
theorem ref_open_yes (s : ByteArray) (w : World) (hs : s.size ≤ 4008) (h4 : 4 ≤ s.size) (hy : sealB (s.extract 0 (s.size - 4)) = s) :
    Calls Try.prog 14 #[.string s] w fun e w' => e = .returned (.tuple #[.string (s.extract 0 (s.size - 4)), .bool true]) ∧ Below w.heap.size w w' := by
  have hz := ext_size s 4
  have HY := Lib.hid hy
  clear hy
  have hsz : (s.extract 0 (s.size - 4)).size ≤ 4004 := by omega
  clear hz
  go_enter Try.func14, Try.ntmps14
  go_wp2_with (go_at_call 16; refine (ref_seal _ _ hsz).mono ?_; rintro e w1 ⟨rfl, hw1⟩; rw [HY.out])
  go_ret2
  exact ⟨rfl, hw1⟩
set_option maxRecDepth 100000 in
theorem ref_open_no (s : ByteArray) (w : World) (hs : s.size ≤ 4008) (h4 : 4 ≤ s.size) (hy : sealB (s.extract 0 (s.size - 4)) ≠ s) :
    Calls Try.prog 14 #[.string s] w fun e w' => e = .returned (.tuple #[.string ⟨#[]⟩, .bool false]) ∧ Below w.heap.size w w' := by
  have hz := ext_size s 4
  have hsz : (s.extract 0 (s.size - 4)).size ≤ 4004 := by omega
  clear hz
  have hn : ((sealB (s.extract 0 (s.size - 4))).toList == s.toList) = false := by
    rw [Bool.eq_false_iff]
    intro h
    rw [ByteArray.toList_eq, ByteArray.toList_eq, beq_iff_eq] at h
    exact hy (Eng.ba_ext h)
  clear hy
  go_enter Try.func14, Try.ntmps14
  go_wp2_with (go_at_call 16; refine (ref_seal _ _ hsz).mono ?_; rintro e w1 ⟨rfl, hw1⟩)
  go_ret2
  exact ⟨rfl, hw1⟩

/-! ### Open, both ways in one -/
/-- what is opened -/
def openT (s : ByteArray) : ByteArray := if 4 ≤ s.size ∧ sealB (s.extract 0 (s.size - 4)) = s then s.extract 0 (s.size - 4) else ⟨#[]⟩
def openIs (s : ByteArray) : Bool := decide (4 ≤ s.size ∧ sealB (s.extract 0 (s.size - 4)) = s)
theorem open_any (s : ByteArray) (w : World) (hs : s.size ≤ 4008) :
    Calls Try.prog 13 #[.string s] w fun e w' => e = .returned (.tuple #[.string (openT s), .bool (openIs s)]) ∧ Below w.heap.size w w' := by
  unfold openT openIs
  by_cases h4 : 4 ≤ s.size
  · by_cases hy : sealB (s.extract 0 (s.size - 4)) = s
    · simpa [h4, hy] using open_yes s w hs h4 hy
    · simpa [h4, hy] using open_no s w hs h4 hy
  · simpa [h4] using open_no4 s w (by omega)
theorem ref_open_any (s : ByteArray) (w : World) (hs : s.size ≤ 4008) :
    Calls Try.prog 14 #[.string s] w fun e w' => e = .returned (.tuple #[.string (openT s), .bool (openIs s)]) ∧ Below w.heap.size w w' := by
  unfold openT openIs
  by_cases h4 : 4 ≤ s.size
  · by_cases hy : sealB (s.extract 0 (s.size - 4)) = s
    · simpa [h4, hy] using ref_open_yes s w hs h4 hy
    · simpa [h4, hy] using ref_open_no s w hs h4 hy
  · simpa [h4] using ref_open_no4 s w (by omega)

/-! ### The law's own -/
/-- a text's first four thousand bytes -/
def cutB (s : ByteArray) : ByteArray := s.extract 0 (min s.size 4000)
theorem cutB_size (s : ByteArray) : (cutB s).size ≤ 4000 := by simp [cutB]; omega
theorem cut_walk (s : ByteArray) (w : World) (hs : s.size ≤ 9223372036854775807) :
    Calls Try.prog 9 #[.string s] w fun e w' => e = .returned (.string (cutB s)) ∧ w = w' := by
  have e : cutB s = if 4000 < s.size then s.extract 0 4000 else s.extract 0 s.size := by
    unfold cutB
    split
    · rw [Nat.min_eq_right (by omega)]
    · rw [Nat.min_eq_left (by omega)]
  go_enter Try.func9, Try.ntmps9
  by_cases h : 4000 < s.size
  · rw [if_pos h] at e
    have E := Lib.hid e
    clear e
    go_wp2
    go_ret
    exact ⟨by rw [E.out]; rfl, rfl⟩
  · rw [if_neg h] at e
    have E := Lib.hid e
    clear e
    go_wp2
    go_ret
    exact ⟨by rw [E.out]; first | rfl | (rw [ByteArray.extract_zero_size]; rfl), rfl⟩
open Go.Eng in
theorem works_run : isTrue (callE Try.prog knownSum 300 12 (.fn 12 []) st0) = true := by kernel_rfl
theorem works_calls (w : World) : Calls Try.prog 12 #[] w fun e w' => e = .returned (.bool true) ∧ Below w.heap.size w w' :=
  Eng.calls_true knownSum_ok works_run w
end Go.Proofs.Ytnialnigkbkicaa
