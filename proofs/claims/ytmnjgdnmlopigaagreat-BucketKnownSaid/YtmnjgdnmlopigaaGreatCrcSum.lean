/-
  The program's "Sum" of a list of texts: bytes through the table. (under way)
-/
import Derived.Test.YtmnjgdnmlopigaaGreatCrcTab
import Derived.Test.YtmnjgdnmlopigaaGreatCrcLaw
import Derived.WalkKit
import Derived.Below
import Derived.Deep.WholeRow
import Derived.Laws.BitsAllLaws
namespace Go.Proofs.YtmnjgdnmlopigaaGreat
open Go.RowKit Go.ChangeShapes Go.WideShapes

theorem zeroTab : (∀ w, (zeroValue 266).run Tryz.prog w = .ok (.agg (Array.replicate 256 (.int .u32 0))) w) ∧ (Tryz.prog.info? 266).map (·.size) = some 256 :=
  zero_of_info (by kernel_rfl)

theorem tab_arr {ρ : Eng.Env} {X : Value} (h : Eng.VRel ρ tabV X) : ∃ A : Array Value, X = .agg A ∧ (∀ (i n : Nat), tabNats[i]? = some n → A[i]? = some (.int .u32 n)) ∧ A.size = 256 ∧ A.all (·.oneCell') = true := by
  simp only [tabV, Eng.VRel] at h
  obtain ⟨A, rfl, h⟩ := h
  have hl := h.length
  have e : tabNats.length = 256 := by kernel_rfl
  simp only [List.length_map, Array.length_toList, e] at hl
  refine ⟨A, rfl, fun i n hi => ?_, hl.symm, ?_⟩
  · have := h.get (i := i) (v := u32V n) (by simp [hi])
    obtain ⟨X, h1, h2⟩ := this
    simp only [u32V, Eng.VRel] at h2
    subst h2
    simpa using h1
  · rw [Array.all_eq_true]
    intro i hi
    have hi' : i < tabNats.length := by rw [e]; omega
    obtain ⟨X, h1, h2⟩ := h.get (i := i) (v := u32V tabNats[i]) (by simp [hi'])
    simp only [u32V, Eng.VRel] at h2
    subst h2
    have : A[i] = .int .u32 tabNats[i] := by
      have h1 : A[i]? = some (Value.int .u32 ((tabNats[i] : Nat) : Int)) := by simpa using h1
      rw [Array.getElem?_eq_getElem hi] at h1
      exact Option.some.inj h1
    rw [this]
    rfl

theorem tabNats_eq : tabNats = (List.range 256).map Crc.out8 := by kernel_rfl
theorem tabNats_get {i : Nat} (h : i < 256) : tabNats[i]? = some (Crc.out8 i) := by
  rw [tabNats_eq, List.getElem?_map, List.getElem?_range h]; rfl
/-- bytes through the table -/
def sumT (r : Nat) (l : List UInt8) : Nat := l.foldl (fun r b => Crc.byteT r b.toNat) r
theorem sumT_lt : ∀ (l : List UInt8) {r : Nat}, r < 4294967296 → sumT r l < 4294967296
  | [], _, h => h
  | b :: l, _, h => sumT_lt l (Crc.byteT_lt h b.toNat_lt)
theorem sumT_snoc (l : List UInt8) (r : Nat) (b : UInt8) : sumT r (l ++ [b]) = Crc.byteT (sumT r l) b.toNat := by simp [sumT]
theorem take_snoc (s : ByteArray) (k : Nat) (h : k < s.size) : s.data.toList.take (k + 1) = s.data.toList.take k ++ [s[k]] := by
  rw [List.take_succ_eq_append_getElem (by simpa using h)]; rfl
def regAt (ss : Nat → ByteArray) : Nat → Nat
  | 0 => 4294967295
  | k + 1 => sumT (regAt ss k) (ss k).data.toList
theorem regAt_lt (ss : Nat → ByteArray) : ∀ k, regAt ss k < 4294967296
  | 0 => by simp [regAt]
  | k + 1 => sumT_lt _ (regAt_lt ss k)
theorem sum_end (s : ByteArray) (r j : Nat) (h : j = s.size) : sumT r (s.data.toList.take j) = sumT r s.data.toList := by
  rw [List.take_of_length_le (by simp [h])]

set_option maxRecDepth 100000 in
theorem sum_walk (b off len cap : Nat) (w : World) (ss : Nat → ByteArray) (hb : b < w.heap.size) (hc : ∀ k, k < len → w.cell? ⟨b, off + k, none⟩ = some (.string (ss k))) (hl : len ≤ 9223372036854775807)
    (hz : ∀ k, k < len → (ss k).size ≤ 9223372036854775807) :
    Calls Tryz.prog 210 #[.slice (some ⟨b, off, none⟩) len cap] w fun e w' => e = .returned (.int .u32 (4294967295 ^^^ regAt ss len : Nat)) ∧ Below w.heap.size w w' := by
  have hT := tab_calls
  have hZ := zeroTab.1
  go_enter Tryz.func210, Tryz.ntmps210
  go_wp2_with (go_at_call 239; refine (hT _).mono ?_; rintro e w1 ⟨ρ, X, rfl, hX, hw1⟩; obtain ⟨A, rfl, hA, hs, h1c⟩ := tab_arr hX; have hst := run_storeCells_new w1 266 (Array.replicate 256 (.int .u32 0)) A (by rw [hs]; exact zeroTab.2) (by simp [hs]) h1c)
  have hcell : ∀ k, k < len → (w1.alloc (.cells A 266)).cell? ⟨b, off + k, none⟩ = some (.string (ss k)) := fun k hk => by
    rw [(hw1.alloc hw1.size (.cells A 266)).cell hb]; exact hc k hk
  go_loop [4, 11] (fun r i => ∃ k : Nat, k ≤ len ∧ i = .int .i64 k ∧ r = .int .u32 (regAt ss k)) (fun _ i => len - (intOf i).toNat)
  case atStart => exact ⟨0, Nat.zero_le _, rfl, rfl⟩
  case round =>
    obtain ⟨k, hk, rfl, rfl⟩ := hrel
    have hck : k < len → (w1.alloc (.cells A 266)).cell? ⟨b, off + k, none⟩ = some (.string (ss k)) := hcell k
    go_wp2
    · have hlt : k < len := by assumption
      have hzk := hz k hlt
      go_loop [4, 17] (fun r i => ∃ j : Nat, j ≤ (ss k).size ∧ i = .int .i64 j ∧ r = .int .u32 (sumT (regAt ss k) ((ss k).data.toList.take j))) (fun _ i => (ss k).size - (intOf i).toNat)
      case atStart => exact ⟨0, Nat.zero_le _, rfl, rfl⟩
      case round =>
        obtain ⟨j, hj, rfl, rfl⟩ := hrel
        obtain ⟨R, hR⟩ : ∃ R, sumT (regAt ss k) ((ss k).data.toList.take j) = R := ⟨_, rfl⟩
        have HR : Hid (sumT (regAt ss k) ((ss k).data.toList.take j) = R) := hR
        rw [hR]
        clear hR
        have hx : ∀ h : j < (ss k).size, bits .xor .u8 ((R : Int) % 256) ((((ss k)[j]'h).toNat : Nat) : Int) = ((R % 256 ^^^ ((ss k)[j]'h).toNat : Nat) : Int) := fun h => by
          have := u8_xor_nat (R % 256) ((ss k)[j]'h).toNat (Nat.mod_lt _ (by decide)) (UInt8.toNat_lt _)
          simpa using this
        have hb8 : ∀ h : j < (ss k).size, R % 256 ^^^ ((ss k)[j]'h).toNat < 256 := fun h => Nat.xor_lt_two_pow (n := 8) (Nat.mod_lt _ (by decide)) (UInt8.toNat_lt _)
        have hA2 : ∀ h : j < (ss k).size, A[R % 256 ^^^ ((ss k)[j]'h).toNat]? = some (.int .u32 (Crc.out8 (R % 256 ^^^ ((ss k)[j]'h).toNat) : Nat)) := fun h => hA _ _ (tabNats_get (hb8 h))
        have hb9 : ∀ h : j < (ss k).size, R % 256 ^^^ ((ss k)[j]'h).toNat < A.size := fun h => by rw [hs]; exact hb8 h
        have hA3 : ∀ (h : j < (ss k).size) (h' : R % 256 ^^^ ((ss k)[j]'h).toNat < A.size), A[R % 256 ^^^ ((ss k)[j]'h).toNat]'h' = .int .u32 (Crc.out8 (R % 256 ^^^ ((ss k)[j]'h).toNat) : Nat) := fun h h' => by
          have := hA2 h
          rw [Array.getElem?_eq_getElem h'] at this
          exact Option.some.inj this
        clear hA2
        have hRlt : R < 4294967296 := by rw [← HR.out]; exact sumT_lt _ (regAt_lt ss k)
        have hx32 : ∀ h : j < (ss k).size, bits .xor .u32 ((R : Int) / 256) ((Crc.out8 (R % 256 ^^^ ((ss k)[j]'h).toNat) : Nat) : Int) = ((R / 256 ^^^ Crc.out8 (R % 256 ^^^ ((ss k)[j]'h).toNat) : Nat) : Int) := fun h => by
          have := u32_xor_nat (R / 256) (Crc.out8 (R % 256 ^^^ ((ss k)[j]'h).toNat)) (by omega) (Crc.out8_lt (by have := hb8 h; omega))
          simpa using this
        go_wp2
        · have hlt : j < (ss k).size := by assumption
          refine ⟨⟨j + 1, by omega, by go_num, ?_⟩, by simp [intOf]; omega⟩
          rw [take_snoc (ss k) j hlt, sumT_snoc, HR.out]
          rfl
        · exfalso
          have := hb8 (by assumption)
          first | omega | contradiction | (rename_i hh; exact absurd this hh) | (rename_i hh _; exact absurd this hh)
        · have hge : ¬ j < (ss k).size := by assumption
          refine ⟨⟨k + 1, by omega, by go_num, ?_⟩, by simp [intOf]; omega⟩
          rw [← HR.out, sum_end (ss k) _ j (by omega)]
          rfl
    · have hge : ¬ k < len := by assumption
      have hkl : k = len := by omega
      subst hkl
      have hmax : bits .xor .u32 IntKind.u32.max ((regAt ss k : Nat) : Int) = ((4294967295 ^^^ regAt ss k : Nat) : Int) := by
        have := u32_xor_nat 4294967295 (regAt ss k) (by omega) (regAt_lt ss k)
        simpa [IntKind.max, IntKind.signed, IntKind.bits] using this
      rw [hmax]
      go_ret
      exact ⟨rfl, hw1.alloc hw1.size _⟩
end Go.Proofs.YtmnjgdnmlopigaaGreat
