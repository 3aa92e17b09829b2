/-
  The program's functions on numbers' bytes, walked. (under way)
-/
import Derived.Test.YtpdckafighfadaaWireLaw
import Derived.Test.YtpdckafighfadaaEngP
import Derived.Test.YtpdckafighfadaaEngD
import Derived.Test.YtpdckafighfadaaRows
import Derived.WalkKit
import Derived.Below
import Derived.Lib.Hide
import Derived.Laws.BytesString
namespace Go.Proofs.Ytpdckafighfadaa
open Go.RowKit Go.ChangeShapes Go.WideShapes

theorem push_list : ∀ (L A : List UInt8), (L.map fun b => ((b.toNat : Nat) : Int)).foldl (fun r n => r.push (UInt8.ofNat n.toNat)) (⟨A.toArray⟩ : ByteArray) = ⟨(A ++ L).toArray⟩
  | [], A => by simp
  | b :: L, A => by
    have h : (⟨A.toArray⟩ : ByteArray).push (UInt8.ofNat ((b.toNat : Nat) : Int).toNat) = ⟨(A ++ [b]).toArray⟩ := by
      simp [ByteArray.push]
    rw [List.map_cons, List.foldl_cons, h, push_list L (A ++ [b]), List.append_assoc]
    rfl
theorem conv_text (L : List UInt8) (b off cap n : Nat) (hn : L.length = n) (w : World) (hc : ∀ j, j < n → w.cell? ⟨b, off + j, none⟩ = some (.int .u8 (L.getD j 0).toNat)) :
    (convert 43 9 (.slice (some ⟨b, off, none⟩) n cap)).run Try.prog w = .ok (.string ⟨L.toArray⟩) w := by
  subst hn
  rw [run_convert_bytes_string _ _ _ 5 _ _ _ Try.underlying43 Try.underlying5 Try.underlying9]
  rw [run_bytesToString _ _ _ _ (L.map fun b => ((b.toNat : Nat) : Int))]
  · have := push_list L []
    rw [List.nil_append] at this
    exact congrArg (fun x => Result.ok (Value.string x) w) this
  · have := run_loadCells (P := Try.prog) (w := w) ⟨b, off, none⟩ L.length (fun j => .int .u8 (L.getD j 0).toNat) (fun j hj => by
      rw [Go.Eng.addr_add]; exact hc j hj)
    rw [this]
    congr 1
    apply Array.ext
    · simp
    · intro i h1 h2
      simp at h1 h2
      simp [h2]
theorem cell_new (w : World) (C : Array Value) (t : TypeId) (i : Nat) : (w.alloc (.cells C t)).cell? ⟨w.heap.size, i, none⟩ = C[i]? := by
  have h : (w.alloc (.cells C t)).heap[w.heap.size]? = some (.cells C t (0, 0)) := by
    show (w.heap.push _)[w.heap.size]? = _
    simp
  unfold World.cell?
  rw [h]
  rfl
theorem frozen_new (w : World) (C : Array Value) (t : TypeId) (i : Nat) : (w.alloc (.cells C t)).frozen? ⟨w.heap.size, i, none⟩ = false := by
  have h : (w.alloc (.cells C t)).heap[w.heap.size]? = some (.cells C t (0, 0)) := by
    show (w.heap.push _)[w.heap.size]? = _
    simp
  unfold World.frozen?
  rw [h]
  simp
theorem conv1 (n : Nat) (hn : n < 256) (w1 : World) : (convert 43 9 (.slice (some ⟨w1.heap.size, 0, none⟩) 1 1)).run Try.prog (w1.alloc (.cells #[.int .u8 (n : Int)] 5)) =
    .ok (.string ⟨#[UInt8.ofNat n]⟩) (w1.alloc (.cells #[.int .u8 (n : Int)] 5)) := by
  refine conv_text [UInt8.ofNat n] _ 0 1 1 rfl _ fun j hj => ?_
  obtain rfl : j = 0 := by omega
  rw [Nat.zero_add, cell_new]
  simp [Nat.mod_eq_of_lt hn]
/-- a number's bytes -/
def encB (n : Nat) : ByteArray := ⟨(Wire.enc n).toArray⟩

/-- what a byte of the row holds -/
def digAt (n p i : Nat) : Nat := if p < i then n / 256 ^ (8 - i) % 256 else 0
theorem be_get : ∀ (k n i : Nat), i < k → ((Wire.be k n).getD i 0).toNat = n / 256 ^ (k - 1 - i) % 256
  | k + 1, n, i, h => by
    rw [Wire.be]
    by_cases hi : i < k
    · have e : (Wire.be k (n / 256) ++ [UInt8.ofNat (n % 256)]).getD i 0 = (Wire.be k (n / 256)).getD i 0 := by
        simp only [List.getD]
        rw [List.getElem?_append_left (by rw [Wire.be_length]; exact hi)]
      rw [e, be_get k (n / 256) i hi, Nat.div_div_eq_div_mul]
      congr 2
      rw [show k + 1 - 1 - i = (k - 1 - i) + 1 by omega, Nat.pow_succ, Nat.mul_comm]
    · obtain rfl : i = k := by omega
      simp only [List.getD]
      rw [List.getElem?_append_right (by rw [Wire.be_length]; exact Nat.le_refl _), Wire.be_length, Nat.sub_self]
      simp

theorem slice9 (B p : Nat) (hp : p < 9) (w : World) : (Instr.sliceAt 69 (.pointer (some ⟨B, 0, none⟩)) (some (.int .i64 (p : Int))) none none).run Try.prog w = .ok (.slice (some ⟨B, p, none⟩) (9 - p) (9 - p)) w := by
  have hn : Try.prog.arrayLen 69 = 9 := by kernel_rfl
  have hi : (Try.prog.info? (Try.prog.elem 69)).map (·.size) = some 1 := by kernel_rfl
  have h := run_sliceAt_array_l (P := Try.prog) w 69 ⟨B, 0, none⟩ (by kernel_rfl) .i64 p (by omega) (by rw [hn]; omega)
  have hs : (sizeOf (Try.prog.elem 69)).run Try.prog w = .ok 1 w := by
    obtain ⟨i, h1, h2⟩ := Option.map_eq_some_iff.1 hi
    exact (run_sizeOf w h1).trans (by rw [show Try.prog.cellsOf (Try.prog.elem 69) = 1 by kernel_rfl])
  rw [h, hn, hs]
  show Result.ok (slicedAt _ _ _ _ _) w = _
  rw [slicedAt, if_neg (by omega), Go.Eng.addr_add, Int.toNat_natCast, Nat.mul_one, Nat.zero_add]
theorem enc_end (n p : Nat) (hn : ¬ n < 248) (hp : p ≤ 7) (hq : n / 256 ^ (8 - p) = 0) (hpn : n / 256 ^ (7 - p) ≠ 0) :
    (Wire.enc n).length = 9 - p ∧ ∀ j, j < 9 - p → ((Wire.enc n).getD j 0).toNat = if j = 0 then 255 - p else digAt n p (p + j) := by
  have h1 : n < 256 ^ (7 - p + 1) := by
    rw [show 7 - p + 1 = 8 - p by omega]
    have := Nat.div_eq_zero_iff.1 hq
    rcases this with h | h
    · exact absurd h (Nat.ne_of_gt (Nat.pow_pos (by omega)))
    · exact h
  have h2 : 256 ^ (7 - p) ≤ n := by
    rcases Nat.lt_or_ge n (256 ^ (7 - p)) with h | h
    · exact absurd (Nat.div_eq_of_lt h) hpn
    · exact h
  have h3 := Wire.sz_is h2 h1
  rw [Wire.enc, if_neg hn, h3]
  refine ⟨by rw [List.length_cons, Wire.be_length]; omega, fun j hj => ?_⟩
  match j, hj with
  | 0, _ =>
    rw [if_pos rfl]
    simp
    omega
  | j + 1, hj =>
    rw [if_neg (by omega), List.getD_cons_succ, be_get _ _ _ (by omega), digAt, if_pos (by omega)]
    rw [show 7 - p + 1 - 1 - j = 8 - (p + (j + 1)) by omega]

set_option maxRecDepth 100000 in
theorem put_one (s : ByteArray) (n : Nat) (b cap : Nat) (w : World) (hb : b < w.heap.size) (hc : w.cell? ⟨b, 0, none⟩ = some (.int .u64 n)) (hn : n < 18446744073709551616) (hs : s.size ≤ 100000) :
    Calls Try.prog 40 #[.string s, .slice (some ⟨b, 0, none⟩) 1 cap] w fun e w' => e = .returned (.string (s ++ encB n)) ∧ Below w.heap.size w w' := by
  go_enter Try.func40, Try.ntmps40
  go_wp2
  go_loopw [0, 11] (fun sv i wr => ∃ k : Nat, k ≤ 1 ∧ i = .int .i64 k ∧ sv = .string (if k = 0 then s else s ++ encB n) ∧ Below w.heap.size w wr) (fun _ i _ => 1 - (intOf i).toNat)
  case atStart => exact ⟨0, by omega, rfl, rfl, Below.refl _ _⟩
  case round =>
    obtain ⟨k, hk, rfl, rfl, hB⟩ := hrel
    have hsz := hB.size
    by_cases h1 : k = 1
    · subst h1
      go_wp2
      go_ret
      exact ⟨rfl, hB⟩
    · obtain rfl : k = 0 := by omega
      have hcell : wr.cell? ⟨b, 0, none⟩ = some (.int .u64 n) := (hB.cell hb).trans hc
      by_cases hsm : n < 248
      · have hcv := conv1 n (by omega) wr
        have he : encB n = ⟨#[UInt8.ofNat n]⟩ := by rw [encB, Wire.enc, if_pos hsm]
        have HE := Lib.hid he
        clear he
        have hz1 : (⟨#[UInt8.ofNat n]⟩ : ByteArray).size = 1 := rfl
        go_wp2
        exact ⟨⟨1, by omega, by go_num, by rw [if_neg (by omega), HE.out], hB.alloc hsz _⟩, by simp [intOf]⟩
      · obtain ⟨wo, rfl⟩ : ∃ wo : World, wo = wr := ⟨_, rfl⟩
        go_wp2
        go_loopw [6, 8] (fun nv av wr => ∃ p : Nat, p ≤ 8 ∧ av = .int .i64 ((p + 1 : Nat) : Int) ∧ nv = .int .u64 ((n / 256 ^ (8 - p) : Nat) : Int) ∧ (p = 8 ∨ n / 256 ^ (7 - p) ≠ 0) ∧
          (∀ i, i < 9 → wr.cell? ⟨wo.heap.size, i, none⟩ = some (.int .u8 ((digAt n p i : Nat) : Int))) ∧ (∀ i, i < 9 → wr.frozen? ⟨wo.heap.size, i, none⟩ = false) ∧ Below w.heap.size w wr) (fun _ av _ => (intOf av).toNat)
        case atStart =>
          refine ⟨8, by omega, rfl, by simp, .inl rfl, fun i hi => ?_, fun i _ => frozen_new _ _ _ _, hB.alloc hsz _⟩
          rw [cell_new, digAt, if_neg (by omega)]
          match i, hi with
          | 0, _ | 1, _ | 2, _ | 3, _ | 4, _ | 5, _ | 6, _ | 7, _ | 8, _ => rfl
        case round =>
          obtain ⟨p, hp, rfl, rfl, hpn, hcs, hfs, hB2⟩ := hrel
          obtain ⟨q, hq⟩ : ∃ q, n / 256 ^ (8 - p) = q := ⟨_, rfl⟩
          have HQ := Lib.hid hq
          rw [hq]
          have hqb : q < 18446744073709551616 := by rw [← hq]; exact Nat.lt_of_le_of_lt (Nat.div_le_self _ _) hn
          have hcp := hcs p (by omega)
          have hfp := hfs p (by omega)
          have HCS := Lib.hid hcs
          have HFS := Lib.hid hfs
          have HPN := Lib.hid hpn
          clear hcs hfs hpn
          by_cases h0 : q = 0
          · subst h0
            clear hq
            have hq' := HQ.out
            have hp7 : p ≤ 7 := by
              rcases Nat.lt_or_ge p 8 with h | h
              · omega
              · obtain rfl : p = 8 := by omega
                simp at hq'; omega
            have hpn' : n / 256 ^ (7 - p) ≠ 0 := by
              rcases HPN.out with h | h
              · omega
              · exact h
            obtain ⟨hL, hG⟩ := enc_end n p hsm hp7 hq' hpn'
            have hsl := slice9 wo.heap.size p (by omega)
            have hcv := conv_text (Wire.enc n) wo.heap.size p (9 - p) (9 - p) hL (wr.setCell ⟨wo.heap.size, p, none⟩ (.int .u8 (255 - (p : Int)))) (fun j hj => by
              by_cases e : j = 0
              · subst e
                rw [Nat.add_zero, World.cell?_setCell_same (h := hcp), hG 0 hj, if_pos rfl, Int.natCast_sub (by omega)]
                rfl
              · rw [World.cell?_setCell_other (h := fun h => by have := congrArg Addr.off h; simp at this; omega), HCS.out (p + j) (by omega), hG j hj, if_neg e])
            have hez : (⟨(Wire.enc n).toArray⟩ : ByteArray).size ≤ 9 := by
              show (Wire.enc n).toArray.size ≤ 9
              rw [List.size_toArray, hL]; omega
            clear hq' hpn' hG hL
            go_wp2
            exact ⟨⟨1, by omega, by go_num, rfl, hB2.setCell hsz _⟩, by simp [intOf]⟩
          · have hp1 : 1 ≤ p := by
              rcases Nat.eq_zero_or_pos p with h | h
              · subst h
                exact absurd (by rw [← hq]; exact Nat.div_eq_of_lt hn) h0
              · exact h
            clear hq
            go_wp2
            obtain ⟨r, rfl⟩ : ∃ r, p = r + 1 := ⟨p - 1, by omega⟩
            have hq' := HQ.out
            have e7 : 7 - r = 8 - (r + 1) := by omega
            have e8 : n / 256 ^ (8 - r) = q / 256 := by rw [show 8 - r = (8 - (r + 1)) + 1 by omega, Nat.pow_succ, ← Nat.div_div_eq_div_mul, hq']
            refine ⟨⟨r, by omega, rfl, by rw [e8]; rfl, .inr (by rw [e7, hq']; exact h0), fun i hi => ?_, fun i hi => ?_, hB2.setCell hsz _⟩, by simp [intOf]; omega⟩
            · by_cases e : i = r + 1
              · subst e
                rw [World.cell?_setCell_same (h := hcp), digAt, if_pos (by omega), hq']
                rfl
              · rw [World.cell?_setCell_other (h := fun h => e (by simpa using (congrArg Addr.off h).symm)), HCS.out i hi]
                unfold digAt
                by_cases h5 : r + 1 < i
                · rw [if_pos h5, if_pos (by omega)]
                · rw [if_neg h5, if_neg (by omega)]
            · have := HFS.out i hi
              simpa using this
end Go.Proofs.Ytpdckafighfadaa
