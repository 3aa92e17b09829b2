/-
  The law's function that turns bits in a text. (under way)
-/
import Derived.Test.YtnialnigkbkicaaCrcSeal
import Derived.Test.YtnialnigkbkicaaCrcBurst
import Derived.Lib.ConvBytes
namespace Go.Proofs.Ytnialnigkbkicaa
open Go.RowKit Go.ChangeShapes Go.WideShapes

/-- a text in which bits are turned -/
def turnB (pat at' : Nat) (s : ByteArray) : ByteArray := ⟨(Crc.turnL pat at' 32 s.data.toList).toArray⟩

theorem bytesWorld_below' (w : World) (e : TypeId) (s : ByteArray) : Below w.heap.size w (Lib.bytesWorld w e s) :=
  ⟨rfl, rfl, rfl, by rw [Lib.bytesWorld_size]; omega, fun k hk => Lib.bytesWorld_at_old w e s k hk⟩
theorem bytesWorld_frozen (w : World) (e : TypeId) (s : ByteArray) (j : Nat) (hj : j < s.size) : (Lib.bytesWorld w e s).frozen? ⟨w.heap.size, j, none⟩ = false := by
  have h : j < (Lib.bytesCells w e s).size := by simp [Lib.bytesCells]; omega
  simp only [World.frozen?, Lib.bytesWorld_at_new]
  simp; omega

theorem push_list : ∀ (L A : List UInt8), (L.map fun b => ((b.toNat : Nat) : Int)).foldl (fun r n => r.push (UInt8.ofNat n.toNat)) (⟨A.toArray⟩ : ByteArray) = ⟨(A ++ L).toArray⟩
  | [], A => by simp
  | b :: L, A => by
    have h : (⟨A.toArray⟩ : ByteArray).push (UInt8.ofNat ((b.toNat : Nat) : Int).toNat) = ⟨(A ++ [b]).toArray⟩ := by
      simp [ByteArray.push]
    rw [List.map_cons, List.foldl_cons, h, push_list L (A ++ [b]), List.append_assoc]
    rfl
theorem conv_text (L : List UInt8) (b cap n : Nat) (hn : L.length = n) (w : World) (hc : ∀ j, j < n → w.cell? ⟨b, j, none⟩ = some (.int .u8 (L.getD j 0).toNat)) :
    (convert 35 9 (.slice (some ⟨b, 0, none⟩) n cap)).run Try.prog w = .ok (.string ⟨L.toArray⟩) w := by
  subst hn
  rw [run_convert_bytes_string _ _ _ 5 _ _ _ Try.underlying35 Try.underlying5 Try.underlying9]
  rw [run_bytesToString _ _ _ _ (L.map fun b => ((b.toNat : Nat) : Int))]
  · have := push_list L []
    rw [List.nil_append] at this
    exact congrArg (fun x => Result.ok (Value.string x) w) this
  · have := run_loadCells (P := Try.prog) (w := w) ⟨b, 0, none⟩ L.length (fun j => .int .u8 (L.getD j 0).toNat) (fun j hj => by
      have e : (⟨b, 0, none⟩ : Addr).add j = ⟨b, j, none⟩ := by rw [Eng.addr_add, Nat.zero_add]
      rw [e]; exact hc j hj)
    rw [this]
    congr 1
    apply Array.ext
    · simp
    · intro i h1 h2
      simp at h1 h2
      simp [h2]

theorem odd_bit (pat k : Nat) (hp : pat < 4294967296) : (bits .and .u32 ((pat : Int) / 2 ^ k) 1 = 1) ↔ pat.testBit k = true := by
  have h1 : ((pat / 2 ^ k : Nat) : Int) = (pat : Int) / 2 ^ k := by simp
  have h2 : pat / 2 ^ k ≤ pat := Nat.div_le_self _ _
  rw [← h1, and1 _ (by omega), Nat.testBit_eq_decide_div_mod_eq, decide_eq_true_eq]
  omega
theorem xor_bit (x : UInt8) (m : Nat) (hm : m < 8) : bits .xor .u8 (x.toNat : Int) (2 ^ m % 256) = ((x ^^^ UInt8.ofNat (2 ^ m)).toNat : Nat) := by
  have hx : x.toNat < 256 := UInt8.toNat_lt _
  have h2 : (2 : Int) ^ m % 256 = ((2 ^ m % 256 : Nat) : Int) := by simp
  have h3 := u8_xor_nat x.toNat (2 ^ m % 256) hx (Nat.mod_lt _ (by omega))
  rw [h2, h3]
  simp
theorem turn_in (s : List UInt8) (pat at' k : Nat) (x : UInt8) (hb : pat.testBit k = true) (hlt : (at' + k) / 8 < s.length) (hx : (Crc.turnL pat at' k s).getD ((at' + k) / 8) 0 = x) :
    Crc.turnL pat at' (k + 1) s = (Crc.turnL pat at' k s).set ((at' + k) / 8) (x ^^^ UInt8.ofNat (2 ^ ((at' + k) % 8))) := by
  rw [Crc.turnL_succ, Crc.turnOne, if_pos ⟨hb, by rw [Crc.turnL_length]; exact hlt⟩, hx]
theorem turn_not (s : List UInt8) (pat at' k : Nat) (h : ¬ (pat.testBit k = true ∧ (at' + k) / 8 < s.length)) :
    Crc.turnL pat at' (k + 1) s = Crc.turnL pat at' k s := by
  rw [Crc.turnL_succ, Crc.turnOne, if_neg (by rw [Crc.turnL_length]; exact h)]

set_option maxRecDepth 100000 in
theorem turned_walk (s : ByteArray) (pat at' : Nat) (hp : pat < 4294967296) (ha : at' < 100000) (w : World) (hs : s.size ≤ 10000) :
    Calls Try.prog 17 #[.string s, .int .i64 at', .int .u32 pat] w fun e w' => e = .returned (.string (turnB pat at' s)) ∧ Below w.heap.size w w' := by
  have hconv := Lib.run_convert_string_bytes (P := Try.prog) w 9 35 5 s Try.underlying9 Try.underlying35 Try.underlying5
  have hcell := Lib.bytesWorld_cell w 5 s
  have hfro := bytesWorld_frozen w 5 s
  have hbel := bytesWorld_below' w 5 s
  generalize grownCap w s.size 0 5 = cap at hconv
  generalize Lib.bytesWorld w 5 s = w0 at hconv hcell hfro hbel
  have HC := Lib.hid hcell
  have HF := Lib.hid hfro
  have HB := Lib.hid hbel
  clear hcell hfro hbel
  go_enter Try.func17, Try.ntmps17
  go_wp2
  go_loopw [8] (fun i wr => ∃ k : Nat, k ≤ 32 ∧ i = .int .i64 k ∧ (∀ j, j < s.size → wr.cell? ⟨w.heap.size, j, none⟩ = some (.int .u8 ((Crc.turnL pat at' k s.data.toList).getD j 0).toNat)) ∧ (∀ j, j < s.size → wr.frozen? ⟨w.heap.size, j, none⟩ = false) ∧ Below w.heap.size w wr) (fun i _ => 32 - (intOf i).toNat)
  case atStart => exact ⟨0, Nat.zero_le _, rfl, HC.out, HF.out, HB.out⟩
  case round =>
    obtain ⟨k, hk, rfl, hc, hf, hb⟩ := hrel
    have HC1 := Lib.hid hc
    have HF1 := Lib.hid hf
    have HB1 := Lib.hid hb
    clear hc hf hb
    by_cases h32 : k < 32
    rotate_left
    · obtain rfl : k = 32 := by omega
      have hconv2 := conv_text (Crc.turnL pat at' 32 s.data.toList) w.heap.size cap s.size (by rw [Crc.turnL_length]; simp) wr HC1.out
      go_wp2
      go_ret
      exact ⟨rfl, HB1.out⟩
    go_wp2
    · have hlt : (at' + k) / 8 < s.size := by have h : ((at' : Int) + k) / 8 < s.size := by assumption
                                              omega
      have hcx : wr.cell? ⟨w.heap.size, (at' + k) / 8, none⟩ = some (.int .u8 ((Crc.turnL pat at' k s.data.toList).getD ((at' + k) / 8) 0).toNat) := HC1.out _ hlt
      have hfx : wr.frozen? ⟨w.heap.size, (at' + k) / 8, none⟩ = false := HF1.out _ hlt
      generalize hx : ((Crc.turnL pat at' k s.data.toList).getD ((at' + k) / 8) 0) = x at hcx
      have HX := Lib.hid hx
      clear hx
      have hx256 : x.toNat < 256 := UInt8.toNat_lt _
      go_region
      go_wp2
      have hbit : bits .and .u32 ((pat : Int) / 2 ^ k) 1 = 1 := by assumption
      rw [odd_bit pat k hp] at hbit
      rw [xor_bit x _ (Nat.mod_lt _ (by omega))]
      have ht := turn_in s.data.toList pat at' k x hbit (by simpa using hlt) HX.out
      refine ⟨⟨k + 1, by omega, by go_num, fun j hj => ?_, fun j hj => ?_, ?_⟩, by simp [intOf]; omega⟩
      · rw [ht]
        by_cases e : j = (at' + k) / 8
        · subst e
          rw [World.cell?_drew, World.cell?_setCell_same (h := hcx)]
          have hl : (at' + k) / 8 < (Crc.turnL pat at' k s.data.toList).length := by rw [Crc.turnL_length]; simpa using hlt
          simp [List.getD, hl]
        · rw [World.cell?_drew, World.cell?_setCell_other (h := fun h => e (by simpa using (congrArg Addr.off h).symm)), HC1.out j hj]
          simp only [List.getD, List.getElem?_set_ne (Ne.symm e)]
      · have := HF1.out j hj
        simpa using this
      · exact (HB1.out.setCell (Nat.le_refl _) _).drew
    · have hge : (s.size : Int) ≤ ((at' : Int) + k) / 8 := by assumption
      have ht := turn_not s.data.toList pat at' k (fun h => by have := h.2; simp at this; omega)
      refine ⟨⟨k + 1, by omega, by go_num, ?_, HF1.out, HB1.out⟩, by simp [intOf]; omega⟩
      rw [ht]
      exact HC1.out
    · have hbit : ¬ bits .and .u32 ((pat : Int) / 2 ^ k) 1 = 1 := by assumption
      rw [odd_bit pat k hp] at hbit
      have ht := turn_not s.data.toList pat at' k (fun h => hbit h.1)
      refine ⟨⟨k + 1, by omega, by go_num, ?_, HF1.out, HB1.out⟩, by simp [intOf]; omega⟩
      rw [ht]
      exact HC1.out
end Go.Proofs.Ytnialnigkbkicaa
