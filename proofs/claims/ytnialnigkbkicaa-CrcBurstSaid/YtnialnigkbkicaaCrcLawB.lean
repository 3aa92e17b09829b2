/-
  The law CrcBurst, walked: it returns true at every text, place, pattern. Conditions: a text that fits the model's memory; numbers of their kinds.
-/
import Derived.Test.YtnialnigkbkicaaCrcTurn
namespace Go.Proofs.Ytnialnigkbkicaa
open Go.RowKit Go.ChangeShapes Go.WideShapes

theorem crcL_eq (l : List UInt8) : crcL l = Crc.crcN l := by
  rw [crcL, Crc.crcN, Crc.reg, Crc.feed_bits]
  rfl
theorem sealB_list (s : ByteArray) : (sealB s).data.toList = Crc.sealL s.data.toList := by
  rw [sealB, Crc.sealL, ← crcL_eq]
  simp [four, Crc.fourL]
theorem sealB_size (s : ByteArray) : (sealB s).size = s.size + 4 := by
  have h4 : (four (crcL s.data.toList)).size = 4 := rfl
  rw [sealB, ByteArray.size_append, h4]
theorem ba_list {a b : ByteArray} (h : a.data.toList = b.data.toList) : a = b := by
  cases a; cases b; simp at h; rw [h]
theorem extract_list (s : ByteArray) (n : Nat) : (s.extract 0 n).data.toList = s.data.toList.take n := by simp
theorem sealB_front (s : ByteArray) : (sealB s).extract 0 ((sealB s).size - 4) = s := by
  apply ba_list
  rw [extract_list, sealB_size, sealB_list, Crc.sealL]
  have : s.size + 4 - 4 = s.data.toList.length := by simp
  rw [this, List.take_left]
theorem turnB_size (p a : Nat) (s : ByteArray) : (turnB p a s).size = s.size := by
  have := Crc.turnL_length p a s.data.toList 32
  show (Crc.turnL p a 32 s.data.toList).toArray.size = s.size
  rw [List.size_toArray, this]
  simp
/-- a sealed text, bits turned: opened just where it is as it was -/
theorem turn_opened (c : ByteArray) (p a : Nat) (ha : a < 8 * (sealB c).size) : openIs (turnB p a (sealB c)) = decide (turnB p a (sealB c) = sealB c) := by
  have hz := sealB_size c
  have hzl : (Crc.sealL c.data.toList).length = (sealB c).size := by rw [← sealB_list]; simp
  have h := Crc.turn_sealed c.data.toList p a (by rw [hzl]; exact ha)
  rw [openIs, decide_eq_decide]
  have e : (turnB p a (sealB c)).data.toList = Crc.turnL p a 32 (Crc.sealL c.data.toList) := by rw [turnB, ← sealB_list]
  constructor
  · rintro ⟨_, h2⟩
    apply ba_list
    rw [e, sealB_list]
    apply h.1
    have h3 := congrArg (fun x : ByteArray => x.data.toList) h2
    rw [sealB_list, extract_list, e] at h3
    rw [Crc.turnL_length, hzl]
    rw [turnB_size] at h3
    exact h3
  · intro h1
    rw [h1]
    exact ⟨by omega, by rw [sealB_front]⟩

set_option maxRecDepth 100000 in
theorem crcBurst_walk (s : ByteArray) (a p : Nat) (hs : s.size ≤ maxLen) (ha : a < 65536) (hp : p < 4294967296) (w : World) :
    Calls Try.prog 5 #[.string s, .int .u16 a, .int .u32 p] w fun e w' => e = .returned (.bool true) ∧ Below w.heap.size w w' := by
  unfold maxLen at hs
  have hz := cutB_size s
  obtain ⟨c, hcE⟩ : ∃ c, cutB s = c := ⟨_, rfl⟩
  have hcut : ∀ w : World, Calls Try.prog 9 #[.string s] w fun e w' => e = .returned (.string c) ∧ w = w' := fun w => by rw [← hcE]; exact cut_walk s w (by omega)
  rw [hcE] at hz
  clear hcE
  have htz := sealB_size c
  have hfront := sealB_front c
  have hto := turn_opened c p (a % (8 * (sealB c).size)) (Nat.mod_lt _ (by omega))
  have hseal : ∀ w : World, Calls Try.prog 15 #[.string c] w fun e w' => e = .returned (.string (sealB c)) ∧ Below w.heap.size w w' := fun w => seal_walk c w (by omega)
  have hopt : openT (sealB c) = c ∧ openIs (sealB c) = true := by
    have h : 4 ≤ (sealB c).size ∧ sealB ((sealB c).extract 0 ((sealB c).size - 4)) = sealB c := ⟨by omega, by rw [hfront]⟩
    exact ⟨by rw [openT, if_pos h, hfront], by rw [openIs, decide_eq_true h]⟩
  clear hfront
  generalize sealB c = t at *
  have hus := turnB_size p (a % (8 * t.size)) t
  have hpl : a % (8 * t.size) < 100000 := Nat.lt_of_le_of_lt (Nat.mod_le _ _) (by omega)
  have hturn : ∀ (v : Int) (w : World), v = ((a % (8 * t.size) : Nat) : Int) → Calls Try.prog 17 #[.string t, .int .i64 v, .int .u32 p] w fun e w' => e = .returned (.string (turnB p (a % (8 * t.size)) t)) ∧ Below w.heap.size w w' := fun v w h => by
    subst h
    exact turned_walk t p _ hp hpl w (by omega)
  generalize turnB p (a % (8 * t.size)) t = u at *
  have HZ := Lib.hid htz
  have hus' : u.size ≤ 4008 := by omega
  have hts' : t.size ≤ 4008 := by omega
  have HT := Lib.hid (show openT t = c ∧ openIs t = true from hopt)
  by_cases hu : u = t
  · subst hu
    have HU := HT
    clear hto hus hpl hopt
    have hB := Below.refl w.heap.size w
    go_enter Try.func5, Try.ntmps5
    go_wp2_with (first
      | (go_at_call 12; refine (works_calls _).mono ?_; rintro e w1 ⟨rfl, hw1⟩; have hB := hB.trans (hw1.mono hB.size))
      | (go_at_call 9; refine (hcut _).mono ?_; rintro e w2 ⟨rfl, rfl⟩)
      | (go_at_call 15; refine (hseal _).mono ?_; rintro e w2 ⟨rfl, hw2⟩; have hB := hB.trans (hw2.mono hB.size))
      | (go_at_call 17; refine (hturn _ _ (by rw [HZ.out]; simp)).mono ?_; rintro e w4 ⟨rfl, hw4⟩; have hB := hB.trans (hw4.mono hB.size))
      | (go_at_call 13; refine (open_any _ _ (by assumption)).mono ?_; rintro e w3 ⟨rfl, hw3⟩; have hB := hB.trans (hw3.mono hB.size); first | rw [HT.out.1, HT.out.2] | rw [HU.out.1, HU.out.2]))
    go_ret
    exact ⟨rfl, hB⟩
  · have hoi : openIs u = false := by rw [hto, decide_eq_false hu]
    have hot : openT u = ⟨#[]⟩ := by
      unfold openIs at hoi; unfold openT
      rw [if_neg (of_decide_eq_false hoi)]
    have hne : (u.toList == t.toList) = false := by
      rw [Bool.eq_false_iff]
      intro h
      rw [ByteArray.toList_eq, ByteArray.toList_eq, beq_iff_eq] at h
      exact hu (Eng.ba_ext h)
    have HU := Lib.hid (And.intro hot hoi)
    clear hto hu hoi hot hpl hopt hus
    have hB := Below.refl w.heap.size w
    go_enter Try.func5, Try.ntmps5
    go_wp2_with (first
      | (go_at_call 12; refine (works_calls _).mono ?_; rintro e w1 ⟨rfl, hw1⟩; have hB := hB.trans (hw1.mono hB.size))
      | (go_at_call 9; refine (hcut _).mono ?_; rintro e w2 ⟨rfl, rfl⟩)
      | (go_at_call 15; refine (hseal _).mono ?_; rintro e w2 ⟨rfl, hw2⟩; have hB := hB.trans (hw2.mono hB.size))
      | (go_at_call 17; refine (hturn _ _ (by rw [HZ.out]; simp)).mono ?_; rintro e w4 ⟨rfl, hw4⟩; have hB := hB.trans (hw4.mono hB.size))
      | (go_at_call 13; refine (open_any _ _ (by assumption)).mono ?_; rintro e w3 ⟨rfl, hw3⟩; have hB := hB.trans (hw3.mono hB.size); first | rw [HT.out.1, HT.out.2] | rw [HU.out.1, HU.out.2]))
    go_ret
    exact ⟨rfl, hB⟩
theorem crcBurst_calls (a0 : ByteArray) (a1 : Int) (a2 : Int) (w0 : a0.size ≤ maxLen) (w1 : (Lit.int .u16 a1).wf = true) (w2 : (Lit.int .u32 a2).wf = true) (w : World) :
    Calls Try.prog 5 #[.string a0, .int .u16 a1, .int .u32 a2] w fun e w' => e = .returned (.bool true) ∧ Below w.heap.size w w' := by
  have h1 : 0 ≤ a1 ∧ a1 < 65536 := by simp [Lit.wf, IntKind.min, IntKind.max, IntKind.signed, IntKind.bits] at w1; omega
  have h2 : 0 ≤ a2 ∧ a2 < 4294967296 := by simp [Lit.wf, IntKind.min, IntKind.max, IntKind.signed, IntKind.bits] at w2; omega
  have := crcBurst_walk a0 a1.toNat a2.toNat w0 (by omega) (by omega) w
  rwa [Int.toNat_of_nonneg h1.1, Int.toNat_of_nonneg h2.1] at this
end Go.Proofs.Ytnialnigkbkicaa
