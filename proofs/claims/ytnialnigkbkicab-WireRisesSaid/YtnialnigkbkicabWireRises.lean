/-
  The law WireRises, walked: it returns true at every two numbers and every text. Conditions: a text that fits the model's memory; numbers of 64 bits.
-/
import Derived.Test.YtnialnigkbkicabWireRead
import Derived.Test.YtnialnigkbkicabEngO
namespace Go.Proofs.Ytnialnigkbkicab
open Go.RowKit Go.ChangeShapes Go.WideShapes

open Go.Eng in
theorem works_run : isTrue (callE Try.prog (fun _ _ => none) 3000 40 (.fn 15 []) st0) = true := by kernel_rfl
theorem works_calls (w : World) : Calls Try.prog 15 #[] w fun e w' => e = .returned (.bool true) ∧ Below w.heap.size w w' :=
  Eng.calls_true Eng.none_ok works_run w
theorem encB_list (n : Nat) : (encB n).toList = Wire.enc n := by rw [ByteArray.toList_eq]; simp [encB]
theorem encB_size (n : Nat) : (encB n).size = (Wire.enc n).length := by simp [encB, ByteArray.size]
theorem put_empty (n : Nat) (w : World) (hn : n < 18446744073709551616) :
    Calls Try.prog 16 #[.string ⟨#[]⟩, .int .u64 n] w fun e w' => e = .returned (.string (encB n)) ∧ Below w.heap.size w w' := by
  have h := putnum_walk ⟨#[]⟩ n w hn (by decide)
  have e : (⟨#[]⟩ : ByteArray) ++ encB n = encB n := by
    apply ByteArray.ext
    simp
  rwa [e] at h

theorem lt_of_cell {w : World} {a : Addr} {v : Value} (h : w.cell? a = some v) : a.block < w.heap.size := by
  rcases Nat.lt_or_ge a.block w.heap.size with h' | h'
  · exact h'
  · simp [World.cell?, Array.getElem?_eq_none h'] at h
theorem read_facts (s rest : ByteArray) (n : Nat) (h : s.data.toList = Wire.enc n ++ rest.data.toList) :
    (encB n).size ≤ s.size ∧ ((s.extract 0 (encB n).size).toList == (encB n).toList) = true ∧ ((rest.toList.isEmpty = true ∧ s.size = (encB n).size) ∨ (rest.toList.isEmpty = false ∧ (encB n).size < s.size ∧ ((s.size : Int) == ((encB n).size : Int)) = false)) := by
  have h1 : s.size = (encB n).size + rest.size := by
    have := congrArg List.length h
    simpa [encB_size] using this
  refine ⟨by omega, ?_, ?_⟩
  · rw [beq_iff_eq, encB_list, ByteArray.toList_eq]
    have h2 : (s.extract 0 (encB n).size).data.toList = s.data.toList.take (encB n).size := by simp
    rw [h2, h, encB_size, List.take_left]
  · have h3 : rest.toList.length = rest.size := by rw [ByteArray.toList_eq]; simp
    by_cases h0 : rest.size = 0
    · exact .inl ⟨by rw [List.isEmpty_iff, ← List.length_eq_zero_iff]; omega, by omega⟩
    · refine .inr ⟨?_, by omega, by rw [beq_eq_false_iff_ne]; omega⟩
      rw [Bool.eq_false_iff, ne_eq, List.isEmpty_iff, ← List.length_eq_zero_iff]
      omega
set_option maxRecDepth 100000 in
set_option maxHeartbeats 4000000 in
theorem core_lt (a b : Nat) (X Y : ByteArray) (s : ByteArray) (hs : s.size ≤ 9223372036854775807) (w : World) (hx : 1 ≤ X.size ∧ X.size ≤ 9) (hy : 1 ≤ Y.size ∧ Y.size ≤ 9) (ha : a < 18446744073709551616) (hb : b < 18446744073709551616)
    (hputa : ∀ w, Calls Try.prog 16 #[.string ⟨#[]⟩, .int .u64 a] w fun e w' => e = .returned (.string X) ∧ Below w.heap.size w w')
    (hputb : ∀ w, Calls Try.prog 16 #[.string ⟨#[]⟩, .int .u64 b] w fun e w' => e = .returned (.string Y) ∧ Below w.heap.size w w')
    (hab : a < b) (hl : Op.bytesLess X.toList Y.toList = true) (he : (X.toList == Y.toList) = false) (hne : ((a : Int) == (b : Int)) = false) (hpf : ((Y.extract 0 X.size).toList == X.toList) = false) :
    Calls Try.prog 4 #[.int .u64 a, .int .u64 b, .string s] w fun e w' => e = .returned (.bool true) ∧ Below w.heap.size w w' := by
  have hB := Below.refl w.heap.size w
  obtain ⟨hx1, hx2⟩ := hx
  obtain ⟨hy1, hy2⟩ := hy
  rcases Nat.lt_or_ge Y.size X.size with hxy | hxy
  all_goals
    go_enter Try.func4, Try.ntmps4
    go_wp2_with (first
      | (go_at_call 16; refine (hputa _).mono ?_; rintro e w1 ⟨rfl, hw1⟩; have hB := hB.trans (hw1.mono hB.size))
      | (go_at_call 16; refine (hputb _).mono ?_; rintro e w1 ⟨rfl, hw1⟩; have hB := hB.trans (hw1.mono hB.size))
      | (go_at_call 6; refine (newreader_walk s _).mono ?_; rintro e w2 ⟨rfl, rfl⟩))
    go_at_call 9
    refine (num_walk _ s _ (by simp) (cell_new _ _ _ _) (cell_new _ _ _ _) (frozen_new _ _ _ _) (frozen_new _ _ _ _) hs).mono ?_
    rintro e w3 ⟨n, bad, rest, rfl, hn, hw3, hc0, hc1, hbad, hgood⟩
    have hB := (hB.alloc hB.size _).trans (hw3.mono hB.size)
    cases bad with
    | true =>
      obtain rfl := hbad rfl
      clear hbad hgood
      go_wp2_with (first
        | (go_at_call 11; refine (ok_walk _ _ _ hc1).mono ?_; rintro e w4 ⟨rfl, rfl⟩)
        | (go_at_call 13; refine (end_walk _ _ _ _ hc1 hc0).mono ?_; rintro e w4 ⟨rfl, rfl⟩)
        | (go_at_call 15; refine (works_calls _).mono ?_; rintro e w6 ⟨rfl, hw6⟩; have hB := hB.trans (hw6.mono hB.size)))
      go_ret
      exact ⟨rfl, hB⟩
    | false =>
      obtain ⟨hz1, hz2, hz3⟩ := read_facts s rest n (hgood rfl)
      have hputn := fun w => put_empty n w hn
      have hzn := (Wire.enc_length hn)
      rw [← encB_size] at hzn
      clear hbad hgood
      generalize encB n = Z at *
      rcases hz3 with ⟨hz3, hz4⟩ | ⟨hz3, hz4, hz5⟩
      all_goals go_wp2_with (first
        | (go_at_call 11; refine (ok_walk _ _ _ hc1).mono ?_; rintro e w4 ⟨rfl, rfl⟩)
        | (go_at_call 16; refine (hputn _).mono ?_; rintro e w1 ⟨rfl, hw1⟩; have hc0 := (hw1.cell (lt_of_cell hc0)).trans hc0; have hc1 := (hw1.cell (lt_of_cell hc1)).trans hc1; have hB := hB.trans (hw1.mono hB.size))
        | (go_at_call 13; refine (end_walk _ _ _ _ hc1 hc0).mono ?_; rintro e w4 ⟨rfl, rfl⟩)
        | (go_at_call 15; refine (works_calls _).mono ?_; rintro e w6 ⟨rfl, hw6⟩; have hB := hB.trans (hw6.mono hB.size)))
      all_goals go_ret
      all_goals exact ⟨rfl, hB⟩
set_option maxRecDepth 100000 in
set_option maxHeartbeats 4000000 in
theorem core_gt (a b : Nat) (X Y : ByteArray) (s : ByteArray) (hs : s.size ≤ 9223372036854775807) (w : World) (hx : 1 ≤ X.size ∧ X.size ≤ 9) (hy : 1 ≤ Y.size ∧ Y.size ≤ 9) (ha : a < 18446744073709551616) (hb : b < 18446744073709551616)
    (hputa : ∀ w, Calls Try.prog 16 #[.string ⟨#[]⟩, .int .u64 a] w fun e w' => e = .returned (.string X) ∧ Below w.heap.size w w')
    (hputb : ∀ w, Calls Try.prog 16 #[.string ⟨#[]⟩, .int .u64 b] w fun e w' => e = .returned (.string Y) ∧ Below w.heap.size w w')
    (hab : b < a) (hl : Op.bytesLess X.toList Y.toList = false) (he : (X.toList == Y.toList) = false) (hne : ((a : Int) == (b : Int)) = false) (hpf : ((Y.extract 0 X.size).toList == X.toList) = false) :
    Calls Try.prog 4 #[.int .u64 a, .int .u64 b, .string s] w fun e w' => e = .returned (.bool true) ∧ Below w.heap.size w w' := by
  have hB := Below.refl w.heap.size w
  obtain ⟨hx1, hx2⟩ := hx
  obtain ⟨hy1, hy2⟩ := hy
  rcases Nat.lt_or_ge Y.size X.size with hxy | hxy
  all_goals
    go_enter Try.func4, Try.ntmps4
    go_wp2_with (first
      | (go_at_call 16; refine (hputa _).mono ?_; rintro e w1 ⟨rfl, hw1⟩; have hB := hB.trans (hw1.mono hB.size))
      | (go_at_call 16; refine (hputb _).mono ?_; rintro e w1 ⟨rfl, hw1⟩; have hB := hB.trans (hw1.mono hB.size))
      | (go_at_call 6; refine (newreader_walk s _).mono ?_; rintro e w2 ⟨rfl, rfl⟩))
    go_at_call 9
    refine (num_walk _ s _ (by simp) (cell_new _ _ _ _) (cell_new _ _ _ _) (frozen_new _ _ _ _) (frozen_new _ _ _ _) hs).mono ?_
    rintro e w3 ⟨n, bad, rest, rfl, hn, hw3, hc0, hc1, hbad, hgood⟩
    have hB := (hB.alloc hB.size _).trans (hw3.mono hB.size)
    cases bad with
    | true =>
      obtain rfl := hbad rfl
      clear hbad hgood
      go_wp2_with (first
        | (go_at_call 11; refine (ok_walk _ _ _ hc1).mono ?_; rintro e w4 ⟨rfl, rfl⟩)
        | (go_at_call 13; refine (end_walk _ _ _ _ hc1 hc0).mono ?_; rintro e w4 ⟨rfl, rfl⟩)
        | (go_at_call 15; refine (works_calls _).mono ?_; rintro e w6 ⟨rfl, hw6⟩; have hB := hB.trans (hw6.mono hB.size)))
      go_ret
      exact ⟨rfl, hB⟩
    | false =>
      obtain ⟨hz1, hz2, hz3⟩ := read_facts s rest n (hgood rfl)
      have hputn := fun w => put_empty n w hn
      have hzn := (Wire.enc_length hn)
      rw [← encB_size] at hzn
      clear hbad hgood
      generalize encB n = Z at *
      rcases hz3 with ⟨hz3, hz4⟩ | ⟨hz3, hz4, hz5⟩
      all_goals go_wp2_with (first
        | (go_at_call 11; refine (ok_walk _ _ _ hc1).mono ?_; rintro e w4 ⟨rfl, rfl⟩)
        | (go_at_call 16; refine (hputn _).mono ?_; rintro e w1 ⟨rfl, hw1⟩; have hc0 := (hw1.cell (lt_of_cell hc0)).trans hc0; have hc1 := (hw1.cell (lt_of_cell hc1)).trans hc1; have hB := hB.trans (hw1.mono hB.size))
        | (go_at_call 13; refine (end_walk _ _ _ _ hc1 hc0).mono ?_; rintro e w4 ⟨rfl, rfl⟩)
        | (go_at_call 15; refine (works_calls _).mono ?_; rintro e w6 ⟨rfl, hw6⟩; have hB := hB.trans (hw6.mono hB.size)))
      all_goals go_ret
      all_goals exact ⟨rfl, hB⟩
set_option maxRecDepth 100000 in
set_option maxHeartbeats 4000000 in
theorem core_eq (a : Nat) (X : ByteArray) (s : ByteArray) (hs : s.size ≤ 9223372036854775807) (w : World) (hx : 1 ≤ X.size ∧ X.size ≤ 9) (ha : a < 18446744073709551616)
    (hputa : ∀ w, Calls Try.prog 16 #[.string ⟨#[]⟩, .int .u64 a] w fun e w' => e = .returned (.string X) ∧ Below w.heap.size w w')
    (hl : Op.bytesLess X.toList X.toList = false) :
    Calls Try.prog 4 #[.int .u64 a, .int .u64 a, .string s] w fun e w' => e = .returned (.bool true) ∧ Below w.heap.size w w' := by
  have hB := Below.refl w.heap.size w
  obtain ⟨hx1, hx2⟩ := hx
  go_enter Try.func4, Try.ntmps4
  go_wp2_with (first
    | (go_at_call 16; refine (hputa _).mono ?_; rintro e w1 ⟨rfl, hw1⟩; have hB := hB.trans (hw1.mono hB.size))
    | (go_at_call 6; refine (newreader_walk s _).mono ?_; rintro e w2 ⟨rfl, rfl⟩))
  go_at_call 9
  refine (num_walk _ s _ (by simp) (cell_new _ _ _ _) (cell_new _ _ _ _) (frozen_new _ _ _ _) (frozen_new _ _ _ _) hs).mono ?_
  rintro e w3 ⟨n, bad, rest, rfl, hn, hw3, hc0, hc1, hbad, hgood⟩
  have hB := (hB.alloc hB.size _).trans (hw3.mono hB.size)
  cases bad with
  | true =>
    obtain rfl := hbad rfl
    clear hbad hgood
    go_wp2_with (first
      | (go_at_call 11; refine (ok_walk _ _ _ hc1).mono ?_; rintro e w4 ⟨rfl, rfl⟩)
      | (go_at_call 13; refine (end_walk _ _ _ _ hc1 hc0).mono ?_; rintro e w4 ⟨rfl, rfl⟩)
      | (go_at_call 15; refine (works_calls _).mono ?_; rintro e w6 ⟨rfl, hw6⟩; have hB := hB.trans (hw6.mono hB.size)))
    go_ret
    exact ⟨rfl, hB⟩
  | false =>
    obtain ⟨hz1, hz2, hz3⟩ := read_facts s rest n (hgood rfl)
    have hputn := fun w => put_empty n w hn
    have hzn := (Wire.enc_length hn)
    rw [← encB_size] at hzn
    clear hbad hgood
    generalize encB n = Z at *
    rcases hz3 with ⟨hz3, hz4⟩ | ⟨hz3, hz4, hz5⟩
    all_goals go_wp2_with (first
      | (go_at_call 11; refine (ok_walk _ _ _ hc1).mono ?_; rintro e w4 ⟨rfl, rfl⟩)
      | (go_at_call 16; refine (hputn _).mono ?_; rintro e w1 ⟨rfl, hw1⟩; have hc0 := (hw1.cell (lt_of_cell hc0)).trans hc0; have hc1 := (hw1.cell (lt_of_cell hc1)).trans hc1; have hB := hB.trans (hw1.mono hB.size))
      | (go_at_call 13; refine (end_walk _ _ _ _ hc1 hc0).mono ?_; rintro e w4 ⟨rfl, rfl⟩)
      | (go_at_call 15; refine (works_calls _).mono ?_; rintro e w6 ⟨rfl, hw6⟩; have hB := hB.trans (hw6.mono hB.size)))
    all_goals go_ret
    all_goals exact ⟨rfl, hB⟩
theorem wireRises_walk (a b : Nat) (s : ByteArray) (ha : a < 18446744073709551616) (hb : b < 18446744073709551616) (hs : s.size ≤ 9223372036854775807) (w : World) :
    Calls Try.prog 4 #[.int .u64 a, .int .u64 b, .string s] w fun e w' => e = .returned (.bool true) ∧ Below w.heap.size w w' := by
  have hx := Wire.enc_length ha
  have hy := Wire.enc_length hb
  have hl : Op.bytesLess (encB a).toList (encB b).toList = decide (a < b) := by rw [encB_list, encB_list]; exact Wire.enc_less ha hb
  have he : ((encB a).toList == (encB b).toList) = decide (a = b) := by
    rw [encB_list, encB_list, Bool.eq_iff_iff, beq_iff_eq, decide_eq_true_eq]; exact Wire.enc_inj ha hb
  have hp : a ≠ b → (((encB b).extract 0 (encB a).size).toList == (encB a).toList) = false := by
    intro hab
    rw [Bool.eq_false_iff, ne_eq, beq_iff_eq]
    intro h
    apply hab
    rw [encB_list, ByteArray.toList_eq] at h
    have h2 : ((encB b).extract 0 (encB a).size).data.toList = (Wire.enc b).take (encB a).size := by simp [encB]
    rw [h2] at h
    exact Wire.enc_prefix ha hb ((Wire.enc b).drop (encB a).size) (by rw [← h, List.take_append_drop])
  rw [← encB_size] at hx hy
  have hne : a ≠ b → ((a : Int) == (b : Int)) = false := fun h => by rw [beq_eq_false_iff_ne]; omega
  rcases Nat.lt_trichotomy a b with hab | hab | hab
  · exact core_lt a b _ _ s hs w hx hy ha hb (fun w => put_empty a w ha) (fun w => put_empty b w hb) hab (by rw [hl, decide_eq_true hab]) (by rw [he, decide_eq_false (by omega)]) (hne (by omega)) (hp (by omega))
  · subst hab
    exact core_eq a _ s hs w hx ha (fun w => put_empty a w ha) (by rw [hl, decide_eq_false (by omega)])
  · exact core_gt a b _ _ s hs w hx hy ha hb (fun w => put_empty a w ha) (fun w => put_empty b w hb) hab (by rw [hl, decide_eq_false (by omega)]) (by rw [he, decide_eq_false (by omega)]) (hne (by omega)) (hp (by omega))
theorem wireRises_calls (a0 : Int) (a1 : Int) (a2 : ByteArray) (w0 : (Lit.int .u64 a0).wf = true) (w1 : (Lit.int .u64 a1).wf = true) (w2 : a2.size ≤ maxLen) (w : World) :
    Calls Try.prog 4 #[.int .u64 a0, .int .u64 a1, .string a2] w fun e w' => e = .returned (.bool true) ∧ Below w.heap.size w w' := by
  have h1 : 0 ≤ a0 ∧ a0 < 18446744073709551616 := by simp [Lit.wf, IntKind.min, IntKind.max, IntKind.signed, IntKind.bits] at w0; omega
  have h2 : 0 ≤ a1 ∧ a1 < 18446744073709551616 := by simp [Lit.wf, IntKind.min, IntKind.max, IntKind.signed, IntKind.bits] at w1; omega
  unfold maxLen at w2
  have := wireRises_walk a0.toNat a1.toNat a2 (by omega) (by omega) (by omega) w
  rwa [Int.toNat_of_nonneg h1.1, Int.toNat_of_nonneg h2.1] at this
end Go.Proofs.Ytnialnigkbkicab
