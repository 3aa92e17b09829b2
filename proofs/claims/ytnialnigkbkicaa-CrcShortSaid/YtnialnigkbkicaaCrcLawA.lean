/-
  The laws CrcShort and CrcSeals, walked: they return true at every text. Conditions: a text that fits the model's memory.
-/
import Derived.Test.YtnialnigkbkicaaCrcSeal
namespace Go.Proofs.Ytnialnigkbkicaa
open Go.RowKit Go.ChangeShapes Go.WideShapes

theorem str_eq_true {a b : ByteArray} (h : a = b) : (a.toList == b.toList) = true := by subst h; simp

set_option maxRecDepth 100000 in
theorem crcSeals_calls (s : ByteArray) (hs : s.size ≤ maxLen) (w : World) :
    Calls Try.prog 4 #[.string s] w fun e w' => e = .returned (.bool true) ∧ Below w.heap.size w w' := by
  unfold maxLen at hs
  have hz := cutB_size s
  go_enter Try.func4, Try.ntmps4
  go_wp2_with (first
    | (go_at_call 9; refine (cut_walk s _ (by omega)).mono ?_; rintro e w1 ⟨rfl, rfl⟩)
    | (go_at_call 13; refine (open_any (cutB s) _ (by omega)).mono ?_; rintro e w2 ⟨rfl, hw2⟩)
    | (go_at_call 14; refine (ref_open_any (cutB s) _ (by omega)).mono ?_; rintro e w3 ⟨rfl, hw3⟩)
    | (go_at_call 15; refine (seal_walk (cutB s) _ (by omega)).mono ?_; rintro e w4 ⟨rfl, hw4⟩)
    | (go_at_call 16; refine (ref_seal (cutB s) _ (by omega)).mono ?_; rintro e w5 ⟨rfl, hw5⟩)
    | (go_at_call 12; refine (works_calls _).mono ?_; rintro e w6 ⟨rfl, hw6⟩))
  go_ret
  exact ⟨rfl, ((((hw2.trans (hw3.mono hw2.size)).trans (hw4.mono (hw2.trans (hw3.mono hw2.size)).size)).trans (hw5.mono ((hw2.trans (hw3.mono hw2.size)).trans (hw4.mono (hw2.trans (hw3.mono hw2.size)).size)).size)).trans (hw6.mono (by have := hw2.size; have := hw3.size; have := hw4.size; have := hw5.size; omega)))⟩

set_option maxRecDepth 100000 in
theorem crcShort_calls (s : ByteArray) (hs : s.size ≤ maxLen) (w : World) :
    Calls Try.prog 6 #[.string s] w fun e w' => e = .returned (.bool true) ∧ Below w.heap.size w w' := by
  unfold maxLen at hs
  have hz := cutB_size s
  obtain ⟨t, ht⟩ : ∃ t, cutB s = t := ⟨_, rfl⟩
  have hcut : ∀ w : World, Calls Try.prog 9 #[.string s] w fun e w' => e = .returned (.string t) ∧ w = w' := fun w => by rw [← ht]; exact cut_walk s w (by omega)
  rw [ht] at hz
  clear ht
  by_cases h4 : 4 ≤ t.size
  · by_cases hy : sealB (t.extract 0 (t.size - 4)) = t
    · have hopen := fun w => open_yes t w (by omega) h4 hy
      have hzz := ext_size t 4
      have hz2 : (t.extract 0 (t.size - 4)).size ≤ 4004 := by omega
      have HY := Lib.hid hy
      clear hy hzz
      go_enter Try.func6, Try.ntmps6
      go_wp2_with (first
        | (go_at_call 12; refine (works_calls _).mono ?_; rintro e w1 ⟨rfl, hw1⟩)
        | (go_at_call 9; refine (hcut _).mono ?_; rintro e w2 ⟨rfl, rfl⟩)
        | (go_at_call 13; refine (hopen _).mono ?_; rintro e w2 ⟨rfl, hw2⟩)
        | (go_at_call 15; refine (seal_walk _ _ hz2).mono ?_; rintro e w4 ⟨rfl, hw4⟩; rw [HY.out]))
      go_ret
      exact ⟨rfl, (hw1.trans (hw2.mono hw1.size)).trans (hw4.mono (by have := hw1.size; have := hw2.size; omega))⟩
    · have hopen := fun w => open_no t w (by omega) h4 hy
      clear hy
      go_enter Try.func6, Try.ntmps6
      go_wp2_with (first
        | (go_at_call 12; refine (works_calls _).mono ?_; rintro e w1 ⟨rfl, hw1⟩)
        | (go_at_call 9; refine (hcut _).mono ?_; rintro e w2 ⟨rfl, rfl⟩)
        | (go_at_call 13; refine (hopen _).mono ?_; rintro e w2 ⟨rfl, hw2⟩))
      go_ret
      exact ⟨rfl, hw1.trans (hw2.mono hw1.size)⟩
  · have hopen := fun w => open_no4 t w (by omega)
    go_enter Try.func6, Try.ntmps6
    go_wp2_with (first
      | (go_at_call 12; refine (works_calls _).mono ?_; rintro e w1 ⟨rfl, hw1⟩)
      | (go_at_call 9; refine (hcut _).mono ?_; rintro e w2 ⟨rfl, rfl⟩)
      | (go_at_call 13; refine (hopen _).mono ?_; rintro e w2 ⟨rfl, hw2⟩))
    go_ret
    exact ⟨rfl, hw1.trans (hw2.mono hw1.size)⟩
end Go.Proofs.Ytnialnigkbkicaa
