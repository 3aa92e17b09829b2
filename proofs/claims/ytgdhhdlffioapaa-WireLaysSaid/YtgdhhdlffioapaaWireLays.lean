/-
  The law WireLays, walked: it returns true at every list of numbers and texts. Conditions: what any such argument fulfils.
-/
import Derived.Test.YtgdhhdlffioapaaWireRef
import Derived.Test.YtgdhhdlffioapaaEngO
import Derived.Test.YtgdhhdlffioapaaEngV
import Derived.Deep.RegionHeld3
namespace Go.Proofs.Ytgdhhdlffioapaa
open Go.RowKit Go.ChangeShapes Go.WideShapes

open Go.Eng in
theorem works_runL : isTrue (callE Try.prog (fun _ _ => none) 3000 40 (.fn 11 []) st0) = true := by kernel_rfl
theorem works_callsL (w : World) : Calls Try.prog 11 #[] w fun e w' => e = .returned (.bool true) ∧ Below w.heap.size w w' :=
  Eng.calls_true Eng.none_ok works_runL w

theorem lt_of_cellL {w : World} {a : Addr} {v : Value} (h : w.cell? a = some v) : a.block < w.heap.size := by
  rcases Nat.lt_or_ge a.block w.heap.size with h' | h'
  · exact h'
  · simp [World.cell?, Array.getElem?_eq_none h'] at h

set_option maxRecDepth 100000 in
set_option maxHeartbeats 4000000 in
theorem wireLays_walk (b off len cap : Nat) (is : Nat → Bool) (ns : Nat → Nat) (ss : Nat → ByteArray) (w : World) (hb : b < w.heap.size)
    (hc : ∀ k, k < len → w.cell? ⟨b, off + k * 3, none⟩ = some (.bool (is k)) ∧ w.cell? ⟨b, off + k * 3 + 1, none⟩ = some (.int .u64 (ns k)) ∧ w.cell? ⟨b, off + k * 3 + 2, none⟩ = some (.string (ss k)))
    (hn : ∀ k, k < len → ns k < 18446744073709551616 ∧ (ss k).size ≤ 9223372036854775807) (hl : len ≤ 9223372036854775807) :
    Calls Try.prog 3 #[.slice (some ⟨b, off, none⟩) len cap] w fun e w' => e = .returned (.bool true) ∧ Below w.heap.size w w' := by
  have HC := Lib.hid hc
  have HN := Lib.hid hn
  clear hc hn
  go_enter Try.func3, Try.ntmps3
  go_wp2
  go_loopw [3, 4, 5] (fun av bv iv wr => ∃ (k : Nat) (A : ByteArray), k ≤ 40 ∧ k ≤ len ∧ iv = .int .i64 k ∧ av = .string A ∧ bv = .string A ∧ A.size ≤ 709 * k ∧ Below w.heap.size w wr) (fun _ _ iv _ => 40 - (intOf iv).toNat)
  case atStart => exact ⟨0, ⟨#[]⟩, Nat.zero_le _, Nat.zero_le _, rfl, rfl, rfl, Nat.zero_le _, Below.refl _ _⟩
  case round =>
    obtain ⟨k, A, hk, hkl, rfl, rfl, rfl, hA, hB⟩ := hrel
    have hsz := hB.size
    by_cases hgo : k < len ∧ k < 40
    · obtain ⟨h1, h2⟩ := hgo
      obtain ⟨hc0, hc1, hc2⟩ := HC.out k h1
      obtain ⟨hn1, hn2⟩ := HN.out k h1
      have hc0 := (hB.cell (p := ⟨b, off + k * 3, none⟩) hb).trans hc0
      have hc1 := (hB.cell (p := ⟨b, off + k * 3 + 1, none⟩) hb).trans hc1
      have hc2 := (hB.cell (p := ⟨b, off + k * 3 + 2, none⟩) hb).trans hc2
      cases hi : is k with
      | true =>
        rw [hi] at hc0
        generalize ss k = S at hc2 hn2
        rcases Nat.lt_or_ge S.size 701 with hz | hz
        all_goals
          go_wp2
          go_region
          go_wp2_with (first
            | (go_at_call 7; refine (puttext_walk _ _ _ (by omega) (by first | omega | (simp; omega))).mono ?_; rintro e w1 ⟨rfl, hw1⟩; have hB := hB.drew.trans (hw1.mono (by simpa using hsz)))
            | (go_at_call 8; refine (reftext_walk _ _ _ (by omega) (by first | omega | (simp; omega))).mono ?_; rintro e w2 ⟨rfl, hw2⟩; have hB := hB.trans (hw2.mono hB.size)))
          refine ⟨⟨k + 1, _, by omega, by omega, by go_num, rfl, rfl, ?_, hB⟩, by simp [intOf]; omega⟩
          have hzz := txtB_size (S.extract 0 700) (by simp; omega)
          have hzs := txtB_size S (by omega)
          simp only [ByteArray.size_append, ByteArray.size_extract] at *
          omega
      | false =>
        rw [hi] at hc0
        generalize ns k = n at hc1 hn1
        have hnz := encB_le n hn1
        go_wp2
        go_region_held3 (fun w' => w'.cell? ⟨b, off + k * 3 + 1, none⟩ = some (.int .u64 n) ∧ Below w.heap.size w w') (first | exact hSn | exact ⟨hc1, hB.drew⟩)
          (first
          | (go_at_call 9; obtain ⟨hcS, hBS⟩ := ‹_ ∧ Below w.heap.size w _›; refine (putnum_walk _ _ _ hn1 (by omega)).mono ?_; rintro e w1 ⟨rfl, hw1⟩; have hSn := And.intro ((hw1.cell (lt_of_cellL hcS)).trans hcS) (hBS.trans (hw1.mono hBS.size)))
          | (go_at_call 10; obtain ⟨hcS, hBS⟩ := ‹_ ∧ Below w.heap.size w _›; refine (refput_walk _ _ _ hn1 (by omega)).mono ?_; rintro e w2 ⟨rfl, hw2⟩; have hSn := And.intro ((hw2.cell (lt_of_cellL hcS)).trans hcS) (hBS.trans (hw2.mono hBS.size))))
        all_goals
          go_wp2
          refine ⟨⟨k + 1, _, by omega, by omega, by go_num, rfl, rfl, ?_, hSn.2⟩, by simp [intOf]; omega⟩
          simp only [ByteArray.size_append]
          omega
    · go_wp2_with (go_at_call 11; refine (works_callsL _).mono ?_; rintro e w6 ⟨rfl, hw6⟩; have hB := hB.trans (hw6.mono hB.size))
      all_goals go_ret
      all_goals exact ⟨rfl, hB⟩

set_option maxRecDepth 100000 in
theorem wireLays_none (a : Option Addr) (cap : Nat) (w : World) :
    Calls Try.prog 3 #[.slice a 0 cap] w fun e w' => e = .returned (.bool true) ∧ Below w.heap.size w w' := by
  have hB := Below.refl w.heap.size w
  go_enter Try.func3, Try.ntmps3
  go_wp2
  go_loopw [3, 4, 5] (fun av bv iv wr => iv = .int .i64 0 ∧ av = .string ⟨#[]⟩ ∧ bv = .string ⟨#[]⟩ ∧ wr = w) (fun _ _ iv _ => 40 - (intOf iv).toNat)
  case atStart => exact ⟨rfl, rfl, rfl, rfl⟩
  case round =>
    obtain ⟨rfl, rfl, rfl, rfl⟩ := hrel
    go_wp2_with (go_at_call 11; refine (works_callsL _).mono ?_; rintro e w6 ⟨rfl, hw6⟩; have hB := hB.trans (hw6.mono hB.size))
    go_ret
    exact ⟨rfl, hB⟩

theorem wireLays_fin {H : Type} {enc : TypeId × Value → H} {base : Nat} (W : World) (v0 : Value) {d0 : DataW H} {p0 : List MemPlace} (k0 : Value.okWide Try.prog W .any base 22 v0)
    (h0 : DataW.Trod enc Try.prog W 0 (fun _ => true) true 22 v0 d0 p0) (lt0 : ∀ x ∈ p0, x.block < W.heap.size) :
    Calls Try.prog 3 #[v0] W fun e w' => e = .returned (.bool true) ∧ Below W.heap.size W w' := by
  obtain ⟨a, len, cap, rfl⟩ := okWide_slice Try.underlying22 k0
  by_cases hl0 : len = 0
  · subst hl0; exact wireLays_none a cap W
  · obtain ⟨fuel, hf⟩ := h0
    rcases Eng.open_rows Try.underlying22 Try.underlying25 (by kernel_rfl) (by kernel_rfl) (by decide) hf with hcs | ⟨a', len', cap', m, n, V, D, hcs, _, hl, hm, hmm, hmem, hc⟩
    · simp [Value.cells] at hcs
      exact absurd hcs.2.1 hl0
    · simp [Value.cells] at hcs
      obtain ⟨rfl, rfl, rfl⟩ := hcs
      simp only [if_true] at hmm
      subst hmm
      obtain ⟨b, off, spot⟩ := a'
      have hspot : spot = none := by simpa [Addr.add] using World.cell?_spot (hc 0 (by omega) 0 _ rfl).1
      subst hspot
      have hbW : b < W.heap.size := lt0 _ (hmem (by omega))
      have hg0 := Go.Deep.choose_lt (n := len) (p := fun i q => V i 0 = .bool q) fun i hi => Eng.trod_b Try.underlying4 (hc i (by omega) 0 _ rfl).2
      have hg1 := Go.Deep.choose_lt (n := len) (p := fun i q => V i 1 = .int .u64 (q : Nat) ∧ q < 18446744073709551616) fun i hi => Eng.trod_u64 Try.underlying23 (hc i (by omega) 1 _ rfl).2
      have hg2 := Go.Deep.choose_lt (n := len) (p := fun i q => V i 2 = .string q ∧ q.size ≤ 9223372036854775807) fun i hi => Eng.trod_s Try.underlying9 (hc i (by omega) 2 _ rfl).2
      obtain ⟨is, his⟩ := hg0
      obtain ⟨ns, hns⟩ := hg1
      obtain ⟨ss, hss⟩ := hg2
      unfold maxLen at hm
      refine wireLays_walk b off len _ is ns ss W hbW (fun k hk => ?_) (fun k hk => ⟨(hns k hk).2, (hss k hk).2⟩) (by omega)
      have e0 := (hc k (by omega) 0 _ rfl).1
      have e1 := (hc k (by omega) 1 _ rfl).1
      have e2 := (hc k (by omega) 2 _ rfl).1
      rw [Eng.addr_add] at e0 e1 e2
      exact ⟨(e0.trans (congrArg some (his k hk))), (e1.trans (congrArg some (hns k hk).1)), (e2.trans (congrArg some (hss k hk).1))⟩
end Go.Proofs.Ytgdhhdlffioapaa
