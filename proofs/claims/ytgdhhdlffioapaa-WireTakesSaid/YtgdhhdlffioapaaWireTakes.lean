/-
  The law WireTakes, walked: it returns true at every text and every list of readings. Conditions: what any such arguments fulfil.
-/
import Derived.Test.YtgdhhdlffioapaaWireText
import Derived.Test.YtgdhhdlffioapaaEngO
import Derived.Test.YtgdhhdlffioapaaEngV
import Derived.Deep.Grids
namespace Go.Proofs.Ytgdhhdlffioapaa
open Go.RowKit Go.ChangeShapes Go.WideShapes

open Go.Eng in
theorem works_runT : isTrue (callE Try.prog (fun _ _ => none) 3000 40 (.fn 11 []) st0) = true := by kernel_rfl
theorem works_callsT (w : World) : Calls Try.prog 11 #[] w fun e w' => e = .returned (.bool true) ∧ Below w.heap.size w w' :=
  Eng.calls_true Eng.none_ok works_runT w
theorem same_txt {l : List UInt8} {t1 t2 r1 r2 : ByteArray} {b1 b2 : Bool} (h1 : Wire.txtP l = (t1.data.toList, b1, r1.data.toList)) (h2 : Wire.txtP l = (t2.data.toList, b2, r2.data.toList)) : t2 = t1 ∧ b2 = b1 ∧ r2 = r1 := by
  rw [h1] at h2
  simp only [Prod.mk.injEq] at h2
  exact ⟨Eng.ba_ext h2.1.symm, h2.2.1.symm, Eng.ba_ext h2.2.2.symm⟩
theorem same_num {l : List UInt8} {n1 n2 : Nat} {r1 r2 : ByteArray} {b1 b2 : Bool} (h1 : Wire.numP l = (n1, b1, r1.data.toList)) (h2 : Wire.numP l = (n2, b2, r2.data.toList)) : n2 = n1 ∧ b2 = b1 ∧ r2 = r1 := by
  rw [h1] at h2
  simp only [Prod.mk.injEq] at h2
  exact ⟨h2.1.symm, h2.2.1.symm, Eng.ba_ext h2.2.2.symm⟩

/-- a reader, as it lies in memory -/
structure Rd (b : Nat) (L : ByteArray) (bad : Bool) (w : World) : Prop where
  lt : b < w.heap.size
  c0 : w.cell? ⟨b, 0, none⟩ = some (.string L)
  c1 : w.cell? ⟨b, 1, none⟩ = some (.bool bad)
  f0 : w.frozen? ⟨b, 0, none⟩ = false
  f1 : w.frozen? ⟨b, 1, none⟩ = false
theorem Rd.but {b : Nat} {L : ByteArray} {bad : Bool} {w w' : World} {S : Nat → Prop} (h : Rd b L bad w) (hB : But S w w') (hn : ¬ S b) : Rd b L bad w' :=
  ⟨Nat.lt_of_lt_of_le h.lt hB.size, (hB.cell (p := ⟨b, 0, none⟩) h.lt hn).trans h.c0, (hB.cell (p := ⟨b, 1, none⟩) h.lt hn).trans h.c1, (hB.frozen (p := ⟨b, 0, none⟩) h.lt hn).trans h.f0, (hB.frozen (p := ⟨b, 1, none⟩) h.lt hn).trans h.f1⟩
theorem Rd.below {b : Nat} {L : ByteArray} {bad : Bool} {w w' : World} (h : Rd b L bad w) (hB : Below w.heap.size w w') : Rd b L bad w' := h.but (But.of_below (S := fun _ => False) hB) id

theorem two_new (w : World) (s : ByteArray) (t1 t2 : TypeId) : Rd w.heap.size s false ((w.alloc (.cells #[.string s, .bool false] t1)).alloc (.cells #[.string s, .bool false] t2)) ∧
    Rd (w.heap.size + 1) s false ((w.alloc (.cells #[.string s, .bool false] t1)).alloc (.cells #[.string s, .bool false] t2)) ∧ Below w.heap.size w ((w.alloc (.cells #[.string s, .bool false] t1)).alloc (.cells #[.string s, .bool false] t2)) := by
  refine ⟨?_, ?_, ((Below.refl _ w).alloc (Nat.le_refl _) _).alloc (by simp) _⟩
  · exact Rd.below (w := w.alloc _) ⟨by simp, cell_new _ _ _ 0, cell_new _ _ _ 1, frozen_new _ _ _ 0, frozen_new _ _ _ 1⟩ ((Below.refl _ _).alloc (Nat.le_refl _) _)
  · have h : (w.alloc (.cells #[.string s, .bool false] t1)).heap.size = w.heap.size + 1 := by simp
    rw [← h]
    exact ⟨by simp, cell_new _ _ _ 0, cell_new _ _ _ 1, frozen_new _ _ _ 0, frozen_new _ _ _ 1⟩

set_option maxRecDepth 100000 in
set_option maxHeartbeats 4000000 in
theorem wireTakes_walk (s : ByteArray) (hs : s.size ≤ 9223372036854775807) (tb off len cap : Nat) (is : Nat → Bool) (w : World) (hb : tb < w.heap.size)
    (hc : ∀ k, k < len → w.cell? ⟨tb, off + k, none⟩ = some (.bool (is k))) (hl : len ≤ 9223372036854775807) :
    Calls Try.prog 4 #[.string s, .slice (some ⟨tb, off, none⟩) len cap] w fun e w' => e = .returned (.bool true) ∧ Below w.heap.size w w' := by
  have HC := Lib.hid hc
  clear hc
  have hB := Below.refl w.heap.size w
  rcases Nat.lt_or_ge s.size 2001 with hz | hz
  all_goals
    go_enter Try.func4, Try.ntmps4
    go_wp2_with (go_at_call 12; refine (newreader_walk _ _).mono ?_; rintro e w2 ⟨rfl, rfl⟩)
    go_loopw [7] (fun iv wr => ∃ (k : Nat) (L : ByteArray) (bad : Bool), k ≤ 60 ∧ k ≤ len ∧ iv = .int .i64 k ∧ Rd w.heap.size L bad wr ∧ Rd (w.heap.size + 1) L bad wr ∧ (bad = true → L.size = 0) ∧ L.size ≤ 2000 ∧ Below w.heap.size w wr) (fun iv _ => 60 - (intOf iv).toNat)
    case atStart =>
      first
        | exact ⟨0, s, false, Nat.zero_le _, Nat.zero_le _, rfl, (two_new w s _ _).1, (two_new w s _ _).2.1, fun h => absurd h (by decide), by omega, (two_new w s _ _).2.2⟩
        | exact ⟨0, s.extract 0 2000, false, Nat.zero_le _, Nat.zero_le _, rfl, (two_new w _ _ _).1, (two_new w _ _ _).2.1, fun h => absurd h (by decide), by simp; omega, (two_new w _ _ _).2.2⟩
    case round =>
      obtain ⟨k, L, bad, hk, hkl, rfl, hR1, hR2, hbad, hL, hB⟩ := hrel
      have hsz := hB.size
      by_cases hgo : k < len ∧ k < 60
      · obtain ⟨h1, h2⟩ := hgo
        have hc0 := (hB.cell (p := ⟨tb, off + k, none⟩) hb).trans (HC.out k h1)
        cases hi : is k with
        | true =>
          rw [hi] at hc0
          go_wp2_with (first
            | (go_at_call 13; refine (text_get _ bad L _ hR1.lt hR1.c0 hR1.c1 hbad hR1.f0 hR1.f1 (by omega)).mono ?_; rintro e w1 ⟨t1, bad1, r1, hp1, rfl, hB1, c0, c1, g0, g1⟩; have hR2 := hR2.but hB1 (by omega); have hR1 : Rd w.heap.size r1 bad1 w1 := ⟨Nat.lt_of_lt_of_le hR1.lt hB1.size, c0, c1, g0, g1⟩; have hB := hB.trans (hB1.below _ (fun i hi => by omega) hB.size); have hl1 := Wire.txtP_left L.data.toList; have hl2 := Wire.txtP_bad_left L.data.toList; rw [hp1] at hl1 hl2)
            | (go_at_call 14; refine (reftext_get _ bad L _ hR2.lt hR2.c0 hR2.c1 hbad hR2.f0 hR2.f1 (by omega)).mono ?_; rintro e w2 ⟨t2, bad2, r2, hp2, rfl, hB2, q0, q1, p0, p1⟩; obtain ⟨rfl, rfl, rfl⟩ := same_txt hp1 hp2; have hR1 := hR1.but hB2 (by omega); have hR2 : Rd (w.heap.size + 1) r2 bad2 w2 := ⟨Nat.lt_of_lt_of_le hR2.lt hB2.size, q0, q1, p0, p1⟩; have hB := hB.trans (hB2.below _ (fun i hi => by omega) hB.size))
            | (go_at_call 17; refine (ok_walk _ _ _ hR1.c1).mono ?_; rintro e w3 ⟨rfl, rfl⟩)
            | (go_at_call 18; refine (refok_walk _ _ _ hR2.c1).mono ?_; rintro e w3 ⟨rfl, rfl⟩)
            | (go_at_call 19; refine (end_walk _ _ _ _ hR1.c1 hR1.c0).mono ?_; rintro e w3 ⟨rfl, rfl⟩)
            | (go_at_call 20; refine (refend_walk _ _ _ _ hR2.c1 hR2.c0).mono ?_; rintro e w4 ⟨rfl, hw4⟩; have hR1 := hR1.below hw4; have hR2 := hR2.below hw4; have hB := hB.trans (hw4.mono hB.size)))
          refine ⟨⟨k + 1, r2, bad2, by omega, by omega, by go_num, hR1, hR2, fun h => ?_, ?_, hB⟩, by simp [intOf]; omega⟩
          · have := congrArg List.length (hl2 h); simpa using this
          · have : r2.size ≤ L.size := by simpa using hl1
            omega
        | false =>
          rw [hi] at hc0
          go_wp2_with (first
            | (go_at_call 15; refine (num_get _ bad L _ hR1.lt hR1.c0 hR1.c1 hbad hR1.f0 hR1.f1 (by omega)).mono ?_; rintro e w1 ⟨t1, bad1, r1, hp1, rfl, hB1, c0, c1, g0, g1⟩; have hR2 := hR2.but hB1 (by omega); have hR1 : Rd w.heap.size r1 bad1 w1 := ⟨Nat.lt_of_lt_of_le hR1.lt hB1.size, c0, c1, g0, g1⟩; have hB := hB.trans (hB1.below _ (fun i hi => by omega) hB.size); have hl1 := Wire.numP_left L.data.toList; have hl2 := Wire.numP_bad_left L.data.toList; rw [hp1] at hl1 hl2)
            | (go_at_call 16; refine (refnum_get _ bad L _ hR2.lt hR2.c0 hR2.c1 hbad hR2.f0 hR2.f1 (by omega)).mono ?_; rintro e w2 ⟨t2, bad2, r2, hp2, rfl, hB2, q0, q1, p0, p1⟩; obtain ⟨rfl, rfl, rfl⟩ := same_num hp1 hp2; have hR1 := hR1.but hB2 (by omega); have hR2 : Rd (w.heap.size + 1) r2 bad2 w2 := ⟨Nat.lt_of_lt_of_le hR2.lt hB2.size, q0, q1, p0, p1⟩; have hB := hB.trans (hB2.below _ (fun i hi => by omega) hB.size))
            | (go_at_call 17; refine (ok_walk _ _ _ hR1.c1).mono ?_; rintro e w3 ⟨rfl, rfl⟩)
            | (go_at_call 18; refine (refok_walk _ _ _ hR2.c1).mono ?_; rintro e w3 ⟨rfl, rfl⟩)
            | (go_at_call 19; refine (end_walk _ _ _ _ hR1.c1 hR1.c0).mono ?_; rintro e w3 ⟨rfl, rfl⟩)
            | (go_at_call 20; refine (refend_walk _ _ _ _ hR2.c1 hR2.c0).mono ?_; rintro e w4 ⟨rfl, hw4⟩; have hR1 := hR1.below hw4; have hR2 := hR2.below hw4; have hB := hB.trans (hw4.mono hB.size)))
          refine ⟨⟨k + 1, r2, bad2, by omega, by omega, by go_num, hR1, hR2, fun h => ?_, ?_, hB⟩, by simp [intOf]; omega⟩
          · have := congrArg List.length (hl2 h); simpa using this
          · have : r2.size ≤ L.size := by simpa using hl1
            omega
      · go_wp2_with (first
            | (go_at_call 17; refine (ok_walk _ _ _ hR1.c1).mono ?_; rintro e w3 ⟨rfl, rfl⟩)
            | (go_at_call 18; refine (refok_walk _ _ _ hR2.c1).mono ?_; rintro e w3 ⟨rfl, rfl⟩)
            | (go_at_call 19; refine (end_walk _ _ _ _ hR1.c1 hR1.c0).mono ?_; rintro e w3 ⟨rfl, rfl⟩)
            | (go_at_call 20; refine (refend_walk _ _ _ _ hR2.c1 hR2.c0).mono ?_; rintro e w4 ⟨rfl, hw4⟩; have hR1 := hR1.below hw4; have hR2 := hR2.below hw4; have hB := hB.trans (hw4.mono hB.size))
            | (go_at_call 11; refine (works_callsT _).mono ?_; rintro e w6 ⟨rfl, hw6⟩; have hB := hB.trans (hw6.mono hB.size)))
        all_goals go_ret
        all_goals exact ⟨rfl, hB⟩

set_option maxRecDepth 100000 in
set_option maxHeartbeats 4000000 in
theorem wireTakes_none (s : ByteArray) (hs : s.size ≤ 9223372036854775807) (a : Option Addr) (cap : Nat) (w : World) :
    Calls Try.prog 4 #[.string s, .slice a 0 cap] w fun e w' => e = .returned (.bool true) ∧ Below w.heap.size w w' := by
  have hB := Below.refl w.heap.size w
  rcases Nat.lt_or_ge s.size 2001 with hz | hz
  all_goals
    go_enter Try.func4, Try.ntmps4
    go_wp2_with (go_at_call 12; refine (newreader_walk _ _).mono ?_; rintro e w2 ⟨rfl, rfl⟩)
    go_loopw [7] (fun iv wr => ∃ (L : ByteArray), iv = .int .i64 0 ∧ Rd w.heap.size L false wr ∧ Rd (w.heap.size + 1) L false wr ∧ Below w.heap.size w wr) (fun iv _ => 60 - (intOf iv).toNat)
    case atStart =>
      first
        | exact ⟨s, rfl, (two_new w s _ _).1, (two_new w s _ _).2.1, (two_new w s _ _).2.2⟩
        | exact ⟨s.extract 0 2000, rfl, (two_new w _ _ _).1, (two_new w _ _ _).2.1, (two_new w _ _ _).2.2⟩
    case round =>
      obtain ⟨L, rfl, hR1, hR2, hB⟩ := hrel
      go_wp2_with (first
            | (go_at_call 17; refine (ok_walk _ _ _ hR1.c1).mono ?_; rintro e w3 ⟨rfl, rfl⟩)
            | (go_at_call 18; refine (refok_walk _ _ _ hR2.c1).mono ?_; rintro e w3 ⟨rfl, rfl⟩)
            | (go_at_call 19; refine (end_walk _ _ _ _ hR1.c1 hR1.c0).mono ?_; rintro e w3 ⟨rfl, rfl⟩)
            | (go_at_call 20; refine (refend_walk _ _ _ _ hR2.c1 hR2.c0).mono ?_; rintro e w4 ⟨rfl, hw4⟩; have hR1 := hR1.below hw4; have hR2 := hR2.below hw4; have hB := hB.trans (hw4.mono hB.size))
            | (go_at_call 11; refine (works_callsT _).mono ?_; rintro e w6 ⟨rfl, hw6⟩; have hB := hB.trans (hw6.mono hB.size)))
      all_goals go_ret
      all_goals exact ⟨rfl, hB⟩

theorem wireTakes_fin {H : Type} {enc : TypeId × Value → H} {base : Nat} (W : World) (v0 v1 : Value) {d0 d1 : DataW H} {p0 p1 : List MemPlace} (k0 : Value.okWide Try.prog W .any base 9 v0) (k1 : Value.okWide Try.prog W .any base 30 v1)
    (h0 : DataW.Trod enc Try.prog W 0 (fun _ => true) true 9 v0 d0 p0) (h1 : DataW.Trod enc Try.prog W 0 (fun _ => true) true 30 v1 d1 p1) (lt0 : ∀ x ∈ p0, x.block < W.heap.size) (lt1 : ∀ x ∈ p1, x.block < W.heap.size) :
    Calls Try.prog 4 #[v0, v1] W fun e w' => e = .returned (.bool true) ∧ Below W.heap.size W w' := by
  obtain ⟨s, rfl⟩ := okWide_string Try.underlying9 k0
  obtain ⟨a, len, cap, rfl⟩ := okWide_slice Try.underlying30 k1
  have hs : s.size ≤ 9223372036854775807 := by
    obtain ⟨f0, hf0⟩ := h0
    obtain ⟨q, hq, hz⟩ := Eng.trod_s Try.underlying9 (v := .string s) (by simpa [Value.cells] using hf0)
    cases hq
    exact hz
  by_cases hl0 : len = 0
  · subst hl0; exact wireTakes_none s hs a cap W
  · obtain ⟨fuel, hf⟩ := h1
    rcases Go.Deep.open_bools Try.underlying30 Try.underlying4 (by kernel_rfl) hf with ⟨hcs, hx⟩ | ⟨a', len', cap', Sx, hcs, _, hl, hm, hx, hcell⟩
    · simp [Value.cells] at hcs
      exact absurd hcs.2.1 hl0
    · simp [Value.cells] at hcs
      obtain ⟨rfl, rfl, rfl⟩ := hcs
      obtain ⟨b, off, spot⟩ := a'
      have hspot : spot = none := by simpa [Addr.add] using World.cell?_spot (hcell 0 (by omega))
      subst hspot
      have hbW : b < W.heap.size := by
        refine lt1 (.cell b off) ?_
        simp only [Prod.mk.injEq] at hx
        rw [hx.2]
        exact MemPlace.mem_row.2 ⟨0, by omega, by simp⟩
      unfold maxLen at hm
      exact wireTakes_walk s hs b off len _ Sx W hbW (fun k hk => by have := hcell k (by omega); rwa [Eng.addr_add] at this) (by omega)
end Go.Proofs.Ytgdhhdlffioapaa
