/-
  The document's reader of numbers, and both readers of texts, walked. Conditions: texts that fit the model's memory; a reader that is not well has nothing left.
-/
import Derived.Test.YtgdhhdlffioapaaWireRef
import Derived.Deep.RegionHeld3
namespace Go.Wire
theorem numP_take (c : UInt8) (t : List UInt8) (h : ¬ c.toNat < 248) (hk : ¬ t.length < c.toNat - 247) (he : enc (val (t.take (c.toNat - 247))) = c :: t.take (c.toNat - 247)) : numP (c :: t) = (val (t.take (c.toNat - 247)), false, t.drop (c.toNat - 247)) := by
  rw [numP, readNum, if_neg h, if_neg hk, if_pos he]
theorem numP_not (c : UInt8) (t : List UInt8) (h : ¬ c.toNat < 248) (hk : ¬ t.length < c.toNat - 247) (he : enc (val (t.take (c.toNat - 247))) ≠ c :: t.take (c.toNat - 247)) : numP (c :: t) = (0, true, []) := by
  rw [numP, readNum, if_neg h, if_neg hk, if_neg he]
end Go.Wire
namespace Go.Proofs.Ytgdhhdlffioapaa
open Go.RowKit Go.ChangeShapes Go.WideShapes

theorem get_wrong (b : Nat) (s : ByteArray) (w w1 : World) {x y : Value} (hB : But (fun i => i = b) w w1) (h0 : w1.cell? ⟨b, 0, none⟩ = some x) (h1 : w1.cell? ⟨b, 1, none⟩ = some y)
    (hf0 : w1.frozen? ⟨b, 0, none⟩ = false) (hf1 : w1.frozen? ⟨b, 1, none⟩ = false) (hp : Wire.numP s.data.toList = (0, true, [])) :
    NumGet b s w (.returned (.int .u64 0)) ((w1.setCell ⟨b, 0, none⟩ (.string ⟨#[]⟩)).setCell ⟨b, 1, none⟩ (.bool true)) := by
  refine ⟨0, true, ⟨#[]⟩, hp, rfl, ?_, ?_, ?_, ?_, ?_⟩
  · exact (hB.setCell (p := ⟨b, 0, none⟩) (.inl rfl) _).setCell (p := ⟨b, 1, none⟩) (.inl rfl) _
  · rw [World.cell?_setCell_other (h := ne01 b), World.cell?_setCell_same (h := h0)]
  · rw [World.cell?_setCell_same (h := (World.cell?_setCell_other _ _ _ _ (ne10 b)).trans h1)]
  · rw [frozen_set, frozen_set, hf0]
  · rw [frozen_set, frozen_set, hf1]
theorem get_good (b n : Nat) (s t : ByteArray) (w w1 : World) {x : Value} (hB : But (fun i => i = b) w w1) (h0 : w1.cell? ⟨b, 0, none⟩ = some x) (h1 : w1.cell? ⟨b, 1, none⟩ = some (.bool false))
    (hf0 : w1.frozen? ⟨b, 0, none⟩ = false) (hf1 : w1.frozen? ⟨b, 1, none⟩ = false) (he : Wire.numP s.data.toList = (n, false, t.data.toList)) :
    NumGet b s w (.returned (.int .u64 n)) (w1.setCell ⟨b, 0, none⟩ (.string t)) := by
  refine ⟨n, false, t, he, rfl, ?_, ?_, ?_, ?_, ?_⟩
  · exact hB.setCell (p := ⟨b, 0, none⟩) (.inl rfl) _
  · rw [World.cell?_setCell_same (h := h0)]
  · rw [World.cell?_setCell_other (h := ne10 b)]
    exact h1
  · rw [frozen_set, hf0]
  · rw [frozen_set, hf1]

theorem val_row (s : ByteArray) (j : Nat) (hj : 1 ≤ j) (h : j < s.size) : Wire.val ((s.data.toList.take (j + 1)).drop 1) = Wire.val ((s.data.toList.take j).drop 1) * 256 + (s[j]'h).toNat := by
  have hl : s.data.toList.length = s.size := by simp
  have e : s.data.toList.take (j + 1) = s.data.toList.take j ++ [s[j]'h] := by
    rw [List.take_succ_eq_append_getElem (by omega)]; rfl
  rw [e, List.drop_append_of_le_length (by rw [List.length_take]; omega), Wire.val_snoc]
theorem empty_text (n : Nat) : (⟨#[]⟩ : ByteArray) ++ encB n = encB n := by
  apply ByteArray.ext
  simp
theorem toList_data (s : ByteArray) : s.toList = s.data.toList := ByteArray.toList_eq s
theorem ext_list (s : ByteArray) (k : Nat) : (s.extract 0 k).data.toList = s.data.toList.take k := by simp

set_option maxRecDepth 100000 in
theorem fail_walk (b : Nat) (x y : Value) (w : World) (h0 : w.cell? ⟨b, 0, none⟩ = some x) (h1 : w.cell? ⟨b, 1, none⟩ = some y) (hf0 : w.frozen? ⟨b, 0, none⟩ = false) (hf1 : w.frozen? ⟨b, 1, none⟩ = false) :
    Calls Try.prog 22 #[.pointer (some ⟨b, 0, none⟩)] w fun e w' => (∃ v, e = .returned v) ∧ w' = (w.setCell ⟨b, 0, none⟩ (.string ⟨#[]⟩)).setCell ⟨b, 1, none⟩ (.bool true) := by
  have h1' : (w.setCell ⟨b, 0, none⟩ (.string ⟨#[]⟩)).cell? ⟨b, 1, none⟩ = some y := (World.cell?_setCell_other _ _ _ _ (ne10 b)).trans h1
  go_enter Try.func22, Try.ntmps22
  go_wp2
  go_end0
  exact ⟨⟨_, rfl⟩, rfl⟩

set_option maxRecDepth 100000 in
set_option maxHeartbeats 4000000 in
theorem refnum_get (b : Nat) (bad : Bool) (s : ByteArray) (w : World) (hb : b < w.heap.size) (h0 : w.cell? ⟨b, 0, none⟩ = some (.string s)) (h1 : w.cell? ⟨b, 1, none⟩ = some (.bool bad)) (hbad : bad = true → s.size = 0)
    (hf0 : w.frozen? ⟨b, 0, none⟩ = false) (hf1 : w.frozen? ⟨b, 1, none⟩ = false) (hs : s.size ≤ 9223372036854775807) :
    Calls Try.prog 16 #[.pointer (some ⟨b, 0, none⟩)] w fun e w' => NumGet b s w e w' := by
  by_cases hpos : 0 < s.size
  · obtain rfl : bad = false := by
      cases bad
      · rfl
      · have := hbad rfl; omega
    clear hbad
    have hst := cons_get s hpos
    have hne : s.toList.isEmpty = false := by rw [toList_data, hst]; rfl
    obtain ⟨c8, hc8⟩ : ∃ c8, s[0]'hpos = c8 := ⟨_, rfl⟩
    have hcb := UInt8.toNat_lt c8
    obtain ⟨c, hc⟩ : ∃ c, (s[0]'hpos).toNat = c := ⟨_, rfl⟩
    have hcc : c8.toNat = c := by rw [← hc8, hc]
    rw [hcc] at hcb
    rw [hc8] at hst
    have HST := Lib.hid hst
    have HCC := Lib.hid hcc
    clear hst hcc hc8
    by_cases hc8 : c < 248
    · have he : Wire.numP s.data.toList = (c, false, (s.extract 1 s.size).data.toList) := by rw [HST.out, Wire.numP_small _ _ (by rw [HCC.out]; exact hc8), HCC.out]
      obtain ⟨t, ht⟩ : ∃ t, s.extract 1 s.size = t := ⟨_, rfl⟩
      rw [ht] at he
      have HE := Lib.hid he
      clear he
      have heq : ((⟨#[]⟩ ++ encB c).toList == (s.extract 0 1).toList) = true := by
        rw [beq_iff_eq, toList_data, toList_data, ext_list, HST.out, empty_text]
        simp [encB, Wire.enc, hc8]
        rw [← HCC.out]; simp
      go_enter Try.func16, Try.ntmps16
      have hmx : (if (c : Int) - 247 < 0 then (0 : Int) else (c : Int) - 247) = 0 := by split <;> omega
      have hi1 : (1 : Int) ≤ (s.size : Int) := by omega
      have hi0 : (0 : Int) ≤ 1 := by omega
      have hw1 : IntKind.i64.wrap (1 + 0) = 1 := by decide
      have hw2 : IntKind.i64.wrap 1 = 1 := by decide
      go_wp2
      go_loop [4, 5] (fun nv iv => nv = .int .u64 (c : Int) ∧ iv = .int .i64 1) (fun _ _ => 0)
      case atStart => exact ⟨rfl, rfl⟩
      case round =>
        obtain ⟨rfl, rfl⟩ := hrel
        go_wp2
        go_region_held3 (fun w' => w'.cell? ⟨b, 0, none⟩ = some (.string s) ∧ Below w.heap.size w w') (first | exact hSn | exact ⟨h0, (Below.refl _ w).drew⟩)
          (first
          | (go_at_call 10; obtain ⟨hcS, hBS⟩ := ‹_ ∧ Below w.heap.size w _›; refine (refput_walk _ _ _ (by omega) (by decide)).mono ?_; rintro e w1 ⟨rfl, hw1⟩; have hSn := And.intro ((hw1.cell (p := ⟨b, 0, none⟩) (Nat.lt_of_lt_of_le hb hBS.size)).trans hcS) (hBS.trans (hw1.mono hBS.size))))
        all_goals
          have hc0 := hSn.1
          have hc1 := (hSn.2.cell (p := ⟨b, 1, none⟩) hb).trans h1
          have hg0 := (hSn.2.frozen (p := ⟨b, 0, none⟩) hb).trans hf0
          have hg1 := (hSn.2.frozen (p := ⟨b, 1, none⟩) hb).trans hf1
          have hBut := But.of_below (S := fun i => i = b) hSn.2
          go_wp2
          go_ret
          exact get_good b c s t w w1 hBut hc0 hc1 hg0 hg1 HE.out
    · obtain ⟨k, rfl⟩ : ∃ k, c = k + 247 := ⟨c - 247, by omega⟩
      have hmx : (if ((k + 247 : Nat) : Int) - 247 < 0 then (0 : Int) else ((k + 247 : Nat) : Int) - 247) = (k : Int) := by split <;> omega
      have hmy : (if (k : Int) + 247 - 247 < 0 then (0 : Int) else (k : Int) + 247 - 247) = (k : Int) := by split <;> omega
      have hmz : (if (k : Int) < 0 then (0 : Int) else (k : Int)) = (k : Int) := by split <;> omega
      have hk7 : c8.toNat - 247 = k := by rw [HCC.out]; omega
      have hlen : (s.extract 1 s.size).data.toList.length = s.size - 1 := by simp
      by_cases hk : s.size < 1 + k
      · have HE := Lib.hid (show Wire.numP s.data.toList = (0, true, []) by rw [HST.out]; exact Wire.numP_short _ _ (by rw [HCC.out]; exact hc8) (by rw [hk7, hlen]; omega))
        have hBut := But.refl (fun i => i = b) w
        clear hk7 hlen
        go_enter Try.func16, Try.ntmps16
        go_wp2_with (go_at_call 22; refine (fail_walk b _ _ _ h0 h1 hf0 hf1).mono ?_; rintro e w9 ⟨⟨v, rfl⟩, rfl⟩)
        go_ret
        exact get_wrong b s w w hBut h0 h1 hf0 hf1 HE.out
      · go_enter Try.func16, Try.ntmps16
        go_wp2
        go_loop [4, 5] (fun nv iv => ∃ j : Nat, 1 ≤ j ∧ j ≤ k + 1 ∧ iv = .int .i64 j ∧ nv = .int .u64 ((Wire.val ((s.data.toList.take j).drop 1) : Nat) : Int)) (fun _ iv => k + 1 - (intOf iv).toNat)
        case atStart => exact ⟨1, by omega, by omega, rfl, by simp [Wire.val]⟩
        case round =>
          obtain ⟨j, hj1, hj2, rfl, rfl⟩ := hrel
          have hxb : Wire.val ((s.data.toList.take j).drop 1) < 256 ^ (j - 1) :=
            (Wire.be_snoc_val ((s.data.toList.take j).drop 1) (j - 1) (by rw [List.length_drop, List.length_take]; simp; omega)).2
          by_cases hjk : j ≤ k
          · have hjs : j < s.size := by omega
            have hvr := val_row s j hj1 hjs
            have hx2 := Nat.lt_of_lt_of_le hxb (Wire.pow_mono (show j - 1 ≤ 7 by omega))
            have h7 : 256 ^ 7 = 72057594037927936 := by simp
            rw [h7] at hx2
            obtain ⟨x, hx⟩ : ∃ x, Wire.val ((s.data.toList.take j).drop 1) = x := ⟨_, rfl⟩
            obtain ⟨y, hy⟩ : ∃ y, (s[j]'hjs).toNat = y := ⟨_, rfl⟩
            have hyb : y < 256 := by rw [← hy]; exact UInt8.toNat_lt _
            rw [hx] at hvr hx2 ⊢
            rw [hy] at hvr
            have HV := Lib.hid hvr
            clear hxb hvr hx h7 hk7 hlen
            go_wp2
            refine ⟨⟨j + 1, by omega, by omega, by go_num, ?_⟩, by simp [intOf]; omega⟩
            rw [HV.out]
            congr 1
            omega
          · obtain rfl : j = k + 1 := by omega
            have htk : (s.data.toList.take (k + 1)).drop 1 = (s.extract 1 s.size).data.toList.take k := by
              rw [extract_drop, List.drop_take]; rfl
            have htd : (s.extract 1 s.size).data.toList.drop k = (s.extract (1 + k) s.size).data.toList := by
              rw [extract_drop, extract_drop, List.drop_drop]
            have hsk : (s.extract 0 (1 + k)).data.toList = c8 :: (s.extract 1 s.size).data.toList.take k := by
              rw [ext_list, HST.out, Nat.add_comm, List.take_succ_cons]
            have hV : Wire.val ((s.data.toList.take (k + 1)).drop 1) < 18446744073709551616 := by
              have h8 : 256 ^ 8 = 18446744073709551616 := by simp
              exact Nat.lt_of_lt_of_le hxb (Nat.le_trans (Wire.pow_mono (show k + 1 - 1 ≤ 8 by omega)) (Nat.le_of_eq h8))
            rw [htk] at hV ⊢
            have hnt := Wire.numP_take c8 (s.extract 1 s.size).data.toList (by rw [HCC.out]; exact hc8) (by rw [hk7, hlen]; omega)
            have hnn := Wire.numP_not c8 (s.extract 1 s.size).data.toList (by rw [HCC.out]; exact hc8) (by rw [hk7, hlen]; omega)
            rw [hk7, htd, ← HST.out] at hnt
            rw [hk7, ← HST.out] at hnn
            obtain ⟨V, hVe⟩ : ∃ V, Wire.val ((s.extract 1 s.size).data.toList.take k) = V := ⟨_, rfl⟩
            rw [hVe] at hV hnt hnn ⊢
            obtain ⟨t, ht⟩ : ∃ t, s.extract (1 + k) s.size = t := ⟨_, rfl⟩
            rw [ht] at hnt
            obtain ⟨q, hq⟩ : ∃ q, ((⟨#[]⟩ ++ encB V).toList == (s.extract 0 (1 + k)).toList) = q := ⟨_, rfl⟩
            have hqe : q = true ↔ Wire.enc V = c8 :: (s.extract 1 s.size).data.toList.take k := by
              rw [← hq, beq_iff_eq, toList_data, toList_data, hsk, empty_text]
              simp [encB]
            have hi1 : (1 : Int) + (k : Int) ≤ (s.size : Int) := by omega
            have hi0 : (0 : Int) ≤ 1 + (k : Int) := by omega
            have hi2 : ((1 : Int) + (k : Int)).toNat = 1 + k := by omega
            have hw1 : IntKind.i64.wrap (1 + (k : Int)) = 1 + (k : Int) := by
              have : k < 1000 := by omega
              rw [IntKind.wrap_i64]
              omega
            have hT := Lib.hid hnt
            have hN := Lib.hid hnn
            have hQ := Lib.hid hqe
            clear hnt hnn hqe hxb htk htd hsk hlen hk7 hVe
            cases q with
            | false =>
              have HE := Lib.hid (hN.out (fun h => Bool.noConfusion (hQ.out.2 h)))
              clear hT hN hQ
              go_wp2
              go_region_held3 (fun w' => w'.cell? ⟨b, 0, none⟩ = some (.string s) ∧ Below w.heap.size w w') (first | exact hSn | exact ⟨h0, (Below.refl _ w).drew⟩)
                (first
            | (go_at_call 10; obtain ⟨hcS, hBS⟩ := ‹_ ∧ Below w.heap.size w _›; refine (refput_walk _ _ _ hV (by decide)).mono ?_; rintro e w1 ⟨rfl, hw1⟩; have hSn := And.intro ((hw1.cell (p := ⟨b, 0, none⟩) (Nat.lt_of_lt_of_le hb hBS.size)).trans hcS) (hBS.trans (hw1.mono hBS.size))))
              all_goals
                have hc0 := hSn.1
                have hc1 := (hSn.2.cell (p := ⟨b, 1, none⟩) hb).trans h1
                have hg0 := (hSn.2.frozen (p := ⟨b, 0, none⟩) hb).trans hf0
                have hg1 := (hSn.2.frozen (p := ⟨b, 1, none⟩) hb).trans hf1
                have hBut := But.of_below (S := fun i => i = b) hSn.2
                go_wp2_with (go_at_call 22; refine (fail_walk b _ _ _ hc0 hc1 hg0 hg1).mono ?_; rintro e w9 ⟨⟨v, rfl⟩, rfl⟩)
                go_ret
                exact get_wrong b s w w1 hBut hc0 hc1 hg0 hg1 HE.out
            | true =>
              have HE := Lib.hid (hT.out (hQ.out.1 rfl))
              clear hT hN hQ
              go_wp2
              go_region_held3 (fun w' => w'.cell? ⟨b, 0, none⟩ = some (.string s) ∧ Below w.heap.size w w') (first | exact hSn | exact ⟨h0, (Below.refl _ w).drew⟩)
                (first
            | (go_at_call 10; obtain ⟨hcS, hBS⟩ := ‹_ ∧ Below w.heap.size w _›; refine (refput_walk _ _ _ hV (by decide)).mono ?_; rintro e w1 ⟨rfl, hw1⟩; have hSn := And.intro ((hw1.cell (p := ⟨b, 0, none⟩) (Nat.lt_of_lt_of_le hb hBS.size)).trans hcS) (hBS.trans (hw1.mono hBS.size))))
              all_goals
                have hc0 := hSn.1
                have hc1 := (hSn.2.cell (p := ⟨b, 1, none⟩) hb).trans h1
                have hg0 := (hSn.2.frozen (p := ⟨b, 0, none⟩) hb).trans hf0
                have hg1 := (hSn.2.frozen (p := ⟨b, 1, none⟩) hb).trans hf1
                have hBut := But.of_below (S := fun i => i = b) hSn.2
                go_wp2_with (go_at_call 22; refine (fail_walk b _ _ _ hc0 hc1 hg0 hg1).mono ?_; rintro e w9 ⟨⟨v, rfl⟩, rfl⟩)
                go_ret
                exact get_good b V s t w w1 hBut hc0 hc1 hg0 hg1 HE.out
  · have HE := Lib.hid (show Wire.numP s.data.toList = (0, true, []) by
      have h3 : s.data.toList.length = s.size := by simp
      have h4 : s.data.toList = [] := List.length_eq_zero_iff.1 (by omega)
      rw [h4]; rfl)
    have hne : s.toList.isEmpty = true := by
      have h3 : s.data.toList.length = s.size := by simp
      rw [toList_data, List.isEmpty_iff, ← List.length_eq_zero_iff]; omega
    have hBut := But.refl (fun i => i = b) w
    clear hbad
    go_enter Try.func16, Try.ntmps16
    go_wp2_with (go_at_call 22; refine (fail_walk b _ _ _ h0 h1 hf0 hf1).mono ?_; rintro e w9 ⟨⟨v, rfl⟩, rfl⟩)
    go_ret
    exact get_wrong b s w w hBut h0 h1 hf0 hf1 HE.out
end Go.Proofs.Ytgdhhdlffioapaa
