/-
  The program's reader of numbers, walked. Conditions: texts that fit the model's memory; a reader that is not well has nothing left.
-/
import Derived.Test.YtpdckafighfadaaWireWalk
import Derived.Test.YtpdckafighfadaaEngU
namespace Go.Proofs.Ytpdckafighfadaa
open Go.RowKit Go.ChangeShapes Go.WideShapes

set_option maxRecDepth 100000 in
theorem putnum_walk (s : ByteArray) (n : Nat) (w : World) (hn : n < 18446744073709551616) (hs : s.size ≤ 100000) :
    Calls Try.prog 22 #[.string s, .int .u64 n] w fun e w' => e = .returned (.string (s ++ encB n)) ∧ Below w.heap.size w w' := by
  go_enter Try.func22, Try.ntmps22
  go_wp2_with (go_at_call 40; refine (put_one s n _ _ _ (by simp) (cell_new _ _ _ _) hn hs).mono ?_; rintro e w1 ⟨rfl, hw1⟩)
  go_ret
  exact ⟨rfl, ((Below.refl _ w).alloc (Nat.le_refl _) _).trans (hw1.mono (by simp))⟩

set_option maxRecDepth 100000 in
theorem newreader_walk (s : ByteArray) (w : World) :
    Calls Try.prog 27 #[.string s] w fun e w' => e = .returned (.pointer (some ⟨w.heap.size, 0, none⟩)) ∧ w' = w.alloc (.cells #[.string s, .bool false] 66) := by
  go_enter Try.func27, Try.ntmps27
  go_wp2
  go_ret
  exact ⟨rfl, rfl⟩

set_option maxRecDepth 100000 in
theorem ok_walk (b : Nat) (bad : Bool) (w : World) (h : w.cell? ⟨b, 1, none⟩ = some (.bool bad)) :
    Calls Try.prog 42 #[.pointer (some ⟨b, 0, none⟩)] w fun e w' => e = .returned (.bool (!bad)) ∧ w' = w := by
  go_enter Try.func42, Try.ntmps42
  go_wp2
  go_ret
  exact ⟨rfl, rfl⟩

set_option maxRecDepth 100000 in
theorem end_walk (b : Nat) (bad : Bool) (s : ByteArray) (w : World) (h : w.cell? ⟨b, 1, none⟩ = some (.bool bad)) (h0 : w.cell? ⟨b, 0, none⟩ = some (.string s)) :
    Calls Try.prog 30 #[.pointer (some ⟨b, 0, none⟩)] w fun e w' => e = .returned (.bool (!bad && s.toList.isEmpty)) ∧ w' = w := by
  cases bad <;> (go_enter Try.func30, Try.ntmps30; go_wp2_with (go_at_call 42; refine (ok_walk b _ _ h).mono ?_; rintro e w1 ⟨rfl, rfl⟩); go_ret; exact ⟨rfl, rfl⟩)

/-- what reading a number leaves -/
def NumGet (b : Nat) (s : ByteArray) (w : World) (e : Ending) (w' : World) : Prop :=
  ∃ (n : Nat) (bad : Bool) (rest : ByteArray), Wire.numP s.data.toList = (n, bad, rest.data.toList) ∧ e = .returned (.int .u64 n) ∧ But (· = b) w w' ∧
      w'.cell? ⟨b, 0, none⟩ = some (.string rest) ∧ w'.cell? ⟨b, 1, none⟩ = some (.bool bad) ∧ w'.frozen? ⟨b, 0, none⟩ = false ∧ w'.frozen? ⟨b, 1, none⟩ = false
theorem num_drew {b : Nat} {s : ByteArray} {w w' : World} {e : Ending} (h : NumGet b s w e w') : NumGet b s w e w'.drew := by
  obtain ⟨n, bad, rest, h1, h2, h3, h4⟩ := h
  exact ⟨n, bad, rest, h1, h2, h3.drew, h4⟩
theorem ne01 (b : Nat) : (⟨b, 1, none⟩ : Addr) ≠ ⟨b, 0, none⟩ := by simp
theorem ne10 (b : Nat) : (⟨b, 0, none⟩ : Addr) ≠ ⟨b, 1, none⟩ := by simp
theorem frozen_set (w : World) (a : Addr) (v : Value) (b : Nat) (i : Nat) : (w.setCell a v).frozen? ⟨b, i, none⟩ = w.frozen? ⟨b, i, none⟩ := by
  rw [World.frozen?_setCell]
theorem frozen_old (w : World) (o : Obj) (b : Nat) (i : Nat) (h : b < w.heap.size) : (w.alloc o).frozen? ⟨b, i, none⟩ = w.frozen? ⟨b, i, none⟩ :=
  ((Below.refl w.heap.size w).alloc (Nat.le_refl _) o).frozen (p := ⟨b, i, none⟩) h
theorem num_wrong (b : Nat) (bad : Bool) (s : ByteArray) (w : World) (X : Obj) (hb : b < w.heap.size) (h0 : w.cell? ⟨b, 0, none⟩ = some (.string s)) (h1 : w.cell? ⟨b, 1, none⟩ = some (.bool bad))
    (hf0 : w.frozen? ⟨b, 0, none⟩ = false) (hf1 : w.frozen? ⟨b, 1, none⟩ = false) (hp : Wire.numP s.data.toList = (0, true, [])) :
    NumGet b s w (.returned (.int .u64 0)) (((w.setCell ⟨b, 0, none⟩ (.string ⟨#[]⟩)).setCell ⟨b, 1, none⟩ (.bool true)).alloc X) := by
  have hb2 : b < ((w.setCell ⟨b, 0, none⟩ (.string ⟨#[]⟩)).setCell ⟨b, 1, none⟩ (.bool true)).heap.size := by simpa using hb
  refine ⟨0, true, ⟨#[]⟩, hp, rfl, ?_, ?_, ?_, ?_, ?_⟩
  · exact (((But.refl (fun x => x = b) w).setCell (p := ⟨b, 0, none⟩) (.inl rfl) _).setCell (p := ⟨b, 1, none⟩) (.inl rfl) _).alloc _
  · rw [World.cell?_alloc_lt _ _ _ hb2, World.cell?_setCell_other (h := ne01 b), World.cell?_setCell_same (h := h0)]
  · rw [World.cell?_alloc_lt _ _ _ hb2, World.cell?_setCell_same (h := (World.cell?_setCell_other _ _ _ _ (ne10 b)).trans h1)]
  · rw [frozen_old _ _ _ _ hb2, frozen_set, frozen_set, hf0]
  · rw [frozen_old _ _ _ _ hb2, frozen_set, frozen_set, hf1]
theorem num_good (b n : Nat) (s t : ByteArray) (w : World) (X : Obj) (hb : b < w.heap.size) (h0 : w.cell? ⟨b, 0, none⟩ = some (.string s)) (h1 : w.cell? ⟨b, 1, none⟩ = some (.bool false))
    (hf0 : w.frozen? ⟨b, 0, none⟩ = false) (hf1 : w.frozen? ⟨b, 1, none⟩ = false) (he : Wire.numP s.data.toList = (n, false, t.data.toList)) :
    NumGet b s w (.returned (.int .u64 n)) ((w.setCell ⟨b, 0, none⟩ (.string t)).alloc X) := by
  have hb2 : b < (w.setCell ⟨b, 0, none⟩ (.string t)).heap.size := by simpa using hb
  refine ⟨n, false, t, he, rfl, ?_, ?_, ?_, ?_, ?_⟩
  · exact ((But.refl (fun x => x = b) w).setCell (p := ⟨b, 0, none⟩) (.inl rfl) _).alloc _
  · rw [World.cell?_alloc_lt _ _ _ hb2, World.cell?_setCell_same (h := h0)]
  · rw [World.cell?_alloc_lt _ _ _ hb2, World.cell?_setCell_other (h := ne10 b)]
    exact h1
  · rw [frozen_old _ _ _ _ hb2, frozen_set, hf0]
  · rw [frozen_old _ _ _ _ hb2, frozen_set, hf1]

theorem or_byte (x c : Nat) (hx : x < 72057594037927936) (hc : c < 256) : bits .or .u64 ((x : Int) * 256) (c : Int) = ((x * 256 + c : Nat) : Int) := by
  have h1 := u64_or_nat (x * 256) c (by omega) (by omega)
  have h2 := Nat.shiftLeft_add_eq_or_of_lt (show c < 2 ^ 8 by omega) x
  rw [Nat.shiftLeft_eq] at h2
  rw [show ((x : Int) * 256) = ((x * 256 : Nat) : Int) by simp, h1, ← h2]

theorem val_take (t : ByteArray) (m : Nat) (h : m < t.size) : Wire.val (t.data.toList.take (m + 1)) = Wire.val (t.data.toList.take m) * 256 + (t[m]'h).toNat := by
  have e : t.data.toList.take (m + 1) = t.data.toList.take m ++ [t[m]'h] := by
    rw [List.take_succ_eq_append_getElem (by simpa using h)]; rfl
  rw [e, Wire.val_snoc]
theorem extract_drop (t : ByteArray) (m : Nat) : (t.extract m t.size).data.toList = t.data.toList.drop m := by
  simp [List.take_of_length_le]
theorem head_get (t : ByteArray) (h : 0 < t.size) : t.data.toList.head? = some (t[0]'h) := by
  have e2 : t.data.toList.length = t.size := by simp
  rw [List.head?_eq_getElem?, List.getElem?_eq_getElem (by omega)]
  rfl
theorem cons_get (s : ByteArray) (h : 0 < s.size) : s.data.toList = (s[0]'h) :: (s.extract 1 s.size).data.toList := by
  have h1 := head_get s h
  rw [extract_drop]
  cases hl : s.data.toList with
  | nil => rw [hl] at h1; simp at h1
  | cons x l => rw [hl] at h1; simp at h1; rw [h1]; rfl

set_option maxRecDepth 100000 in
set_option maxHeartbeats 4000000 in
theorem num_get (b : Nat) (bad : Bool) (s : ByteArray) (w : World) (hb : b < w.heap.size) (h0 : w.cell? ⟨b, 0, none⟩ = some (.string s)) (h1 : w.cell? ⟨b, 1, none⟩ = some (.bool bad)) (hbad : bad = true → s.size = 0)
    (hf0 : w.frozen? ⟨b, 0, none⟩ = false) (hf1 : w.frozen? ⟨b, 1, none⟩ = false) (hs : s.size ≤ 9223372036854775807) :
    Calls Try.prog 29 #[.pointer (some ⟨b, 0, none⟩)] w fun e w' => NumGet b s w e w' := by
  have HW := fun X hp => Lib.hid (num_wrong b bad s w X hb h0 h1 hf0 hf1 hp)
  have HW := Lib.hid HW
  by_cases hpos : 0 < s.size
  · obtain rfl : bad = false := by
      cases bad
      · rfl
      · have := hbad rfl; omega
    have HG := fun X n t he => Lib.hid (num_good b n s t w X hb h0 h1 hf0 hf1 he)
    have HG := Lib.hid HG
    clear hbad
    have hst0 := cons_get s hpos
    have hne : s.toList.isEmpty = false := by
      rw [Bool.eq_false_iff, ne_eq, List.isEmpty_iff, ByteArray.toList_eq]
      intro h
      have h2 : s.data.toList.length = 0 := by rw [h]; rfl
      have h3 : s.data.toList.length = s.size := by simp
      omega
    obtain ⟨t, ht⟩ : ∃ t, s.extract 1 s.size = t := ⟨_, rfl⟩
    obtain ⟨c, hc⟩ : ∃ c, (s[0]'hpos).toNat = c := ⟨_, rfl⟩
    have hcb : c < 256 := by rw [← hc]; exact UInt8.toNat_lt _
    have htz : t.size + 1 = s.size := by rw [← ht]; simp; omega
    rw [ht] at hst0
    obtain ⟨c8, hc8⟩ : ∃ c8, s[0]'hpos = c8 := ⟨_, rfl⟩
    have hcc : c8.toNat = c := by rw [← hc8, hc]
    rw [hc8] at hst0
    clear hc8
    have HST := Lib.hid hst0
    have HCC := Lib.hid hcc
    clear hst0 hcc
    by_cases hc8 : c < 248
    · have he : Wire.numP s.data.toList = (c, false, t.data.toList) := by rw [HST.out, Wire.numP_small _ _ (by rw [HCC.out]; exact hc8), HCC.out]
      have HE := Lib.hid he
      clear he
      go_enter Try.func29, Try.ntmps29
      go_wp2
      go_region
      go_wp2
      go_ret
      exact num_drew ((HG.out _ c t HE.out).out)
    · obtain ⟨k, rfl⟩ : ∃ k, c = k + 247 := ⟨c - 247, by omega⟩
      by_cases hk : t.size < k
      · have HE := Lib.hid (show Wire.numP s.data.toList = (0, true, []) by rw [HST.out]; exact Wire.numP_short _ _ (by rw [HCC.out]; exact hc8) (by rw [HCC.out]; simp; omega))
        go_enter Try.func29, Try.ntmps29
        go_wp2
        go_region
        go_wp2
        go_ret
        exact num_drew ((HW.out _ HE.out).out)
      · have hpt : 0 < t.size := by omega
        obtain ⟨d, hd⟩ : ∃ d, (t[0]'hpt).toNat = d := ⟨_, rfl⟩
        by_cases hd0 : d = 0
        · subst hd0
          have HE := Lib.hid (show Wire.numP s.data.toList = (0, true, []) by
            rw [HST.out]
            refine Wire.numP_zero _ _ (by rw [HCC.out]; exact hc8) ?_
            rw [head_get t hpt]
            exact congrArg some (UInt8.toNat_inj.1 hd))
          go_enter Try.func29, Try.ntmps29
          go_wp2
          go_region
          go_wp2
          go_ret
          exact num_drew ((HW.out _ HE.out).out)
        · go_enter Try.func29, Try.ntmps29
          go_wp2
          go_region
          go_wp2
          go_loop [2, 51] (fun nv iv => ∃ m : Nat, m ≤ k ∧ iv = .int .i64 m ∧ nv = .int .u64 ((Wire.val (t.data.toList.take m) : Nat) : Int)) (fun _ iv => k - (intOf iv).toNat)
          case atStart => exact ⟨0, Nat.zero_le _, rfl, rfl⟩
          case round =>
            obtain ⟨m, hm, rfl, rfl⟩ := hrel
            by_cases hmk : m < k
            · have hmt : m < t.size := by omega
              obtain ⟨x, hx⟩ : ∃ x, Wire.val (t.data.toList.take m) = x := ⟨_, rfl⟩
              obtain ⟨y, hy⟩ : ∃ y, (t[m]'hmt).toNat = y := ⟨_, rfl⟩
              have hxb : x < 72057594037927936 := by
                have h3 := (Wire.be_snoc_val (t.data.toList.take m) m (by rw [List.length_take]; have : t.data.toList.length = t.size := by simp
                                                                          omega)).2
                have h4 := Wire.pow_mono (show m ≤ 7 by omega)
                rw [← hx]
                exact Nat.lt_of_lt_of_le h3 (by simpa using h4)
              have hyb : y < 256 := by rw [← hy]; exact UInt8.toNat_lt _
              have hor := or_byte x y hxb hyb
              have HX := Lib.hid hx
              have HY := Lib.hid hy
              rw [hx]
              clear hx
              go_wp2
              refine ⟨⟨m + 1, by omega, by go_num, ?_⟩, by simp [intOf]; omega⟩
              rw [val_take t m hmt, HX.out, HY.out]
              rfl
            · obtain rfl : m = k := by omega
              have hV : Wire.val (t.data.toList.take m) < 18446744073709551616 := by
                have h3 := (Wire.be_snoc_val (t.data.toList.take m) m (by rw [List.length_take]; have : t.data.toList.length = t.size := by simp
                                                                          omega)).2
                have h4 := Wire.pow_mono (show m ≤ 8 by omega)
                exact Nat.lt_of_lt_of_le h3 (by simpa using h4)
              have hk7 : c8.toNat - 247 = m := by rw [HCC.out]; omega
              have hlo := Wire.numP_low c8 t.data.toList (by rw [HCC.out]; exact hc8) (by rw [hk7]; simp; omega)
              have hgd := Wire.numP_good c8 t.data.toList (by rw [HCC.out]; exact hc8) (by rw [hk7]; simp; omega) (by rw [head_get t hpt]; intro h; apply hd0; rw [← hd, Option.some.inj h]; rfl)
              rw [hk7, ← extract_drop] at hgd
              rw [hk7] at hlo
              rw [← HST.out] at hlo hgd
              have hlo := Lib.hid hlo
              have hgd := Lib.hid hgd
              clear hk7
              obtain ⟨V, hVe⟩ : ∃ V, Wire.val (t.data.toList.take m) = V := ⟨_, rfl⟩
              rw [hVe] at hlo hgd hV ⊢
              clear hVe
              by_cases hV8 : V < 248
              · have HE := Lib.hid (hlo.out hV8)
                go_wp2
                go_ret
                exact num_drew ((HW.out _ HE.out).out)
              · have HE := Lib.hid (hgd.out (by omega))
                obtain ⟨t2, ht2⟩ : ∃ t2, t.extract m t.size = t2 := ⟨_, rfl⟩
                rw [ht2] at HE
                go_wp2
                go_region
                go_wp2
                go_ret
                exact num_drew (num_drew ((HG.out _ V t2 HE.out).out))
  · have hne : s.toList.isEmpty = true := by
      rw [ByteArray.toList_eq, List.isEmpty_iff, ← List.length_eq_zero_iff]
      have h3 : s.data.toList.length = s.size := by simp
      omega
    have HE := Lib.hid (show Wire.numP s.data.toList = (0, true, []) by
      have h3 : s.data.toList.length = s.size := by simp
      have h4 : s.data.toList = [] := List.length_eq_zero_iff.1 (by omega)
      rw [h4]; rfl)
    clear hbad
    go_enter Try.func29, Try.ntmps29
    go_wp2
    go_ret
    exact (HW.out _ HE.out).out

/-- the shorter word -/
def NumPost (b : Nat) (s : ByteArray) (w : World) (e : Ending) (w' : World) : Prop :=
  ∃ (n : Nat) (bad : Bool) (rest : ByteArray), e = .returned (.int .u64 n) ∧ n < 18446744073709551616 ∧ Below b w w' ∧
      w'.cell? ⟨b, 0, none⟩ = some (.string rest) ∧ w'.cell? ⟨b, 1, none⟩ = some (.bool bad) ∧ (bad = true → n = 0) ∧ (bad = false → s.data.toList = Wire.enc n ++ rest.data.toList)
theorem num_walk (b : Nat) (s : ByteArray) (w : World) (hb : b < w.heap.size) (h0 : w.cell? ⟨b, 0, none⟩ = some (.string s)) (h1 : w.cell? ⟨b, 1, none⟩ = some (.bool false))
    (hf0 : w.frozen? ⟨b, 0, none⟩ = false) (hf1 : w.frozen? ⟨b, 1, none⟩ = false) (hs : s.size ≤ 9223372036854775807) :
    Calls Try.prog 29 #[.pointer (some ⟨b, 0, none⟩)] w fun e w' => NumPost b s w e w' := by
  refine (num_get b false s w hb h0 h1 (fun h => by cases h) hf0 hf1 hs).mono ?_
  rintro e w' ⟨n, bad, rest, hp, rfl, hB, hc0, hc1, _⟩
  refine ⟨n, bad, rest, rfl, by have := Wire.numP_lt s.data.toList; rwa [hp] at this, hB.below b (fun i hi => by omega) (Nat.le_of_lt hb), hc0, hc1, fun h => ?_, fun h => ?_⟩
  · have := Wire.numP_bad s.data.toList (by rw [hp]; exact h)
    rw [hp] at this
    simpa using (congrArg Prod.fst this)
  · have := Wire.numP_enc s.data.toList (by rw [hp]; exact h)
    rwa [hp] at this
end Go.Proofs.Ytpdckafighfadaa
