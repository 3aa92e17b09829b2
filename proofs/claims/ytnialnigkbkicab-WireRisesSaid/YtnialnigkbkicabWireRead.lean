/-
  The program's reader of numbers, walked. (under way)
-/
import Derived.Test.YtnialnigkbkicabWireWalk
namespace Go.Proofs.Ytnialnigkbkicab
open Go.RowKit Go.ChangeShapes Go.WideShapes

set_option maxRecDepth 100000 in
theorem putnum_walk (s : ByteArray) (n : Nat) (w : World) (hn : n < 18446744073709551616) (hs : s.size ≤ 100000) :
    Calls Try.prog 16 #[.string s, .int .u64 n] w fun e w' => e = .returned (.string (s ++ encB n)) ∧ Below w.heap.size w w' := by
  go_enter Try.func16, Try.ntmps16
  go_wp2_with (go_at_call 21; refine (put_one s n _ _ _ (by simp) (cell_new _ _ _ _) hn hs).mono ?_; rintro e w1 ⟨rfl, hw1⟩)
  go_ret
  exact ⟨rfl, ((Below.refl _ w).alloc (Nat.le_refl _) _).trans (hw1.mono (by simp))⟩

set_option maxRecDepth 100000 in
theorem newreader_walk (s : ByteArray) (w : World) :
    Calls Try.prog 6 #[.string s] w fun e w' => e = .returned (.pointer (some ⟨w.heap.size, 0, none⟩)) ∧ w' = w.alloc (.cells #[.string s, .bool false] 40) := by
  go_enter Try.func6, Try.ntmps6
  go_wp2
  go_ret
  exact ⟨rfl, rfl⟩

set_option maxRecDepth 100000 in
theorem ok_walk (b : Nat) (bad : Bool) (w : World) (h : w.cell? ⟨b, 1, none⟩ = some (.bool bad)) :
    Calls Try.prog 11 #[.pointer (some ⟨b, 0, none⟩)] w fun e w' => e = .returned (.bool (!bad)) ∧ w' = w := by
  go_enter Try.func11, Try.ntmps11
  go_wp2
  go_ret
  exact ⟨rfl, rfl⟩

set_option maxRecDepth 100000 in
theorem end_walk (b : Nat) (bad : Bool) (s : ByteArray) (w : World) (h : w.cell? ⟨b, 1, none⟩ = some (.bool bad)) (h0 : w.cell? ⟨b, 0, none⟩ = some (.string s)) :
    Calls Try.prog 13 #[.pointer (some ⟨b, 0, none⟩)] w fun e w' => e = .returned (.bool (!bad && s.toList.isEmpty)) ∧ w' = w := by
  cases bad <;> (go_enter Try.func13, Try.ntmps13; go_wp2_with (go_at_call 11; refine (ok_walk b _ _ h).mono ?_; rintro e w1 ⟨rfl, rfl⟩); go_ret; exact ⟨rfl, rfl⟩)

def NumPost (b : Nat) (s : ByteArray) (w : World) (e : Ending) (w' : World) : Prop :=
  ∃ (n : Nat) (bad : Bool) (rest : ByteArray), e = .returned (.int .u64 n) ∧ n < 18446744073709551616 ∧ Below b w w' ∧
      w'.cell? ⟨b, 0, none⟩ = some (.string rest) ∧ w'.cell? ⟨b, 1, none⟩ = some (.bool bad) ∧ (bad = true → n = 0) ∧ (bad = false → s.data.toList = Wire.enc n ++ rest.data.toList)
theorem num_drew {b : Nat} {s : ByteArray} {w w' : World} {e : Ending} (h : NumPost b s w e w') : NumPost b s w e w'.drew := by
  obtain ⟨n, bad, rest, h1, h2, h3, h4⟩ := h
  exact ⟨n, bad, rest, h1, h2, h3.drew, h4⟩
theorem ne01 (b : Nat) : (⟨b, 1, none⟩ : Addr) ≠ ⟨b, 0, none⟩ := by simp
theorem ne10 (b : Nat) : (⟨b, 0, none⟩ : Addr) ≠ ⟨b, 1, none⟩ := by simp
theorem num_wrong (b : Nat) (s : ByteArray) (w : World) (X : Obj) (hb : b < w.heap.size) (h0 : w.cell? ⟨b, 0, none⟩ = some (.string s)) (h1 : w.cell? ⟨b, 1, none⟩ = some (.bool false)) :
    NumPost b s w (.returned (.int .u64 0)) (((w.setCell ⟨b, 0, none⟩ (.string ⟨#[]⟩)).setCell ⟨b, 1, none⟩ (.bool true)).alloc X) := by
  have hb2 : b < ((w.setCell ⟨b, 0, none⟩ (.string ⟨#[]⟩)).setCell ⟨b, 1, none⟩ (.bool true)).heap.size := by simpa using hb
  refine ⟨0, true, ⟨#[]⟩, rfl, by omega, ?_, ?_, ?_, fun _ => rfl, fun h => by cases h⟩
  · exact (((Below.refl b w).setCell (Nat.le_refl _) _).setCell (Nat.le_refl _) _).alloc (Nat.le_of_lt hb2) _
  · rw [World.cell?_alloc_lt _ _ _ hb2, World.cell?_setCell_other (h := ne01 b), World.cell?_setCell_same (h := h0)]
  · rw [World.cell?_alloc_lt _ _ _ hb2, World.cell?_setCell_same (h := (World.cell?_setCell_other _ _ _ _ (ne10 b)).trans h1)]
theorem num_good (b n : Nat) (s t : ByteArray) (w : World) (X : Obj) (hb : b < w.heap.size) (h0 : w.cell? ⟨b, 0, none⟩ = some (.string s)) (h1 : w.cell? ⟨b, 1, none⟩ = some (.bool false)) (hn : n < 18446744073709551616)
    (he : s.data.toList = Wire.enc n ++ t.data.toList) :
    NumPost b s w (.returned (.int .u64 n)) ((w.setCell ⟨b, 0, none⟩ (.string t)).alloc X) := by
  have hb2 : b < (w.setCell ⟨b, 0, none⟩ (.string t)).heap.size := by simpa using hb
  refine ⟨n, false, t, rfl, hn, ?_, ?_, ?_, (fun h => absurd h (by decide)), (fun _ => he)⟩
  · exact ((Below.refl b w).setCell (Nat.le_refl _) _).alloc (Nat.le_of_lt hb2) _
  · rw [World.cell?_alloc_lt _ _ _ hb2, World.cell?_setCell_same (h := h0)]
  · rw [World.cell?_alloc_lt _ _ _ hb2, World.cell?_setCell_other (h := ne10 b)]
    exact h1

theorem or_byte (x c : Nat) (hx : x < 72057594037927936) (hc : c < 256) : bits .or .u64 ((x : Int) * 256) (c : Int) = ((x * 256 + c : Nat) : Int) := by
  have h1 := u64_or_nat (x * 256) c (by omega) (by omega)
  have h2 := Nat.shiftLeft_add_eq_or_of_lt (show c < 2 ^ 8 by omega) x
  rw [Nat.shiftLeft_eq] at h2
  rw [show ((x : Int) * 256) = ((x * 256 : Nat) : Int) by simp, h1, ← h2]

theorem val_take (t : ByteArray) (m : Nat) (h : m < t.size) : Wire.val (t.data.toList.take (m + 1)) = Wire.val (t.data.toList.take m) * 256 + (t[m]'h).toNat := by
  have e : t.data.toList.take (m + 1) = t.data.toList.take m ++ [t[m]'h] := by
    rw [List.take_succ_eq_append_getElem (by simpa using h)]; rfl
  rw [e, Wire.val_snoc]
theorem read_text (t : ByteArray) (m : Nat) (hp : 0 < t.size) (h1 : 1 ≤ m) (hm : m ≤ t.size) (hd : (t[0]'hp).toNat ≠ 0) (hV : 248 ≤ Wire.val (t.data.toList.take m)) :
    UInt8.ofNat (m + 247) :: t.data.toList = Wire.enc (Wire.val (t.data.toList.take m)) ++ (t.extract m t.size).data.toList := by
  have e2 : t.data.toList.length = t.size := by simp
  have e4 : (t.extract m t.size).data.toList = t.data.toList.drop m := by
    simp [List.take_of_length_le]
  have h4 : t.data.toList[0]? = some (t[0]'hp) := by
    rw [List.getElem?_eq_getElem (by omega)]; rfl
  rw [e4]
  cases hl : t.data.toList with
  | nil => rw [hl] at e2; simp at e2; omega
  | cons x l =>
    rw [hl] at h4 e2 hV
    have h5 : x = t[0]'hp := Option.some.inj h4
    obtain ⟨q, rfl⟩ : ∃ q, m = q + 1 := ⟨m - 1, by omega⟩
    rw [List.take_succ_cons] at hV ⊢
    have hx : x ≠ 0 := fun h => hd (by rw [← h5, h]; rfl)
    rw [Wire.read_back x (l.take q) hx hV, List.length_take]
    have e5 : min q l.length = q := by simp at e2; omega
    rw [e5, List.drop_succ_cons, List.cons_append, List.cons_append, List.take_append_drop, Nat.add_comm 247]

set_option maxRecDepth 100000 in
set_option maxHeartbeats 4000000 in
theorem num_walk (b : Nat) (s : ByteArray) (w : World) (hb : b < w.heap.size) (h0 : w.cell? ⟨b, 0, none⟩ = some (.string s)) (h1 : w.cell? ⟨b, 1, none⟩ = some (.bool false))
    (hf0 : w.frozen? ⟨b, 0, none⟩ = false) (hf1 : w.frozen? ⟨b, 1, none⟩ = false) (hs : s.size ≤ 9223372036854775807) :
    Calls Try.prog 9 #[.pointer (some ⟨b, 0, none⟩)] w fun e w' => NumPost b s w e w' := by
  have HW := fun X => Lib.hid (num_wrong b s w X hb h0 h1)
  have HG := fun X n t hn he => Lib.hid (num_good b n s t w X hb h0 h1 hn he)
  have HW := Lib.hid HW
  have HG := Lib.hid HG
  by_cases hpos : 0 < s.size
  · have hne : s.toList.isEmpty = false := by
      rw [Bool.eq_false_iff, ne_eq, List.isEmpty_iff, ByteArray.toList_eq]
      intro h
      have h2 : s.data.toList.length = 0 := by rw [h]; rfl
      have h3 : s.data.toList.length = s.size := by simp
      omega
    obtain ⟨t, ht⟩ : ∃ t, s.extract 1 s.size = t := ⟨_, rfl⟩
    obtain ⟨c, hc⟩ : ∃ c, (s[0]'hpos).toNat = c := ⟨_, rfl⟩
    have hcb : c < 256 := by rw [← hc]; exact UInt8.toNat_lt _
    have htz : t.size + 1 = s.size := by rw [← ht]; simp; omega
    have hst : s.data.toList = UInt8.ofNat c :: t.data.toList := by
      have e1 : s.data.toList.drop 1 = t.data.toList := by rw [← ht]; simp [List.take_of_length_le]
      have e2 : s.data.toList.length = s.size := by simp
      cases hl : s.data.toList with
      | nil => rw [hl] at e2; simp at e2; omega
      | cons x l =>
        rw [hl] at e1
        have e3 : s[0]'hpos = x := by
          have : s.data.toList[0]? = some x := by rw [hl]; rfl
          have h4 : s.data.toList[0]? = some (s[0]'hpos) := by
            rw [List.getElem?_eq_getElem (by omega)]; rfl
          rw [this] at h4
          exact (Option.some.inj h4).symm
        rw [← hc, e3, ← e1]
        simp
    have HST := Lib.hid hst
    clear hst
    by_cases hc8 : c < 248
    · have he : s.data.toList = Wire.enc c ++ t.data.toList := by rw [HST.out, Wire.enc, if_pos hc8]; rfl
      have HE := Lib.hid he
      clear he
      go_enter Try.func9, Try.ntmps9
      go_wp2
      go_region
      go_wp2
      go_ret
      exact num_drew ((HG.out _ c t (by omega) HE.out).out)
    · obtain ⟨k, rfl⟩ : ∃ k, c = k + 247 := ⟨c - 247, by omega⟩
      by_cases hk : t.size < k
      · go_enter Try.func9, Try.ntmps9
        go_wp2
        go_region
        go_wp2
        go_ret
        exact num_drew ((HW.out _).out)
      · have hpt : 0 < t.size := by omega
        obtain ⟨d, hd⟩ : ∃ d, (t[0]'hpt).toNat = d := ⟨_, rfl⟩
        by_cases hd0 : d = 0
        · subst hd0
          go_enter Try.func9, Try.ntmps9
          go_wp2
          go_region
          go_wp2
          go_ret
          exact num_drew ((HW.out _).out)
        · go_enter Try.func9, Try.ntmps9
          go_wp2
          go_region
          go_wp2
          go_loop [2, 51] (fun nv iv => ∃ m : Nat, m ≤ k ∧ iv = .int .i64 m ∧ nv = .int .u64 ((Wire.val (t.data.toList.take m) : Nat) : Int)) (fun _ iv => k - (intOf iv).toNat)
          case atStart => exact ⟨0, Nat.zero_le _, rfl, rfl⟩
          case round =>
            obtain ⟨m, hm, rfl, rfl⟩ := hrel
            by_cases hmk : m < k
            · have hmt : m < t.size := by omega
              obtain ⟨x, hx⟩ : ∃ x, Wire.val (t.data.toList.take m) = x := ⟨_, rfl⟩
              obtain ⟨y, hy⟩ : ∃ y, (t[m]'hmt).toNat = y := ⟨_, rfl⟩
              have hxb : x < 72057594037927936 := by
                have h3 := (Wire.be_snoc_val (t.data.toList.take m) m (by rw [List.length_take]; have : t.data.toList.length = t.size := by simp
                                                                          omega)).2
                have h4 := Wire.pow_mono (show m ≤ 7 by omega)
                rw [← hx]
                exact Nat.lt_of_lt_of_le h3 (by simpa using h4)
              have hyb : y < 256 := by rw [← hy]; exact UInt8.toNat_lt _
              have hor := or_byte x y hxb hyb
              have HX := Lib.hid hx
              have HY := Lib.hid hy
              rw [hx]
              clear hx
              go_wp2
              refine ⟨⟨m + 1, by omega, by go_num, ?_⟩, by simp [intOf]; omega⟩
              rw [val_take t m hmt, HX.out, HY.out]
              rfl
            · obtain rfl : m = k := by omega
              have hV : Wire.val (t.data.toList.take m) < 18446744073709551616 := by
                have h3 := (Wire.be_snoc_val (t.data.toList.take m) m (by rw [List.length_take]; have : t.data.toList.length = t.size := by simp
                                                                          omega)).2
                have h4 := Wire.pow_mono (show m ≤ 8 by omega)
                exact Nat.lt_of_lt_of_le h3 (by simpa using h4)
              have hrd := Lib.hid (read_text t m hpt (by omega) (by omega) (by rw [hd]; exact hd0))
              obtain ⟨V, hVe⟩ : ∃ V, Wire.val (t.data.toList.take m) = V := ⟨_, rfl⟩
              rw [hVe] at hrd hV ⊢
              clear hVe
              by_cases hV8 : V < 248
              · go_wp2
                go_ret
                exact num_drew ((HW.out _).out)
              · have he : s.data.toList = Wire.enc V ++ (t.extract m t.size).data.toList := by rw [HST.out]; exact hrd.out (by omega)
                have HE := Lib.hid he
                clear he
                obtain ⟨t2, ht2⟩ : ∃ t2, t.extract m t.size = t2 := ⟨_, rfl⟩
                rw [ht2] at HE
                go_wp2
                go_region
                go_wp2
                go_ret
                first
                  | exact num_drew (num_drew ((HG.out _ V t2 hV HE.out).out))
                  | (trace_state; sorry)
  · have hne : s.toList.isEmpty = true := by
      rw [ByteArray.toList_eq, List.isEmpty_iff, ← List.length_eq_zero_iff]
      have h3 : s.data.toList.length = s.size := by simp
      omega
    go_enter Try.func9, Try.ntmps9
    go_wp2
    go_ret
    exact (HW.out _).out
end Go.Proofs.Ytnialnigkbkicab
