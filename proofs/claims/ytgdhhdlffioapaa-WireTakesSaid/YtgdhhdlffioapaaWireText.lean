/-
  Both readers of texts, walked. Conditions: texts that fit the model's memory; a reader that is not well has nothing left.
-/
import Derived.Test.YtgdhhdlffioapaaWireTake
namespace Go.Wire
/-- the text that bytes begin with; is the reader not well; what is left -/
def txtP (l : List UInt8) : List UInt8 × Bool × List UInt8 :=
  if (numP l).2.2.length < (numP l).1 then ([], true, []) else ((numP l).2.2.take (numP l).1, (numP l).2.1, (numP l).2.2.drop (numP l).1)
theorem txtP_left (l : List UInt8) : (txtP l).2.2.length ≤ l.length := by
  have := numP_left l
  unfold txtP
  split
  · exact Nat.zero_le _
  · dsimp only; rw [List.length_drop]; omega
theorem numP_bad_left (l : List UInt8) (h : (numP l).2.1 = true) : (numP l).2.2 = [] := by rw [numP_bad l h]
theorem txtP_bad_left (l : List UInt8) (h : (txtP l).2.1 = true) : (txtP l).2.2 = [] := by
  unfold txtP at *
  split at h
  · rename_i h'; rw [if_pos h']
  · rename_i h'; rw [if_neg h']; dsimp only; rw [numP_bad_left l h]; exact List.drop_nil
end Go.Wire
namespace Go.Proofs.Ytgdhhdlffioapaa
open Go.RowKit Go.ChangeShapes Go.WideShapes

def TxtGet (b : Nat) (s : ByteArray) (w : World) (e : Ending) (w' : World) : Prop :=
  ∃ (t : ByteArray) (bad : Bool) (rest : ByteArray), Wire.txtP s.data.toList = (t.data.toList, bad, rest.data.toList) ∧ e = .returned (.string t) ∧ But (· = b) w w' ∧
      w'.cell? ⟨b, 0, none⟩ = some (.string rest) ∧ w'.cell? ⟨b, 1, none⟩ = some (.bool bad) ∧ w'.frozen? ⟨b, 0, none⟩ = false ∧ w'.frozen? ⟨b, 1, none⟩ = false
theorem txt_drew {b : Nat} {s : ByteArray} {w w' : World} {e : Ending} (h : TxtGet b s w e w') : TxtGet b s w e w'.drew := by
  obtain ⟨n, bad, rest, h1, h2, h3, h4⟩ := h
  exact ⟨n, bad, rest, h1, h2, h3.drew, h4⟩
theorem txt_wrong (b : Nat) (s : ByteArray) (w w1 : World) {x y : Value} (hB : But (fun i => i = b) w w1) (h0 : w1.cell? ⟨b, 0, none⟩ = some x) (h1 : w1.cell? ⟨b, 1, none⟩ = some y)
    (hf0 : w1.frozen? ⟨b, 0, none⟩ = false) (hf1 : w1.frozen? ⟨b, 1, none⟩ = false) (hp : Wire.txtP s.data.toList = ([], true, [])) :
    TxtGet b s w (.returned (.string ⟨#[]⟩)) ((w1.setCell ⟨b, 0, none⟩ (.string ⟨#[]⟩)).setCell ⟨b, 1, none⟩ (.bool true)) := by
  refine ⟨⟨#[]⟩, true, ⟨#[]⟩, hp, rfl, ?_, ?_, ?_, ?_, ?_⟩
  · exact (hB.setCell (p := ⟨b, 0, none⟩) (.inl rfl) _).setCell (p := ⟨b, 1, none⟩) (.inl rfl) _
  · rw [World.cell?_setCell_other (h := ne01 b), World.cell?_setCell_same (h := h0)]
  · rw [World.cell?_setCell_same (h := (World.cell?_setCell_other _ _ _ _ (ne10 b)).trans h1)]
  · rw [frozen_set, frozen_set, hf0]
  · rw [frozen_set, frozen_set, hf1]
theorem txt_good (b : Nat) (bad : Bool) (s t t2 : ByteArray) (w w1 : World) {x : Value} (hB : But (fun i => i = b) w w1) (h0 : w1.cell? ⟨b, 0, none⟩ = some x) (h1 : w1.cell? ⟨b, 1, none⟩ = some (.bool bad))
    (hf0 : w1.frozen? ⟨b, 0, none⟩ = false) (hf1 : w1.frozen? ⟨b, 1, none⟩ = false) (he : Wire.txtP s.data.toList = (t.data.toList, bad, t2.data.toList)) :
    TxtGet b s w (.returned (.string t)) (w1.setCell ⟨b, 0, none⟩ (.string t2)) := by
  refine ⟨t, bad, t2, he, rfl, ?_, ?_, ?_, ?_, ?_⟩
  · exact hB.setCell (p := ⟨b, 0, none⟩) (.inl rfl) _
  · rw [World.cell?_setCell_same (h := h0)]
  · rw [World.cell?_setCell_other (h := ne10 b)]
    exact h1
  · rw [frozen_set, hf0]
  · rw [frozen_set, hf1]
theorem txt_facts (s rest : ByteArray) (n : Nat) (bad : Bool) (h : Wire.numP s.data.toList = (n, bad, rest.data.toList)) :
    (rest.size < n → Wire.txtP s.data.toList = ([], true, [])) ∧ (¬ rest.size < n → Wire.txtP s.data.toList = ((rest.extract 0 n).data.toList, bad, (rest.extract n rest.size).data.toList)) := by
  have hl : rest.data.toList.length = rest.size := by simp
  constructor
  · intro h'
    rw [Wire.txtP, h]
    dsimp only
    rw [hl, if_pos h']
  · intro h'
    rw [Wire.txtP, h]
    dsimp only
    rw [hl, if_neg h', ext_list, extract_drop]

set_option maxRecDepth 100000 in
set_option maxHeartbeats 4000000 in
theorem text_get (b : Nat) (bad : Bool) (s : ByteArray) (w : World) (hb : b < w.heap.size) (h0 : w.cell? ⟨b, 0, none⟩ = some (.string s)) (h1 : w.cell? ⟨b, 1, none⟩ = some (.bool bad)) (hbad : bad = true → s.size = 0)
    (hf0 : w.frozen? ⟨b, 0, none⟩ = false) (hf1 : w.frozen? ⟨b, 1, none⟩ = false) (hs : s.size ≤ 9223372036854775807) :
    Calls Try.prog 13 #[.pointer (some ⟨b, 0, none⟩)] w fun e w' => TxtGet b s w e w' := by
  have hnum := num_get b bad s w hb h0 h1 hbad hf0 hf1 hs
  clear h0 h1 hbad hf0 hf1
  go_enter Try.func13, Try.ntmps13
  go_wp2_with fail
  go_at_call 15
  refine hnum.mono ?_
  rintro e w1 ⟨n, bad1, rest, hp, rfl, hBut, h0, h1, hf0, hf1⟩
  have hlt := Wire.numP_lt s.data.toList
  have hle := Wire.numP_left s.data.toList
  obtain ⟨ht1, ht2⟩ := txt_facts s rest n bad1 hp
  rw [hp] at hlt hle
  have hle : rest.size ≤ s.size := by simpa using hle
  dsimp only at hlt
  by_cases hn : rest.size < n
  · have HE := Lib.hid (ht1 hn)
    have hn' : (rest.size : Int) < (n : Int) := by omega
    clear hp ht1 ht2
    go_wp2
    try (go_region; go_wp2)
    go_ret
    exact txt_wrong b s w w1 hBut h0 h1 hf0 hf1 HE.out
  · have HE := Lib.hid (ht2 hn)
    have hn' : (n : Int) ≤ (rest.size : Int) := by omega
    obtain ⟨t, ht⟩ : ∃ t, rest.extract 0 n = t := ⟨_, rfl⟩
    obtain ⟨t2, ht2'⟩ : ∃ t, rest.extract n rest.size = t := ⟨_, rfl⟩
    rw [ht, ht2'] at HE
    clear hp ht1 ht2
    go_wp2
    try (go_region; go_wp2)
    go_ret
    exact txt_good b bad1 s t t2 w w1 hBut h0 h1 hf0 hf1 HE.out

set_option maxRecDepth 100000 in
set_option maxHeartbeats 4000000 in
theorem reftext_get (b : Nat) (bad : Bool) (s : ByteArray) (w : World) (hb : b < w.heap.size) (h0 : w.cell? ⟨b, 0, none⟩ = some (.string s)) (h1 : w.cell? ⟨b, 1, none⟩ = some (.bool bad)) (hbad : bad = true → s.size = 0)
    (hf0 : w.frozen? ⟨b, 0, none⟩ = false) (hf1 : w.frozen? ⟨b, 1, none⟩ = false) (hs : s.size ≤ 9223372036854775807) :
    Calls Try.prog 14 #[.pointer (some ⟨b, 0, none⟩)] w fun e w' => TxtGet b s w e w' := by
  have hnum := refnum_get b bad s w hb h0 h1 hbad hf0 hf1 hs
  clear h0 h1 hbad hf0 hf1
  go_enter Try.func14, Try.ntmps14
  go_wp2_with fail
  go_at_call 16
  refine hnum.mono ?_
  rintro e w1 ⟨n, bad1, rest, hp, rfl, hBut, h0, h1, hf0, hf1⟩
  have hlt := Wire.numP_lt s.data.toList
  have hle := Wire.numP_left s.data.toList
  obtain ⟨ht1, ht2⟩ := txt_facts s rest n bad1 hp
  rw [hp] at hlt hle
  have hle : rest.size ≤ s.size := by simpa using hle
  dsimp only at hlt
  by_cases hn : rest.size < n
  · have HE := Lib.hid (ht1 hn)
    have hn' : (rest.size : Int) < (n : Int) := by omega
    clear hp ht1 ht2
    go_wp2_with (go_at_call 22; refine (fail_walk b _ _ _ h0 h1 hf0 hf1).mono ?_; rintro e w9 ⟨⟨v, rfl⟩, rfl⟩)
    go_ret
    exact txt_wrong b s w w1 hBut h0 h1 hf0 hf1 HE.out
  · have HE := Lib.hid (ht2 hn)
    have hn' : (n : Int) ≤ (rest.size : Int) := by omega
    obtain ⟨t, ht⟩ : ∃ t, rest.extract 0 n = t := ⟨_, rfl⟩
    obtain ⟨t2, ht2'⟩ : ∃ t, rest.extract n rest.size = t := ⟨_, rfl⟩
    rw [ht, ht2'] at HE
    clear hp ht1 ht2
    go_wp2
    try (go_region; go_wp2)
    go_ret
    exact txt_good b bad1 s t t2 w w1 hBut h0 h1 hf0 hf1 HE.out

set_option maxRecDepth 100000 in
theorem refok_walk (b : Nat) (bad : Bool) (w : World) (h : w.cell? ⟨b, 1, none⟩ = some (.bool bad)) :
    Calls Try.prog 18 #[.pointer (some ⟨b, 0, none⟩)] w fun e w' => e = .returned (.bool (!bad)) ∧ w' = w := by
  go_enter Try.func18, Try.ntmps18
  go_wp2
  go_ret
  exact ⟨rfl, rfl⟩

set_option maxRecDepth 100000 in
theorem refend_walk (b : Nat) (bad : Bool) (s : ByteArray) (w : World) (h : w.cell? ⟨b, 1, none⟩ = some (.bool bad)) (h0 : w.cell? ⟨b, 0, none⟩ = some (.string s)) :
    Calls Try.prog 20 #[.pointer (some ⟨b, 0, none⟩)] w fun e w' => e = .returned (.bool (!bad && s.toList.isEmpty)) ∧ Below w.heap.size w w' := by
  cases bad
  all_goals
    go_enter Try.func20, Try.ntmps20
    go_wp2
    try (go_region; go_wp2)
    go_ret
    refine ⟨rfl, ?_⟩
    repeat' (refine Below.drew ?_)
    exact Below.refl _ _
end Go.Proofs.Ytgdhhdlffioapaa
