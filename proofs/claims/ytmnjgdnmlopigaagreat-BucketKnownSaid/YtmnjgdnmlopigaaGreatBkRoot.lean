/-
  Where a bucket's root stands: the program's function "root", walked, in whatever order its map is laid. No condition.
-/
import Derived.Test.YtmnjgdnmlopigaaGreatEngO
import Derived.Test.YtmnjgdnmlopigaaGreatProg
import Derived.Test.YtmnjgdnmlopigaaGreatRows
import Derived.WalkKit
import Derived.Below
import Derived.RegionTactic
import Derived.ChangeAlike
import Derived.BigRegion
namespace Go.Proofs.YtmnjgdnmlopigaaGreat
open Go.RowKit Go.ChangeShapes Go.WideShapes

theorem none_walk (B O : Nat) (pb : Addr) (w : World) (hP : w.cell? ⟨B, O, none⟩ = some (.pointer (some pb))) :
    Calls Tryz.prog 27 #[.pointer (some ⟨B, O, none⟩)] w fun e w' => e = .returned (.bool false) ∧ w' = w := by
  go_enter Tryz.func27, Tryz.ntmps27
  go_wp2
  go_ret
  exact ⟨rfl, rfl⟩

theorem undS : Tryz.prog.underlying 9 = some .string := by kernel_rfl
theorem undM : Tryz.prog.underlying 152 = some (.map 9 100) := by kernel_rfl
theorem chk_run (e : Bool) (n : Nat) (k : ByteArray) (W : World) : (Instr.checkKey e (n + 1) 9 (.string k)).run Tryz.prog W = .ok () W := by simp [Instr.checkKey, Eng.run_und undS]
theorem ins_run (W : World) (r c : Nat) (es : Array MapEntry) (k : ByteArray) (v : Value) (h : W.heap[r]? = some (.map es c)) (hf : Instr.findNow .string (.string k) es.toList 0 = some none) :
    (Instr.mapUpdate 152 (.map (some r)) (.string k) v).run Tryz.prog W = .ok () { W with heap := W.heap.setIfInBounds r (.map (es.push ⟨.string k, v, c⟩) (c + 1)) } := by
  simp [Instr.mapUpdate, Eng.run_und undM, Eng.getObj_map h, chk_run, Eng.run_und undS, Instr.findKey, hf, Eng.setObj_map h]
def lookV : Option (Nat × Value) → Value
  | some (_, v) => .tuple #[v, .bool true]
  | none => .tuple #[.pointer none, .bool false]
theorem zeroP (W : World) : (zeroValue 100).run Tryz.prog W = .ok (.pointer none) W := by
  have h : (Tryz.prog.info? 100).bind (·.zero) = some (.pointer none) := by kernel_rfl
  obtain ⟨i, hi, hz⟩ := Option.bind_eq_some_iff.1 h
  simp [zeroValue, typeInfo, hi, hz]
theorem look_run (W : World) (r c : Nat) (es : Array MapEntry) (k : ByteArray) (x : Option (Nat × Value)) (h : W.heap[r]? = some (.map es c)) (hf : Instr.findNow .string (.string k) es.toList 0 = some x) :
    (Instr.lookup 152 (.map (some r)) (.string k) true).run Tryz.prog W = .ok (lookV x) W := by
  cases x with
  | none => simp [Instr.lookup, Eng.run_und undM, Eng.getObj_map h, chk_run, Eng.run_und undS, Instr.findKey, hf, zeroP, lookV]
  | some x => simp [Instr.lookup, Eng.run_und undM, Eng.getObj_map h, chk_run, Eng.run_und undS, Instr.findKey, hf, lookV]

def keyT : ByteArray := ⟨#[107, 101, 121]⟩
def metaT : ByteArray := ⟨#[109, 101, 116, 97]⟩
def km (B O : Nat) : List MapEntry := [⟨.string keyT, .pointer (some ⟨B, O + 2, none⟩), 0⟩, ⟨.string metaT, .pointer (some ⟨B, O + 3, none⟩), 1⟩]
def mk (B O : Nat) : List MapEntry := [⟨.string metaT, .pointer (some ⟨B, O + 3, none⟩), 0⟩, ⟨.string keyT, .pointer (some ⟨B, O + 2, none⟩), 1⟩]

theorem heap_new (w : World) (o : Obj) : (w.alloc o).heap[w.heap.size]? = some o := by
  show (w.heap.push _)[w.heap.size]? = _
  simp
theorem size_new (w : World) (o : Obj) : (w.alloc o).heap.size = w.heap.size + 1 := by
  show (w.heap.push _).size = _
  simp
/-- the worlds of the map, in both orders -/
theorem orders (B O : Nat) (w : World) : ∃ W0 Wk Wm Wkm Wmk : World,
    (Instr.makeMap 152 none).run Tryz.prog w.drew = .ok (.map (some w.heap.size)) W0 ∧
    (Instr.mapUpdate 152 (.map (some w.heap.size)) (.string { data := #[107, 101, 121] }) (.pointer (some ⟨B, O + 2, none⟩))).run Tryz.prog W0 = .ok () Wk ∧
    (Instr.mapUpdate 152 (.map (some w.heap.size)) (.string { data := #[109, 101, 116, 97] }) (.pointer (some ⟨B, O + 3, none⟩))).run Tryz.prog W0 = .ok () Wm ∧
    (Instr.mapUpdate 152 (.map (some w.heap.size)) (.string { data := #[109, 101, 116, 97] }) (.pointer (some ⟨B, O + 3, none⟩))).run Tryz.prog Wk = .ok () Wkm ∧
    (Instr.mapUpdate 152 (.map (some w.heap.size)) (.string { data := #[107, 101, 121] }) (.pointer (some ⟨B, O + 2, none⟩))).run Tryz.prog Wm = .ok () Wmk ∧
    (∃ c, Wkm.heap[w.heap.size]? = some (.map (km B O).toArray c)) ∧ (∃ c, Wmk.heap[w.heap.size]? = some (.map (mk B O).toArray c)) ∧
    Below w.heap.size w Wkm ∧ Below w.heap.size w Wmk := by
  have e0 : w.drew.heap.size = w.heap.size := rfl
  have h0 := heap_new w.drew (.map #[] 0)
  have b0 : Below w.heap.size w (w.drew.alloc (.map #[] 0)) := ((Below.refl _ w).drew).alloc (Nat.le_refl _) _
  have s0 := size_new w.drew (.map #[] 0)
  rw [e0] at h0 s0
  have upd : ∀ (W : World) (es : Array MapEntry) (c : Nat), W.heap[w.heap.size]? = some (.map es c) → ∀ o, ({ W with heap := W.heap.setIfInBounds w.heap.size o } : World).heap[w.heap.size]? = some o := fun W es c h o => by
    have hlt : w.heap.size < W.heap.size := by
      rcases Nat.lt_or_ge w.heap.size W.heap.size with hh | hh
      · exact hh
      · rw [Array.getElem?_eq_none hh] at h; cases h
    simp [hlt]
  have r1 := ins_run (w.drew.alloc (.map #[] 0)) w.heap.size 0 #[] keyT (.pointer (some ⟨B, O + 2, none⟩)) h0 rfl
  have r2 := ins_run (w.drew.alloc (.map #[] 0)) w.heap.size 0 #[] metaT (.pointer (some ⟨B, O + 3, none⟩)) h0 rfl
  have h1 := upd _ _ _ h0 (.map ((#[] : Array MapEntry).push ⟨.string keyT, .pointer (some ⟨B, O + 2, none⟩), 0⟩) 1)
  have h2 := upd _ _ _ h0 (.map ((#[] : Array MapEntry).push ⟨.string metaT, .pointer (some ⟨B, O + 3, none⟩), 0⟩) 1)
  have r3 := ins_run _ w.heap.size 1 _ metaT (.pointer (some ⟨B, O + 3, none⟩)) h1 (by kernel_rfl)
  have r4 := ins_run _ w.heap.size 1 _ keyT (.pointer (some ⟨B, O + 2, none⟩)) h2 (by kernel_rfl)
  refine ⟨_, _, _, _, _, rfl, r1, r2, r3, r4, ⟨_, upd _ _ _ h1 _⟩, ⟨_, upd _ _ _ h2 _⟩, ?_, ?_⟩
  · exact (b0.trans ((Eng.below_set (Nat.le_refl _) rfl).trans (Eng.below_set (Nat.le_refl _) rfl)))
  · exact (b0.trans ((Eng.below_set (Nat.le_refl _) rfl).trans (Eng.below_set (Nat.le_refl _) rfl)))

set_option maxRecDepth 100000 in
theorem root_has (B O : Nat) (pb : Addr) (s : ByteArray) (w : World) (hP : w.cell? ⟨B, O, none⟩ = some (.pointer (some pb))) (hoff : w.cell? ⟨B, O + 5, none⟩ = some (.bool false)) (i j : Nat) (p : Value)
    (h1 : Instr.findNow .string (.string s) (km B O) 0 = some (some (i, p))) (h2 : Instr.findNow .string (.string s) (mk B O) 0 = some (some (j, p))) :
    Calls Tryz.prog 65 #[.pointer (some ⟨B, O, none⟩), .string s] w fun e w' => e = .returned (.tuple #[p, .int .i64 0]) ∧ Below w.heap.size w w' := by
  obtain ⟨W0, Wk, Wm, Wkm, Wmk, q0, q1, q2, q3, q4, ⟨c1, m1⟩, ⟨c2, m2⟩, b1, b2⟩ := orders B O w
  have l1 := look_run Wkm _ _ _ s _ m1 h1
  have l2 := look_run Wmk _ _ _ s _ m2 h2
  simp only [lookV] at l1 l2
  clear h1 h2 m1 m2
  go_enter Tryz.func65, Tryz.ntmps65
  go_wp2_with (go_at_call 27; refine (none_walk B O pb _ hP).mono ?_; rintro e w1 ⟨rfl, rfl⟩)
  go_region
  all_goals go_wp2
  all_goals go_ret2
  all_goals first | exact ⟨rfl, b1⟩ | exact ⟨rfl, b2⟩

set_option maxRecDepth 100000 in
theorem root_not (B O : Nat) (pb : Addr) (s : ByteArray) (w : World) (hP : w.cell? ⟨B, O, none⟩ = some (.pointer (some pb))) (hoff : w.cell? ⟨B, O + 5, none⟩ = some (.bool false))
    (h1 : Instr.findNow .string (.string s) (km B O) 0 = some none) (h2 : Instr.findNow .string (.string s) (mk B O) 0 = some none) :
    Calls Tryz.prog 65 #[.pointer (some ⟨B, O, none⟩), .string s] w fun e w' => e = .returned (.tuple #[.pointer none, .int .i64 2]) ∧ Below w.heap.size w w' := by
  obtain ⟨W0, Wk, Wm, Wkm, Wmk, q0, q1, q2, q3, q4, ⟨c1, m1⟩, ⟨c2, m2⟩, b1, b2⟩ := orders B O w
  have l1 := look_run Wkm _ _ _ s _ m1 h1
  have l2 := look_run Wmk _ _ _ s _ m2 h2
  simp only [lookV] at l1 l2
  clear h1 h2 m1 m2
  go_enter Tryz.func65, Tryz.ntmps65
  go_wp2_with (go_at_call 27; refine (none_walk B O pb _ hP).mono ?_; rintro e w1 ⟨rfl, rfl⟩)
  go_region
  all_goals go_wp2
  all_goals go_ret2
  all_goals first | exact ⟨rfl, b1⟩ | exact ⟨rfl, b2⟩
end Go.Proofs.YtmnjgdnmlopigaaGreat
