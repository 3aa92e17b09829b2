/-
  Every block that was there, but some, is as it was: for contracts of functions that write through a pointer. No condition; nothing here speaks of one program.
-/
import Derived.Below
import Derived.Test.YtpdckafighfadaaEngE
namespace Go.RowKit

/-- every block that was there, but those of S, is as it was; no block has gone -/
structure But (S : Nat → Prop) (w w' : World) : Prop where
  os : w'.os = w.os
  tape : w'.tape = w.tape
  output : w'.output = w.output
  size : w.heap.size ≤ w'.heap.size
  block : ∀ k, k < w.heap.size → ¬ S k → w'.heap[k]? = w.heap[k]?

theorem But.refl (S : Nat → Prop) (w : World) : But S w w := ⟨rfl, rfl, rfl, Nat.le_refl _, fun _ _ _ => rfl⟩
theorem But.trans {S S' : Nat → Prop} {a b c : World} (h : But S a b) (k : But S' b c) (hs : ∀ i, S' i → S i ∨ a.heap.size ≤ i) : But S a c :=
  ⟨k.os.trans h.os, k.tape.trans h.tape, k.output.trans h.output, Nat.le_trans h.size k.size, fun i hi hn =>
    (k.block i (Nat.lt_of_lt_of_le hi h.size) (fun h' => (hs i h').elim hn (fun h'' => by omega))).trans (h.block i hi hn)⟩
theorem But.same {S : Nat → Prop} {a b c : World} (h : But S a b) (k : But S b c) : But S a c := h.trans k fun _ h => .inl h
theorem But.mono {S S' : Nat → Prop} {a b : World} (h : But S a b) (hs : ∀ i, S i → S' i) : But S' a b := ⟨h.os, h.tape, h.output, h.size, fun i hi hn => h.block i hi fun h' => hn (hs i h')⟩
theorem But.of_below {S : Nat → Prop} {a b : World} (h : Below a.heap.size a b) : But S a b := ⟨h.os, h.tape, h.output, h.size, fun i hi _ => h.block i hi⟩
theorem But.call {S : Nat → Prop} {a b c : World} (h : But S a b) (k : Below b.heap.size b c) : But S a c := h.trans (S' := fun _ => False) (But.of_below k) fun _ h => h.elim
theorem But.drew {S : Nat → Prop} {a w : World} (h : But S a w) : But S a w.drew := ⟨h.os, h.tape, h.output, h.size, h.block⟩
theorem But.alloc {S : Nat → Prop} {a w : World} (h : But S a w) (o : Obj) : But S a (w.alloc o) := h.call ((Below.refl _ w).alloc (Nat.le_refl _) o)
theorem But.setCell {S : Nat → Prop} {a w : World} (h : But S a w) {p : Addr} (hp : S p.block ∨ a.heap.size ≤ p.block) (u : Value) : But S a (w.setCell p u) :=
  h.trans (S' := fun i => i = p.block) ⟨rfl, rfl, rfl, by simp [World.setCell], fun k _ hk => Below.heap_setCell _ _ _ _ hk⟩ fun i hi => by subst hi; exact hp
theorem But.below {S : Nat → Prop} {a b : World} (h : But S a b) (n : Nat) (hs : ∀ i, S i → n ≤ i) (hn : n ≤ a.heap.size) : Below n a b :=
  ⟨h.os, h.tape, h.output, h.size, fun k hk => h.block k (by omega) fun h' => by have := hs k h'; omega⟩
theorem But.whole {S : Nat → Prop} {a b : World} (h : But S a b) (hs : ∀ i, S i → a.heap.size ≤ i) : Below a.heap.size a b := h.below _ hs (Nat.le_refl _)
theorem But.cell {S : Nat → Prop} {w w' : World} (h : But S w w') {p : Addr} (hp : p.block < w.heap.size) (hn : ¬ S p.block) : w'.cell? p = w.cell? p := World.cell?_of_block (w := w) (h.block p.block hp hn)
theorem But.frozen {S : Nat → Prop} {w w' : World} (h : But S w w') {p : Addr} (hp : p.block < w.heap.size) (hn : ¬ S p.block) : w'.frozen? p = w.frozen? p := World.frozen?_of_block (w := w) (h.block p.block hp hn)
theorem But.kept {S : Nat → Prop} {w w' : World} (h : But S w w') {p : Addr} {v : Value} (hc : w.cell? p = some v) (hn : ¬ S p.block) : w'.cell? p = some v := by
  rw [h.cell _ hn, hc]
  rcases Nat.lt_or_ge p.block w.heap.size with h' | h'
  · exact h'
  · simp [World.cell?, Array.getElem?_eq_none h'] at hc
end Go.RowKit
namespace Go.Eng
open Go.RowKit
/-- a place of an array's value, one cell wide -/
theorem index_cell {P : Program} {w : World} {t e : TypeId} {len : Nat} (hd : P.underlying t = some (.array len e)) (hs : szE P e = some 1) (ht : isAggE P e = some false) {A : Array Value} {X : Value} (k : Nat) (hk : k < len) (h : A[k]? = some X) (kd : IntKind) :
    (Instr.index t (.agg A) (.int kd (k : Int))).run P w = .ok X w := by
  simp [Instr.index, run_asIntOf, run_und hd, run_size hs, hk, part_cell ht h]
end Go.Eng
