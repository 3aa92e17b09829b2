/-
  RecReads, of any arguments that a machine has. Conditions: those of the statement.
-/
import Derived.Test.YtpdckafighfadaaRecReads
import Derived.Test.YtpdckafighfadaaSymU
namespace Go.Proofs.Ytpdckafighfadaa
open Go.Sym Go.WideShapes
open Go.RowKit (Below)
set_option maxRecDepth 100000
theorem recReads_fin {H : Type} {enc : TypeId × Value → H} {base : Nat} (W : World) (v0 : Value) (v1 : Value) {d0 : DataW H} {d1 : DataW H} {p0 : List MemPlace} {p1 : List MemPlace} (k0 : Value.okWide Try.prog W .any base 9 v0) (k1 : Value.okWide Try.prog W .any base 9 v1) (h0 : DataW.Trod enc Try.prog W 0 (fun _ => true) true 9 v0 d0 p0) (h1 : DataW.Trod enc Try.prog W 0 (fun _ => true) true 9 v1 d1 p1) (lt0 : ∀ x ∈ p0, x.block < W.heap.size) (lt1 : ∀ x ∈ p1, x.block < W.heap.size) :
    Calls Try.prog 4 #[v0, v1] W fun e w' => e = .returned (.bool true) ∧ Below W.heap.size W w' := by
  obtain ⟨key, w0, g0⟩ := arg_str (n := 6) Try.underlying9 (by kernel_rfl) k0 h0
  obtain ⟨s, w1, g1⟩ := arg_str (n := 6) Try.underlying9 (by kernel_rfl) k1 h1
  exact pure_true (recReads_at key s w0 w1) W _ ⟨_, _, rfl, g0, _, _, rfl, g1, rfl⟩
end Go.Proofs.Ytpdckafighfadaa
