/-
  RecRise, of any arguments that a machine has. Conditions: those of the statement.
-/
import Derived.Test.YtpdckafighfadaaRecRise
import Derived.Test.YtpdckafighfadaaRecWorks
import Derived.Test.YtpdckafighfadaaSymU
namespace Go.Proofs.Ytpdckafighfadaa
open Go.Sym Go.WideShapes
open Go.RowKit (Below)
set_option maxRecDepth 100000

theorem recRise_fin {H : Type} {enc : TypeId × Value → H} {base : Nat} (W : World) (v0 : Value) (v1 : Value) {d0 : DataW H} {d1 : DataW H} {p0 : List MemPlace} {p1 : List MemPlace} (k0 : Value.okWide Try.prog W .any base 24 v0) (k1 : Value.okWide Try.prog W .any base 24 v1) (h0 : DataW.Trod enc Try.prog W 0 (fun _ => true) true 24 v0 d0 p0) (h1 : DataW.Trod enc Try.prog W 0 (fun _ => true) true 24 v1 d1 p1) (lt0 : ∀ x ∈ p0, x.block < W.heap.size) (lt1 : ∀ x ∈ p1, x.block < W.heap.size) :
    Calls Try.prog 6 #[v0, v1] W fun e w' => e = .returned (.bool true) ∧ Below W.heap.size W w' := by
  obtain ⟨x, w0, g0⟩ := arg_struct (n := 6) (e := [.int .u64, .int .u64]) Try.underlying24 (by kernel_rfl) k0 h0
  obtain ⟨y, w1, g1⟩ := arg_struct (n := 6) (e := [.int .u64, .int .u64]) Try.underlying24 (by kernel_rfl) k1 h1
  simp only [wfR, wfT] at w0 w1
  exact pure_true (recRise_at works_at11 x.1 x.2 y.1 y.2 w0.1 w0.2 w1.1 w1.2) W _ ⟨_, _, rfl, g0, _, _, rfl, g1, rfl⟩
end Go.Proofs.Ytpdckafighfadaa
