/-
  NetPlays, of any arguments that a machine has. Conditions: those of the statement.
-/
import Derived.Test.YtlkbmjdgfbciaaaNetPlaysB
import Derived.Test.YtlkbmjdgfbciaaaSymU
namespace Go.Proofs.Ytlkbmjdgfbciaaa
open Go.Sym Go.WideShapes
open Go.RowKit (Below)
set_option maxRecDepth 100000
theorem netPlays_fin {H : Type} {enc : TypeId × Value → H} {base : Nat} (W : World) (v0 : Value) (v1 : Value) {d0 : DataW H} {d1 : DataW H} {p0 : List MemPlace} {p1 : List MemPlace} (k0 : Value.okWide Try.prog W .any base 22 v0) (k1 : Value.okWide Try.prog W .any base 3 v1) (h0 : DataW.Trod enc Try.prog W 0 (fun _ => true) true 22 v0 d0 p0) (h1 : DataW.Trod enc Try.prog W 0 (fun _ => true) true 3 v1 d1 p1) (lt0 : ∀ x ∈ p0, x.block < W.heap.size) (lt1 : ∀ x ∈ p1, x.block < W.heap.size) :
    Calls Try.prog 3 #[v0, v1] W fun e w' => e = .returned (.bool true) ∧ Below W.heap.size W w' := by
  obtain ⟨L, w0, g0⟩ := arg_slice (n := 6) (e := actE) Try.underlying22 (by kernel_rfl) k0 h0
  obtain ⟨q, w1, g1⟩ := arg_int (n := 6) Try.underlying3 (by kernel_rfl) k1 h1
  rw [wfT] at w0
  refine pure_true (netPlays_at L q w0.1 (fun i hi => ?_)) W _ ⟨_, _, rfl, g0, _, _, rfl, g1, rfl⟩
  have := w0.2 i hi
  simp only [wfR, wfT] at this
  exact this.1.1
end Go.Proofs.Ytlkbmjdgfbciaaa
