/-
  NetOrder, of any arguments that a machine has. Conditions: those of the statement.
-/
import Derived.Test.YtlkbmjdgfbciaaaNetOrdB
import Derived.Test.YtlkbmjdgfbciaaaSymU
namespace Go.Proofs.Ytlkbmjdgfbciaaa
open Go.Sym Go.WideShapes
open Go.RowKit (Below)
set_option maxRecDepth 100000
theorem netOrder_fin {H : Type} {enc : TypeId × Value → H} {base : Nat} (W : World) (v0 : Value) (v1 : Value) {d0 : DataW H} {d1 : DataW H} {p0 : List MemPlace} {p1 : List MemPlace} (k0 : Value.okWide Try.prog W .any base 5 v0) (k1 : Value.okWide Try.prog W .any base 46 v1) (h0 : DataW.Trod enc Try.prog W 0 (fun _ => true) true 5 v0 d0 p0) (h1 : DataW.Trod enc Try.prog W 0 (fun _ => true) true 46 v1 d1 p1) (lt0 : ∀ x ∈ p0, x.block < W.heap.size) (lt1 : ∀ x ∈ p1, x.block < W.heap.size) :
    Calls Try.prog 5 #[v0, v1] W fun e w' => e = .returned (.bool true) ∧ Below W.heap.size W w' := by
  obtain ⟨q, w0, g0⟩ := arg_int (n := 6) Try.underlying5 (by kernel_rfl) k0 h0
  obtain ⟨L, w1, g1⟩ := arg_slice (n := 6) (e := [.int .u8]) Try.underlying46 (by kernel_rfl) k1 h1
  rw [wfT] at w1
  refine pure_true (netOrder_at q L w0 w1.1 (fun i hi => ?_)) W _ ⟨_, _, rfl, g0, _, _, rfl, g1, rfl⟩
  have := w1.2 i hi
  simp only [wfR, wfT] at this
  exact this
end Go.Proofs.Ytlkbmjdgfbciaaa
