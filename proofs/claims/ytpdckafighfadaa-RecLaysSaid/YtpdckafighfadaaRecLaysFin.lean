/-
  RecLays, of any arguments that a machine has. Conditions: those of the statement.
-/
import Derived.Test.YtpdckafighfadaaRecLays
import Derived.Test.YtpdckafighfadaaRecWorks
import Derived.Test.YtpdckafighfadaaSymU
namespace Go.Proofs.Ytpdckafighfadaa
open Go.Sym Go.WideShapes
open Go.RowKit (Below)
set_option maxRecDepth 100000

theorem recLays_at2 (m n : Int) (k v : ByteArray) (c d w : Int) (t : Bool) (h1 : 0 ≤ m ∧ m < 18446744073709551616) (h3 : 0 ≤ n ∧ n < 18446744073709551616) (h5 : 0 ≤ c ∧ c < 18446744073709551616) (h7 : 0 ≤ d ∧ d < 18446744073709551616) (h9 : 0 ≤ w ∧ w < 18446744073709551616)
    (hk : k.size ≤ 9223372036854775807) (hv : v.size ≤ 9223372036854775807) :
    PureAt Try.prog 3 [.agg [.int .u64 m, .int .u64 n, .str k, .str v, .int .u64 c, .int .u64 d, .int .u64 w, .bool t]] (.bool true) :=
  recLays_at works_at11 m n k v c d w t (decide_eq_true h1.1) (decide_eq_true h1.2) (decide_eq_true h3.1) (decide_eq_true h3.2) (decide_eq_true h5.1) (decide_eq_true h5.2) (decide_eq_true h7.1) (decide_eq_true h7.2) (decide_eq_true h9.1) (decide_eq_true h9.2) hk hv

theorem recLays_fin {H : Type} {enc : TypeId × Value → H} {base : Nat} (W : World) (v0 : Value) {d0 : DataW H} {p0 : List MemPlace} (k0 : Value.okWide Try.prog W .any base 28 v0) (h0 : DataW.Trod enc Try.prog W 0 (fun _ => true) true 28 v0 d0 p0) (lt0 : ∀ x ∈ p0, x.block < W.heap.size) :
    Calls Try.prog 3 #[v0] W fun e w' => e = .returned (.bool true) ∧ Below W.heap.size W w' := by
  obtain ⟨⟨m, n, k, v, c, d, w, t⟩, w0, g0⟩ := arg_struct (n := 6) (e := [.int .u64, .int .u64, .str, .str, .int .u64, .int .u64, .int .u64, .bool]) Try.underlying28 (by kernel_rfl) k0 h0
  simp only [wfR, wfT] at w0
  obtain ⟨a1, a2, a3, a4, a5, a6, a7, _⟩ := w0
  exact pure_true (recLays_at2 m n k v c d w t a1 a2 a5 a6 a7 a3 a4) W _ ⟨_, _, rfl, g0, rfl⟩
end Go.Proofs.Ytpdckafighfadaa
