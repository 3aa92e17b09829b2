/-
  RecBack, of any arguments that a machine has. Conditions: those of the statement.
-/
import Derived.Test.YtpdckafighfadaaRecBack
import Derived.Test.YtpdckafighfadaaSymU
namespace Go.Proofs.Ytpdckafighfadaa
open Go.Sym Go.WideShapes
open Go.RowKit (Below)
set_option maxRecDepth 100000

theorem recBack_at (m n : Int) (k v : ByteArray) (c d w : Int) (t : Bool) (s : ByteArray) (h1 : 0 ≤ m ∧ m < 18446744073709551616) (h3 : 0 ≤ n ∧ n < 18446744073709551616) (h5 : 0 ≤ c ∧ c < 18446744073709551616) (h7 : 0 ≤ d ∧ d < 18446744073709551616) (h9 : 0 ≤ w ∧ w < 18446744073709551616) :
    PureAt Try.prog 5 [.agg [.int .u64 m, .int .u64 n, .str k, .str v, .int .u64 c, .int .u64 d, .int .u64 w, .bool t], .str s] (.bool true) := by
  cases hm : mayR m n (cut60 k) (cut60 v) c d w t
  · exact back_no m n k v c d w t s (decide_eq_true h1.1) (decide_eq_true h1.2) (decide_eq_true h3.1) (decide_eq_true h3.2) (decide_eq_true h5.1) (decide_eq_true h5.2) (decide_eq_true h7.1) (decide_eq_true h7.2) (decide_eq_true h9.1) (decide_eq_true h9.2) hm
  · exact back_is m n k v c d w t s (decide_eq_true h1.1) (decide_eq_true h1.2) (decide_eq_true h3.1) (decide_eq_true h3.2) (decide_eq_true h5.1) (decide_eq_true h5.2) (decide_eq_true h7.1) (decide_eq_true h7.2) (decide_eq_true h9.1) (decide_eq_true h9.2) hm

theorem recBack_fin {H : Type} {enc : TypeId × Value → H} {base : Nat} (W : World) (v0 : Value) (v1 : Value) {d0 : DataW H} {d1 : DataW H} {p0 : List MemPlace} {p1 : List MemPlace} (k0 : Value.okWide Try.prog W .any base 28 v0) (k1 : Value.okWide Try.prog W .any base 9 v1) (h0 : DataW.Trod enc Try.prog W 0 (fun _ => true) true 28 v0 d0 p0) (h1 : DataW.Trod enc Try.prog W 0 (fun _ => true) true 9 v1 d1 p1) (lt0 : ∀ x ∈ p0, x.block < W.heap.size) (lt1 : ∀ x ∈ p1, x.block < W.heap.size) :
    Calls Try.prog 5 #[v0, v1] W fun e w' => e = .returned (.bool true) ∧ Below W.heap.size W w' := by
  obtain ⟨⟨m, n, k, v, c, d, w, t⟩, w0, g0⟩ := arg_struct (n := 6) (e := [.int .u64, .int .u64, .str, .str, .int .u64, .int .u64, .int .u64, .bool]) Try.underlying28 (by kernel_rfl) k0 h0
  simp only [wfR, wfT] at w0
  obtain ⟨a1, a2, a3, a4, a5, a6, a7, _⟩ := w0
  obtain ⟨s, w1, g1⟩ := arg_str (n := 6) Try.underlying9 (by kernel_rfl) k1 h1
  exact pure_true (recBack_at m n k v c d w t s a1 a2 a5 a6 a7) W _ ⟨_, _, rfl, g0, _, _, rfl, g1, rfl⟩
end Go.Proofs.Ytpdckafighfadaa
