/-
  HoldsOne, of any arguments that a machine has. Conditions: those of the statement.
-/
import Derived.Test.YtjjebdfjmbnhpaaHoldsG
import Derived.Test.YtjjebdfjmbnhpaaEngV
namespace Go.Proofs.Ytjjebdfjmbnhpaa
open Go.Sym Go.WideShapes
open Go.RowKit (Below)
set_option maxRecDepth 100000

theorem holdsOne_fin {H : Type} {enc : TypeId × Value → H} {base : Nat} (W : World) (v0 : Value) (v1 : Value) (v2 : Value) {d0 : DataW H} {d1 : DataW H} {d2 : DataW H} {p0 : List MemPlace} {p1 : List MemPlace} {p2 : List MemPlace} (k0 : Value.okWide Try.prog W .any base 25 v0) (k1 : Value.okWide Try.prog W .any base 23 v1) (k2 : Value.okWide Try.prog W .any base 9 v2) (h0 : DataW.Trod enc Try.prog W 0 (fun _ => true) true 25 v0 d0 p0) (h1 : DataW.Trod enc Try.prog W 0 (fun _ => true) true 23 v1 d1 p1) (h2 : DataW.Trod enc Try.prog W 0 (fun _ => true) true 9 v2 d2 p2) (lt0 : ∀ x ∈ p0, x.block < W.heap.size) (lt1 : ∀ x ∈ p1, x.block < W.heap.size) (lt2 : ∀ x ∈ p2, x.block < W.heap.size) :
    Calls Try.prog 4 #[v0, v1, v2] W fun e w' => e = .returned (.bool true) ∧ Below W.heap.size W w' := by
  obtain ⟨A, n, D, rfl, hsz, hA⟩ := Eng.open_agg Try.underlying25 (by kernel_rfl) (by kernel_rfl) k0 h0
  obtain ⟨x0, e0, g0⟩ := hA 0 _ rfl
  obtain ⟨x1, e1, g1⟩ := hA 1 _ rfl
  obtain ⟨x2, e2, g2⟩ := hA 2 _ rfl
  obtain ⟨x3, e3, g3⟩ := hA 3 _ rfl
  obtain ⟨x4, e4, g4⟩ := hA 4 _ rfl
  obtain ⟨kk, rfl, _⟩ := Eng.trod_s Try.underlying9 g0
  obtain ⟨kv, rfl, hk⟩ := Eng.trod_s Try.underlying9 g1
  obtain ⟨cr, rfl, _⟩ := Eng.trod_u64 Try.underlying23 g2
  obtain ⟨mo, rfl, _⟩ := Eng.trod_u64 Try.underlying23 g3
  obtain ⟨ve, rfl, _⟩ := Eng.trod_u64 Try.underlying23 g4
  obtain ⟨m, rfl⟩ := okWide_int Try.underlying23 k1
  obtain ⟨s, rfl⟩ := okWide_string Try.underlying9 k2
  have hm : 0 ≤ m := by
    obtain ⟨f, hf⟩ := h1
    obtain ⟨q, hq, _⟩ := Eng.trod_u64 Try.underlying23 (v := .int .u64 m) (by simpa [Value.cells] using hf)
    cases hq
    omega
  have hs : s.size ≤ 9223372036854775807 := by
    obtain ⟨f, hf⟩ := h2
    obtain ⟨q, hq, hz⟩ := Eng.trod_s Try.underlying9 (v := .string s) (by simpa [Value.cells] using hf)
    cases hq
    exact hz
  have hA : A.toList = [.string kk, .string kv, .int .u64 cr, .int .u64 mo, .int .u64 ve] := by
    have hsz : A.size = 5 := hsz
    refine List.ext_getElem? fun i => ?_
    rw [Array.getElem?_toList]
    match i with
    | 0 => exact e0
    | 1 => exact e1
    | 2 => exact e2
    | 3 => exact e3
    | 4 => exact e4
    | i + 5 => rw [Array.getElem?_eq_none (by omega)]; rfl
  exact pure_true (holdsOne_at kk kv s cr mo ve m hm hs hk) W _ ⟨_, _, rfl, by
    simp only [VRel]
    exact ⟨A, rfl, by rw [hA]; exact ⟨_, _, rfl, by simp only [VRel], _, _, rfl, by simp only [VRel], _, _, rfl, by simp only [VRel], _, _, rfl, by simp only [VRel], _, _, rfl, by simp only [VRel], rfl⟩⟩, _, _, rfl, by simp only [VRel], _, _, rfl, by simp only [VRel], rfl⟩
end Go.Proofs.Ytjjebdfjmbnhpaa
