/-
  Arguments opened: a list of structs of fields of one cell, a struct, and what a cell of a plain type holds. No condition; nothing here speaks of one program.
-/
import Derived.Deep.Slices
import Derived.Deep.Fields
import Derived.ChangeArms
import Derived.WideShapes
namespace Go.Eng
open Go.ChangeShapes Go.WideShapes

section
variable {H : Type} {enc : TypeId × Value → H} {P : Program} {w : World} {base : Nat} {spare : Nat → Bool} {held : Bool}
/-- a list of structs of fields of one cell, opened at every place -/
theorem open_rows {t e : TypeId} {fs : Array Field} {fuel : Nat} {cs : List Value} {x : DataW H × List MemPlace} (ht : P.underlying t = some (.slice e)) (he : P.underlying e = some (.struct fs))
    (ce : P.cellsOf e = fs.size) (hone : Go.Deep.oneCellFields P fs = true) (hpos : 0 < fs.size)
    (h : DataW.trod enc P w base spare held fuel t cs = some x) :
    (cs = [.slice none 0 0]) ∨
    ∃ (a : Addr) (len cap m n : Nat) (V : Nat → Nat → Value) (D : Nat → Nat → DataW H × List MemPlace), cs = [.slice (some a) len cap] ∧ base ≤ a.block ∧ len ≤ cap ∧ cap ≤ maxLen ∧ m = (if spare a.block then cap else len) ∧
      (0 < m → .cell a.block a.off ∈ x.2) ∧
      ∀ i, i < m → ∀ j f, fs[j]? = some f → w.cell? (a.add (i * fs.size + j)) = some (V i j) ∧ DataW.trod enc P w base spare held n f.type [V i j] = some (D i j) := by
  rcases Go.Deep.open_slice ht h with h0 | ⟨a, len, cap, m, n, D, Pl, rfl, hb, hl, hm, hmm, rfl, hx⟩
  · exact Or.inl h0.1
  right
  have hone := Go.Deep.hone_of hone
  have each : ∀ i, i < m → ∃ q : (Nat → Value) × (Nat → DataW H × List MemPlace), ∀ j f, fs[j]? = some f → w.cell? (a.add (i * fs.size + j)) = some (q.1 j) ∧ DataW.trod enc P w base spare held (n - 1) f.type [q.1 j] = some (q.2 j) := by
    intro i hi
    obtain ⟨cs', h1, h2⟩ := hx i hi
    rw [ce] at h1
    obtain ⟨_, hlen, hcell⟩ := World.cells?_some h1
    obtain ⟨xs, k, hk, _, _, hxl, hf⟩ := DataW.trod_struct he h2
    have hk' : k = n - 1 := by omega
    subst hk'
    refine ⟨(fun j => cs'.getD j (.bool false), fun j => xs.getD j (.nil, [])), fun j f hj => ?_⟩
    obtain ⟨ho, hc⟩ := hone j f hj
    have hj' : j < fs.size := (Array.getElem?_eq_some_iff.1 hj).1
    have h3 := hf j f hj
    have h4 := hcell j hj'
    rw [Go.Deep.add_add] at h4
    have e1 : cs'[j]? = some (cs'.getD j (.bool false)) := by simp [List.getD, List.getElem?_eq_getElem (show j < cs'.length by omega)]
    have e2 : xs[j]? = some (xs.getD j (.nil, [])) := by simp [List.getD, List.getElem?_eq_getElem (show j < xs.length by omega)]
    rw [ho, hc, e2] at h3
    have e3 : (cs'.drop j).take 1 = [cs'.getD j (.bool false)] := by
      have e5 : cs'.getD j (.bool false) = cs'[j]'(by omega) := by simp [List.getD, List.getElem?_eq_getElem (show j < cs'.length by omega)]
      rw [List.drop_eq_getElem_cons (show j < cs'.length by omega), e5]
      rfl
    rw [e3] at h3
    exact ⟨by rw [h4, e1], h3⟩
  obtain ⟨q, hq⟩ := Go.Deep.choose_lt each
  refine ⟨a, len, cap, m, n - 1, fun i => (q i).1, fun i => (q i).2, rfl, hb, hl, hm, hmm, ?_, hq⟩
  intro hm0
  exact List.mem_append_left _ (MemPlace.mem_row.2 ⟨0, by rw [ce]; exact Nat.mul_pos hm0 hpos, by simp⟩)

theorem trod_u64 {t : TypeId} {fuel : Nat} {v : Value} {x : DataW H × List MemPlace} (ht : P.underlying t = some (.int .u64)) (h : DataW.trod enc P w base spare held fuel t [v] = some x) : ∃ q : Nat, v = .int .u64 q ∧ q < 18446744073709551616 := by
  obtain ⟨q, h, _, hw⟩ := DataW.trod_int ht h
  have hw : 0 ≤ q ∧ q < 18446744073709551616 := by simp [Lit.wf, IntKind.min, IntKind.max, IntKind.signed, IntKind.bits] at hw; omega
  refine ⟨q.toNat, ?_, by omega⟩
  rw [Int.toNat_of_nonneg hw.1]
  simpa using h
theorem trod_i64 {t : TypeId} {fuel : Nat} {v : Value} {x : DataW H × List MemPlace} (ht : P.underlying t = some (.int .i64)) (h : DataW.trod enc P w base spare held fuel t [v] = some x) : ∃ q : Int, v = .int .i64 q ∧ -9223372036854775808 ≤ q ∧ q ≤ 9223372036854775807 := by
  obtain ⟨q, h, _, hw⟩ := DataW.trod_int ht h
  have hw : -9223372036854775808 ≤ q ∧ q ≤ 9223372036854775807 := by simp [Lit.wf, IntKind.min, IntKind.max, IntKind.signed, IntKind.bits] at hw; omega
  exact ⟨q, by simpa using h, hw⟩
theorem trod_u8 {t : TypeId} {fuel : Nat} {v : Value} {x : DataW H × List MemPlace} (ht : P.underlying t = some (.int .u8)) (h : DataW.trod enc P w base spare held fuel t [v] = some x) : ∃ q : Nat, v = .int .u8 q ∧ q < 256 := by
  obtain ⟨q, h, _, hw⟩ := DataW.trod_int ht h
  have hw : 0 ≤ q ∧ q < 256 := by simp [Lit.wf, IntKind.min, IntKind.max, IntKind.signed, IntKind.bits] at hw; omega
  refine ⟨q.toNat, ?_, by omega⟩
  rw [Int.toNat_of_nonneg hw.1]
  simpa using h
theorem trod_b {t : TypeId} {fuel : Nat} {v : Value} {x : DataW H × List MemPlace} (ht : P.underlying t = some .bool) (h : DataW.trod enc P w base spare held fuel t [v] = some x) : ∃ q : Bool, v = .bool q := by
  obtain ⟨q, h, _⟩ := DataW.trod_bool ht h
  exact ⟨q, by simpa using h⟩
theorem trod_s {t : TypeId} {fuel : Nat} {v : Value} {x : DataW H × List MemPlace} (ht : P.underlying t = some .string) (h : DataW.trod enc P w base spare held fuel t [v] = some x) : ∃ q : ByteArray, v = .string q ∧ q.size ≤ 9223372036854775807 := by
  obtain ⟨q, h, _, hw⟩ := DataW.trod_string ht h
  unfold maxLen at hw
  exact ⟨q, by simpa using h, by omega⟩
/-- a struct of fields of one cell, opened -/
theorem open_agg {t : TypeId} {fs : Array Field} {v : Value} {d : DataW H} {p : List MemPlace} {r : Reach} {b0 : Nat} {W : World} (he : P.underlying t = some (.struct fs)) (hone : Go.Deep.oneCellFields P fs = true) (ce : P.cellsOf t = fs.size)
    (k : Value.okWide P W r b0 t v) (h : DataW.Trod enc P w base spare held t v d p) :
    ∃ (A : Array Value) (n : Nat) (D : Nat → DataW H × List MemPlace), v = .agg A ∧ A.size = fs.size ∧ ∀ j f, fs[j]? = some f → ∃ x, A[j]? = some x ∧ DataW.trod enc P w base spare held n f.type [x] = some (D j) := by
  obtain ⟨A, rfl, hA⟩ := okWide_struct he k
  obtain ⟨fuel, hf⟩ := h
  have hone := Go.Deep.hone_of hone
  have hf' : DataW.trod enc P w base spare held fuel t A.toList = some (d, p) := by simpa [Value.cells] using hf
  obtain ⟨xs, n, _, _, _, hxl, hff⟩ := DataW.trod_struct he hf'
  refine ⟨A, n, fun j => xs.getD j (.nil, []), rfl, by omega, fun j f hj => ?_⟩
  obtain ⟨ho, hc⟩ := hone j f hj
  have hj' : j < fs.size := (Array.getElem?_eq_some_iff.1 hj).1
  have hjA : j < A.toList.length := by simp; omega
  have h3 := hff j f hj
  have e2 : xs[j]? = some (xs.getD j (.nil, [])) := by simp [List.getD, List.getElem?_eq_getElem (show j < xs.length by omega)]
  rw [ho, hc, e2, List.drop_eq_getElem_cons hjA] at h3
  exact ⟨A.toList[j], by simp, by simpa using h3⟩
end
end Go.Eng
