/-
  Texts of this claim, one behind the other: CdItm CdMay CdSvL CdReL CdAnyL. Each says its own conditions.
-/
import Derived.Test.YtaloolcabmfjbaaCdtM7
import Derived.Test.YtaloolcabmfjbaaCdtM6

set_option linter.unusedVariables false
set_option linter.unusedSimpArgs false
set_option linter.unusedSectionVars false
section
namespace Go.Proofs.Ytaloolcabmfjbaa
open Go.Sym
set_option linter.unusedVariables false
set_option linter.unusedSimpArgs false
set_option maxRecDepth 100000
set_option maxHeartbeats 4000000
abbrev cmT : List Ty := [.str, .int .i64, .int .i64, .int .u64, .str]
abbrev CmQ : Type := rowDen cmT
abbrev cmG (r : CmQ) : V := .agg [.str r.1, .int .i64 r.2.1, .int .i64 r.2.2.1, .int .u64 r.2.2.2.1, .str r.2.2.2.2]
abbrev opT : List Ty := [.int .i64, .str, .str, .str, .int .u64, .int .i64, .bool, .bool, .bool]
abbrev OpQ : Type := rowDen opT
noncomputable def opR : ByteArray → ByteArray := hide fun s => numR (numR (numR (numR (numR (txR (txR (txR (numR s))))))))
abbrev opG (r : OpQ) : V := .agg [.int .i64 r.1, .str r.2.1, .str r.2.2.1, .str r.2.2.2.1, .int .u64 r.2.2.2.2.1, .int .i64 r.2.2.2.2.2.1, .bool r.2.2.2.2.2.2.1, .bool r.2.2.2.2.2.2.2.1, .bool r.2.2.2.2.2.2.2.2]
abbrev kvT : List Ty := [.str, .str, .int .u64, .int .u64, .int .u64]
abbrev KvQ : Type := rowDen kvT
abbrev kvG (r : KvQ) : V := .agg [.str r.1, .str r.2.1, .int .u64 r.2.2.1, .int .u64 r.2.2.2.1, .int .u64 r.2.2.2.2]
end Go.Proofs.Ytaloolcabmfjbaa
end

section
namespace Go.Proofs.Ytaloolcabmfjbaa
open Go.Sym
set_option linter.unusedVariables false
set_option linter.unusedSimpArgs false
set_option maxRecDepth 100000
set_option maxHeartbeats 4000000
theorem size0 {x : ByteArray} : x.size = 0 ↔ x = ⟨#[]⟩ := ⟨fun h => ba_ext (show x.data.toList = [] from List.length_eq_zero_iff.1 (by rw [Array.length_toList]; exact h)), fun h => by rw [h]; rfl⟩
noncomputable def mayO : OpQ → Bool := hide fun r => decide ((0 ≤ r.1 ∧ r.1 ≤ 2) ∧ (1 ≤ r.2.1.size ∧ r.2.1.size ≤ 16) ∧ r.2.2.1.size ≤ 16 ∧ ((r.1 = 0 ∧ r.2.2.2.1.size = 0 ∧ r.2.2.2.2.2.2.2.2 = false ∧ r.2.2.2.2.1 ≤ 1099511627776 ∧ 0 ≤ r.2.2.2.2.2.1 ∧ r.2.2.2.2.2.1 ≤ 1000) ∨ (r.2.2.2.2.1 = 0 ∧ r.2.2.2.2.2.1 = 0 ∧ r.2.2.2.2.2.2.1 = false ∧ r.2.2.2.2.2.2.2.1 = false ∧ r.2.2.2.1.size ≤ 32 ∧ (r.1 = 1 ∧ r.2.2.1.size = 0 ∨ r.1 = 2 ∧ r.2.2.2.1.size = 0))))
noncomputable def mayC : CmQ → Bool := hide fun r => decide ((1 ≤ r.1.size ∧ r.1.size ≤ 16) ∧ (0 ≤ r.2.1 ∧ r.2.1 ≤ 3) ∧ (0 ≤ r.2.2.1 ∧ r.2.2.1 ≤ 3) ∧ ((¬ r.2.1 = 3 ∧ r.2.2.2.2.size = 0) ∨ (r.2.1 = 3 ∧ r.2.2.2.1 = 0 ∧ r.2.2.2.2.size ≤ 32)))
end Go.Proofs.Ytaloolcabmfjbaa
end

section
namespace Go.Proofs.Ytaloolcabmfjbaa
open Go.Sym
set_option linter.unusedVariables false
set_option linter.unusedSimpArgs false
set_option maxRecDepth 100000
set_option maxHeartbeats 4000000
noncomputable def opI0 (s : ByteArray) : Nat → ByteArray
 | 0 => numR s
 | i + 1 => opR (opI0 s i)
noncomputable def opI : ByteArray → Nat → ByteArray := hide opI0
noncomputable def opE : ByteArray → ByteArray := hide fun s => opI s (numV s).toNat
end Go.Proofs.Ytaloolcabmfjbaa
end

section
namespace Go.Proofs.Ytaloolcabmfjbaa
open Go.Sym
set_option linter.unusedVariables false
set_option linter.unusedSimpArgs false
set_option maxRecDepth 100000
set_option maxHeartbeats 4000000
abbrev reT : List Ty := [.lst kvT, .bool, .int .i64, .int .i64, .lst kvT]
abbrev ReQ : Type := rowDen reT
end Go.Proofs.Ytaloolcabmfjbaa
end

section
namespace Go.Proofs.Ytaloolcabmfjbaa
open Go.Sym
set_option linter.unusedVariables false
set_option linter.unusedSimpArgs false
section
variable {e : List Ty}
noncomputable def fst0 (p : rowDen e → Bool) (L : List (rowDen e)) : Nat := List.findIdx p L
noncomputable def anyB (p : rowDen e → Bool) : List (rowDen e) → Bool := hide fun L => L.any p
noncomputable def ixI (p : rowDen e → Bool) : List (rowDen e) → Int := hide fun L => if fst0 p L < L.length then (fst0 p L : Int) else -1
theorem anyB_eq (p : rowDen e → Bool) (L : List (rowDen e)) : anyB p L = L.any p := by unfold anyB; rw [hide_eq]
theorem ixI_eq (p : rowDen e → Bool) (L : List (rowDen e)) : ixI p L = if fst0 p L < L.length then (fst0 p L : Int) else -1 := by unfold ixI; rw [hide_eq]
theorem fst0_le (p : rowDen e → Bool) (L : List (rowDen e)) : fst0 p L ≤ L.length := List.findIdx_le_length
theorem fst0_not (p : rowDen e → Bool) (L : List (rowDen e)) {i : Nat} (h : i < fst0 p L) : p (Sym.rowAt e L i) = false := by
 have hl : i < L.length := Nat.lt_of_lt_of_le h (fst0_le p L)
 rw [rowAt_lt hl]
 exact List.not_of_lt_findIdx h
theorem fst0_is (p : rowDen e → Bool) (L : List (rowDen e)) (h : fst0 p L < L.length) : p (Sym.rowAt e L (fst0 p L)) = true := by
 rw [rowAt_lt h]
 exact List.findIdx_getElem (w := h)
theorem ix_in (p : rowDen e → Bool) (L : List (rowDen e)) : (ixI p L = -1 ∧ anyB p L = false ∧ fst0 p L = L.length) ∨ (ixI p L = (fst0 p L : Int) ∧ anyB p L = true ∧ fst0 p L < L.length) := by
 rw [ixI_eq, anyB_eq]
 by_cases h : fst0 p L < L.length
 ·refine .inr ⟨if_pos h, ?_, h⟩
  rw [List.any_eq_true]
  exact ⟨L[fst0 p L], List.getElem_mem h, List.findIdx_getElem (w := h)⟩
 ·refine .inl ⟨if_neg h, ?_, Nat.le_antisymm (fst0_le p L) (Nat.not_lt.1 h)⟩
  rw [List.any_eq_false]
  intro x hx
  exact fun q => h (List.findIdx_lt_length.2 ⟨x, hx, q⟩)
theorem any_not {p : rowDen e → Bool} {L : List (rowDen e)} (h : anyB p L = false) {i : Nat} (hi : i < L.length) : p (Sym.rowAt e L i) = false := by
 rcases ix_in p L with ⟨_, _, h3⟩ | ⟨_, h2, _⟩
 ·exact fst0_not p L (by omega)
 ·rw [h] at h2; cases h2
end
abbrev szP (x : ByteArray) : Prop := x.size ≤ 1000000
abbrev u6P (n : Int) : Prop := 0 ≤ n ∧ n < 18446744073709551616
def wfO (r : OpQ) : Prop := szP r.2.1 ∧ szP r.2.2.1 ∧ szP r.2.2.2.1 ∧ u6P r.2.2.2.2.1
def wfK (r : KvQ) : Prop := szP r.1 ∧ szP r.2.1 ∧ u6P r.2.2.1 ∧ u6P r.2.2.2.1 ∧ u6P r.2.2.2.2
open Classical in
noncomputable def opW : List OpQ → Bool := hide fun L => decide (L.length ≤ 1000000 ∧ ∀ i, i < L.length → wfO (Sym.rowAt opT L i))
open Classical in
open Classical in
noncomputable def kvW : List KvQ → Bool := hide fun L => decide (L.length ≤ 1000000 ∧ ∀ i, i < L.length → wfK (Sym.rowAt kvT L i))
open Classical in
noncomputable def reW : List ReQ → Bool := hide fun L => decide (L.length ≤ 1000000 ∧ ∀ i, i < L.length → kvW (Sym.rowAt reT L i).1 = true ∧ kvW (Sym.rowAt reT L i).2.2.2.2 = true)
open Classical in
open Classical in
open Classical in
theorem kvW_iff (L : List KvQ) : kvW L = true ↔ (L.length ≤ 1000000 ∧ ∀ i, i < L.length → wfK (Sym.rowAt kvT L i)) := by unfold kvW; rw [hide_eq]; exact ⟨fun h => of_decide_eq_true h, fun h => decide_eq_true h⟩
open Classical in
theorem reW_iff (L : List ReQ) : reW L = true ↔ (L.length ≤ 1000000 ∧ ∀ i, i < L.length → kvW (Sym.rowAt reT L i).1 = true ∧ kvW (Sym.rowAt reT L i).2.2.2.2 = true) := by unfold reW; rw [hide_eq]; exact ⟨fun h => of_decide_eq_true h, fun h => decide_eq_true h⟩
noncomputable def badO : OpQ → Bool := hide fun r => !mayO r
noncomputable def badC : CmQ → Bool := hide fun r => !mayC r
noncomputable def badR : ReQ → Bool := hide fun r => !decide (r.1.length ≤ 2000 ∧ r.2.2.2.2.length ≤ 2000 ∧ (0 ≤ r.2.2.1 ∧ r.2.2.1 ≤ 1073741824) ∧ 0 ≤ r.2.2.2.1 ∧ r.2.2.2.1 ≤ 1073741824)
theorem badR_eq (K : List KvQ) (m : Bool) (c d : Int) (P : List KvQ) : badR (K, m, c, d, P) = !decide (K.length ≤ 2000 ∧ P.length ≤ 2000 ∧ (0 ≤ c ∧ c ≤ 1073741824) ∧ 0 ≤ d ∧ d ≤ 1073741824) := by unfold badR; rw [hide_eq]
end Go.Proofs.Ytaloolcabmfjbaa
end
