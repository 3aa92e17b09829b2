/-
  Texts of this claim, one behind the other: CdChk CdChk2. Each says its own conditions.
-/
import Derived.Test.YtaloolcabmfjbaaCdtM9

set_option linter.unusedVariables false
set_option linter.unusedSimpArgs false
set_option linter.unusedSectionVars false
section
namespace Go.Proofs.Ytaloolcabmfjbaa
open Go.Sym
set_option linter.unusedVariables false
set_option linter.unusedSimpArgs false
set_option maxRecDepth 100000
set_option maxHeartbeats 4000000
theorem le_ix {e : List Ty} (p : rowDen e → Bool) (L : List (rowDen e)) : leI 0 (ixI p L) = anyB p L := by
 rw [leI_eq]
 rcases ix_in p L with ⟨a, b, c⟩ | ⟨a, b, c⟩
 ·rw [a, b]; rfl
 ·rw [a, b]; exact decide_eq_true (by omega)
section
variable (k cl nm rv : Int) (sr : Bool) (C : List CmQ) (A B : List OpQ)
end
noncomputable def hcE : List CmQ → Int := hide fun C => if 4 < C.length then 3 else if anyB badC C = true then 11 else 0
noncomputable def stB : Int → List CmQ → List OpQ → List OpQ → Bool := hide fun k C A B => decide (k = 0 ∧ hcE C = 0 ∧ A.length ≤ 6 ∧ B.length ≤ 6 ∧ anyB badO A = false ∧ anyB badO B = false)
noncomputable def stE : Int → List CmQ → List OpQ → List OpQ → Int := hide fun k C A B => bif stB k C A B then 0 else 11
section
variable (k cl nm rv : Int) (sr : Bool) (C : List CmQ) (A B : List OpQ)
end
end Go.Proofs.Ytaloolcabmfjbaa
end

section
namespace Go.Proofs.Ytaloolcabmfjbaa
open Go.Sym
set_option linter.unusedVariables false
set_option linter.unusedSimpArgs false
set_option maxRecDepth 100000
set_option maxHeartbeats 4000000
theorem LRel.cons_of {ρ : Env} {a b : V} {l m : List V} (h : ∀ X, VRel ρ a X → VRel ρ b X) (k : ∀ W, LRel ρ l W → LRel ρ m W) : ∀ W, LRel ρ (a :: l) W → LRel ρ (b :: m) W := by
 rintro W ⟨x, Y, rfl, h1, h2⟩
 exact ⟨x, Y, rfl, h _ h1, k _ h2⟩
theorem agg_of {ρ : Env} {l m : List V} (k : ∀ W, LRel ρ l W → LRel ρ m W) : ∀ X, VRel ρ (.agg l) X → VRel ρ (.agg m) X := by
 intro X h
 simp only [VRel] at h ⊢
 obtain ⟨A, rfl, h⟩ := h
 exact ⟨A, rfl, k _ h⟩
section
variable (k cl nm rv : Int) (sr : Bool) (C : List CmQ) (A B : List OpQ)
end
end Go.Proofs.Ytaloolcabmfjbaa
end
