/-
  slices.Insert at texts in the program's tree: the kit's contracts, as the evaluator wants them. No condition.
-/
import Derived.Test.YtdpcenieeogekaaGreatEngZ
import Derived.Test.YtdpcenieeogekaaGreatItert
namespace Go.Proofs.YtdpcenieeogekaaGreat
open Go.RowKit Go.Shelf Go.Proofs Go

theorem zeros1 (Z : Value) (n : Nat) : Builtin.zeroCells #[Z] n = (List.replicate n Z).toArray := by
  apply Array.ext
  · simp [Builtin.zeroCells]
  · intro i h1 h2
    simp [Builtin.zeroCells, Nat.mod_one]
theorem treeIns : Go.Eng.InsHyp Tryz.prog 54 9 (.string ⟨#[]⟩) where
  shift := fun b off n c i vb voff m vc cs vs w h1 h2 h3 h4 h5 h6 h7 h8 h9 h10 h11 h12 h13 tA tB kA kB h14 h15 h16 h17 h18 => Any2.slices_Insert_string_shift Tryz.ins b off n c i vb voff m vc cs vs w h1 h2 h3 h4 h5 h6 h7 h8 h9 h10 h11 h12 h13 tA tB kA kB h14 h15 h16 h17 h18
  grow := fun b off n c i vb voff m vc cs vs w h1 h2 h3 h4 h5 h6 h7 h8 h9 h10 h11 => by
    refine (Any2.slices_Insert_string_grow Tryz.ins b off n c i vb voff m vc cs vs w h1 h2 h3 h4 h5 h6 h7 h8 h9 h10 h11).mono ?_
    rintro e w' ⟨rfl, rfl⟩
    refine ⟨_, ?_, ?_, rfl, ?_⟩
    · exact grownCap_ge w (n + m) c _
    · exact grownCap_le_maxLen w (n + m) c _ (by unfold maxLen; omega)
    · have hz : (Value.string ⟨#[]⟩).cells = #[Value.string ⟨#[]⟩] := rfl
      rw [hz, zeros1, zeros1]; rfl
end Go.Proofs.YtdpcenieeogekaaGreat
