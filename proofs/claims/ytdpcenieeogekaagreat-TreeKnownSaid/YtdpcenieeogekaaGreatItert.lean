/-
  The kit's contracts on slices.Insert at texts, laid at this program by the kit's own tools, in plain words. No condition.
-/
import Derived.Shelf.Spec.SlicesInsert
import Derived.Shelf.Spec.SlicesInsertGrow
import Derived.Ground.Names2Prog
import Derived.Test.YtdpcenieeogekaaGreatProg
namespace Go.Proofs
open Go.Shelf
def Tryz.ins_ren : Go.Shelf.Ren := ⟨fun | 22 => 54 | 29 => 102 | 30 => 103 | 36 => 155 | 17 => 185 | n => n, fun | 24 => 58 | 9 => 9 | 3 => 3 | 4 => 4 | 0 => 0 | n => n, fun | n => n⟩
theorem Tryz.ins : Go.Proofs.Lays2.n22 Tryz.prog Tryz.ins_ren := {
  mixed := by kernel_rfl
  f17 := Tryz.func185.trans (congrArg some (by kernel_rfl))
  f22 := Tryz.func54.trans (congrArg some (by kernel_rfl))
  f29 := Tryz.func102.trans (congrArg some (by kernel_rfl))
  f30 := Tryz.func103.trans (congrArg some (by kernel_rfl))
  f36 := Tryz.func155.trans (congrArg some (by kernel_rfl))
  t0 := Tryz.underlying0
  a0 := Tryz.isAgg0
  z0 := Tryz.sizeOf0
  v0 := Tryz.zeroValue0
  t3 := Tryz.underlying3
  a3 := Tryz.isAgg3
  z3 := Tryz.sizeOf3
  v3 := Tryz.zeroValue3
  t4 := Tryz.underlying4
  a4 := Tryz.isAgg4
  z4 := Tryz.sizeOf4
  v4 := Tryz.zeroValue4
  t9 := Tryz.underlying9
  a9 := Tryz.isAgg9
  z9 := Tryz.sizeOf9
  v9 := Tryz.zeroValue9
  t24 := Tryz.underlying58
  a24 := Tryz.isAgg58
  z24 := Tryz.sizeOf58
  v24 := Tryz.zeroValue58
  i9 := by kernel_rfl }
end Go.Proofs
