/-
  The kit's contracts on slices.Collect(maps.Keys(m)), laid at this program by the kit's own tools, in plain words. No condition.
-/
import Derived.Shelf.SlGeneric
import Derived.Shelf.SlIterI.Collect
import Derived.Ground.GgzProg
import Derived.Test.YtafbobjlgamfiaaGreatProg
namespace Go.Proofs
open Go.Shelf
def Tryz.coll86_ren : Go.Shelf.Ren := ⟨fun | 8 => 86 | 11 => 114 | n => n, fun | 26 => 3 | 28 => 125 | 24 => 52 | 0 => 0 | 33 => 57 | 4 => 4 | n => n, fun | n => n⟩
theorem Tryz.coll86 : Go.Proofs.SlLaysZI.n8 Tryz.prog Tryz.coll86_ren := {
  mixed := by kernel_rfl
  f8 := ⟨Tryz.f86.name, by decide, Tryz.func86.trans (congrArg some (by kernel_rfl))⟩
  f11 := ⟨Tryz.f114.name, by decide, Tryz.func114.trans (congrArg some (by kernel_rfl))⟩
  t0 := Tryz.underlying0
  a0 := Tryz.isAgg0
  z0 := Tryz.sizeOf0
  v0 := Tryz.zeroValue0
  t24 := Tryz.underlying52
  a24 := Tryz.isAgg52
  z24 := Tryz.sizeOf52
  v24 := Tryz.zeroValue52
  t26 := Tryz.underlying3
  a26 := Tryz.isAgg3
  z26 := Tryz.sizeOf3
  v26 := Tryz.zeroValue3
  t28 := Tryz.underlying125
  a28 := Tryz.isAgg125
  z28 := Tryz.sizeOf125
  v28 := Tryz.zeroValue125
  i26 := by kernel_rfl }
def Tryz.keys87_ren : Go.Shelf.Ren := ⟨fun | 7 => 87 | 10 => 115 | n => n, fun | 23 => 54 | 26 => 3 | 3 => 4 | 28 => 125 | 0 => 0 | 27 => 124 | 33 => 57 | 4 => 4 | n => n, fun | n => n⟩
theorem Tryz.keys87 : Go.Proofs.SlLaysZI.n7 Tryz.prog Tryz.keys87_ren := {
  mixed := by kernel_rfl
  f7 := ⟨Tryz.f87.name, by decide, Tryz.func87.trans (congrArg some (by kernel_rfl))⟩
  f10 := ⟨Tryz.f115.name, by decide, Tryz.func115.trans (congrArg some (by kernel_rfl))⟩
  t0 := Tryz.underlying0
  a0 := Tryz.isAgg0
  z0 := Tryz.sizeOf0
  v0 := Tryz.zeroValue0
  t4 := Tryz.underlying4
  a4 := Tryz.isAgg4
  z4 := Tryz.sizeOf4
  v4 := Tryz.zeroValue4
  t23 := Tryz.underlying54
  a23 := Tryz.isAgg54
  z23 := Tryz.sizeOf54
  v23 := Tryz.zeroValue54
  t26 := Tryz.underlying3
  a26 := Tryz.isAgg3
  z26 := Tryz.sizeOf3
  v26 := Tryz.zeroValue3
  t27 := Tryz.underlying124
  a27 := Tryz.isAgg124
  z27 := Tryz.sizeOf124
  v27 := Tryz.zeroValue124
  t28 := Tryz.underlying125
  a28 := Tryz.isAgg125
  z28 := Tryz.sizeOf125
  v28 := Tryz.zeroValue125
  t33 := Tryz.underlying57
  a33 := Tryz.isAgg57
  z33 := Tryz.sizeOf57
  v33 := Tryz.zeroValue57 }
end Go.Proofs
