/-
  The kit's contracts on slices.Collect(maps.Keys(m)), laid at this program by the kit's own tools, in plain words. No condition.
-/
import Derived.Shelf.SlGeneric
import Derived.Shelf.SlIterI.Collect
import Derived.Ground.GgzProg
import Derived.Test.YtmnjgdnmlopigaaGreatProg
namespace Go.Proofs
open Go.Shelf
def Tryz.coll144_ren : Go.Shelf.Ren := ⟨fun | 8 => 144 | 11 => 184 | n => n, fun | 26 => 3 | 28 => 186 | 24 => 127 | 0 => 0 | 33 => 174 | 4 => 4 | n => n, fun | n => n⟩
theorem Tryz.coll144 : Go.Proofs.SlLaysZI.n8 Tryz.prog Tryz.coll144_ren := {
  mixed := by kernel_rfl
  f8 := ⟨Tryz.f144.name, by decide, Tryz.func144.trans (congrArg some (by kernel_rfl))⟩
  f11 := ⟨Tryz.f184.name, by decide, Tryz.func184.trans (congrArg some (by kernel_rfl))⟩
  t0 := Tryz.underlying0
  a0 := Tryz.isAgg0
  z0 := Tryz.sizeOf0
  v0 := Tryz.zeroValue0
  t24 := Tryz.underlying127
  a24 := Tryz.isAgg127
  z24 := Tryz.sizeOf127
  v24 := Tryz.zeroValue127
  t26 := Tryz.underlying3
  a26 := Tryz.isAgg3
  z26 := Tryz.sizeOf3
  v26 := Tryz.zeroValue3
  t28 := Tryz.underlying186
  a28 := Tryz.isAgg186
  z28 := Tryz.sizeOf186
  v28 := Tryz.zeroValue186
  i26 := by kernel_rfl }
def Tryz.keys145_ren : Go.Shelf.Ren := ⟨fun | 7 => 145 | 10 => 185 | n => n, fun | 23 => 126 | 26 => 3 | 3 => 4 | 28 => 186 | 0 => 0 | 27 => 185 | 33 => 174 | 4 => 4 | n => n, fun | n => n⟩
theorem Tryz.keys145 : Go.Proofs.SlLaysZI.n7 Tryz.prog Tryz.keys145_ren := {
  mixed := by kernel_rfl
  f7 := ⟨Tryz.f145.name, by decide, Tryz.func145.trans (congrArg some (by kernel_rfl))⟩
  f10 := ⟨Tryz.f185.name, by decide, Tryz.func185.trans (congrArg some (by kernel_rfl))⟩
  t0 := Tryz.underlying0
  a0 := Tryz.isAgg0
  z0 := Tryz.sizeOf0
  v0 := Tryz.zeroValue0
  t4 := Tryz.underlying4
  a4 := Tryz.isAgg4
  z4 := Tryz.sizeOf4
  v4 := Tryz.zeroValue4
  t23 := Tryz.underlying126
  a23 := Tryz.isAgg126
  z23 := Tryz.sizeOf126
  v23 := Tryz.zeroValue126
  t26 := Tryz.underlying3
  a26 := Tryz.isAgg3
  z26 := Tryz.sizeOf3
  v26 := Tryz.zeroValue3
  t27 := Tryz.underlying185
  a27 := Tryz.isAgg185
  z27 := Tryz.sizeOf185
  v27 := Tryz.zeroValue185
  t28 := Tryz.underlying186
  a28 := Tryz.isAgg186
  z28 := Tryz.sizeOf186
  v28 := Tryz.zeroValue186
  t33 := Tryz.underlying174
  a33 := Tryz.isAgg174
  z33 := Tryz.sizeOf174
  v33 := Tryz.zeroValue174 }
end Go.Proofs
