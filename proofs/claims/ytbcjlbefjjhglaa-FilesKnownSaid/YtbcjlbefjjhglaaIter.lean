/-
  The kit's contracts on slices.Sorted(maps.Keys(m)), laid at this program by the kit's own tools, in plain words. No condition.
-/
import Derived.Shelf.SlGeneric
import Derived.Shelf.SlIter.Nil
import Derived.Shelf.SortM.Plain
import Derived.Shelf.SortM.SortNone
import Derived.Ground.GgzProg
import Derived.Ground.SlgmProg
import Derived.Test.YtbcjlbefjjhglaaProg
namespace Go.Proofs
open Go.Shelf
def Try.keys84_ren : Go.Shelf.Ren := ⟨fun | 7 => 84 | 10 => 135 | n => n, fun | 23 => 116 | 26 => 9 | 3 => 124 | 28 => 140 | 0 => 0 | 27 => 139 | 33 => 178 | 4 => 4 | n => n, fun | n => n⟩
theorem Try.keys84 : Go.Proofs.SlLaysZ.n7 Try.prog Try.keys84_ren := {
  mixed := by kernel_rfl
  f7 := ⟨Try.f84.name, by decide, Try.func84.trans (congrArg some (by kernel_rfl))⟩
  f10 := ⟨Try.f135.name, by decide, Try.func135.trans (congrArg some (by kernel_rfl))⟩
  t0 := Try.underlying0
  a0 := Try.isAgg0
  z0 := Try.sizeOf0
  v0 := Try.zeroValue0
  t4 := Try.underlying4
  a4 := Try.isAgg4
  z4 := Try.sizeOf4
  v4 := Try.zeroValue4
  t23 := Try.underlying116
  a23 := Try.isAgg116
  z23 := Try.sizeOf116
  v23 := Try.zeroValue116
  t26 := Try.underlying9
  a26 := Try.isAgg9
  z26 := Try.sizeOf9
  v26 := Try.zeroValue9
  t27 := Try.underlying139
  a27 := Try.isAgg139
  z27 := Try.sizeOf139
  v27 := Try.zeroValue139
  t28 := Try.underlying140
  a28 := Try.isAgg140
  z28 := Try.sizeOf140
  v28 := Try.zeroValue140
  t33 := Try.underlying178
  a33 := Try.isAgg178
  z33 := Try.sizeOf178
  v33 := Try.zeroValue178 }
def Try.sorted83_ren : Go.Shelf.Ren := ⟨fun | 6 => 83 | 8 => 133 | 9 => 134 | 11 => 156 | 13 => 158 | 12 => 157 | 23 => 173 | 24 => 174 | 14 => 164 | 15 => 165 | 16 => 166 | 17 => 167 | 18 => 168 | 19 => 169 | 20 => 170 | 21 => 171 | 22 => 172 | 25 => 177 | 26 => 178 | 27 => 179 | 28 => 180 | 29 => 181 | 30 => 182 | 31 => 183 | n => n, fun | 26 => 9 | 28 => 140 | 24 => 75 | 0 => 0 | 3 => 3 | 37 => 99 | 48 => 181 | 50 => 35 | 4 => 4 | 40 => 209 | 39 => 208 | 45 => 71 | 5 => 5 | 9 => 9 | 51 => 218 | 55 => 221 | 57 => 223 | 58 => 224 | 33 => 178 | n => n, fun | n => n⟩
theorem Try.sorted83 : Go.Proofs.SlLaysZ.n6 Try.prog Try.sorted83_ren := {
  mixed := by kernel_rfl
  f6 := ⟨Try.f83.name, by decide, Try.func83.trans (congrArg some (by kernel_rfl))⟩
  f8 := ⟨Try.f133.name, by decide, Try.func133.trans (congrArg some (by kernel_rfl))⟩
  f11 := ⟨Try.f156.name, by decide, Try.func156.trans (congrArg some (by kernel_rfl))⟩
  t0 := Try.underlying0
  a0 := Try.isAgg0
  z0 := Try.sizeOf0
  v0 := Try.zeroValue0
  t24 := Try.underlying75
  a24 := Try.isAgg75
  z24 := Try.sizeOf75
  v24 := Try.zeroValue75
  t26 := Try.underlying9
  a26 := Try.isAgg9
  z26 := Try.sizeOf9
  v26 := Try.zeroValue9
  t28 := Try.underlying140
  a28 := Try.isAgg140
  z28 := Try.sizeOf140
  v28 := Try.zeroValue140
  i26 := by kernel_rfl }
def Try.sort134_ren : Go.Shelf.Ren := ⟨fun | 6 => 134 | 8 => 158 | 9 => 157 | 19 => 173 | 20 => 174 | 21 => 164 | 22 => 165 | 23 => 166 | 24 => 167 | 25 => 168 | 26 => 169 | 27 => 170 | 28 => 171 | 29 => 172 | 36 => 177 | 31 => 178 | 32 => 179 | 37 => 180 | 38 => 181 | 39 => 182 | 41 => 183 | n => n, fun | 27 => 75 | 29 => 9 | 3 => 3 | 32 => 99 | 26 => 75 | 0 => 0 | 44 => 181 | 46 => 35 | 4 => 4 | 36 => 209 | 35 => 208 | 41 => 71 | 5 => 5 | 9 => 9 | 53 => 218 | 57 => 221 | 63 => 223 | 64 => 224 | n => n, fun | n => n⟩
theorem Try.sort134 : Go.Proofs.SlLaysM.n6 Try.prog Try.sort134_ren := {
  mixed := by kernel_rfl
  f6 := ⟨Try.f134.name, by decide, Try.func134.trans (congrArg some (by kernel_rfl))⟩
  f8 := Try.func158.trans (congrArg some (by kernel_rfl))
  f9 := ⟨Try.f157.name, by decide, Try.func157.trans (congrArg some (by kernel_rfl))⟩
  f19 := Try.func173.trans (congrArg some (by kernel_rfl))
  f20 := Try.func174.trans (congrArg some (by kernel_rfl))
  f21 := ⟨Try.f164.name, by decide, Try.func164.trans (congrArg some (by kernel_rfl))⟩
  f22 := ⟨Try.f165.name, by decide, Try.func165.trans (congrArg some (by kernel_rfl))⟩
  f23 := ⟨Try.f166.name, by decide, Try.func166.trans (congrArg some (by kernel_rfl))⟩
  f24 := ⟨Try.f167.name, by decide, Try.func167.trans (congrArg some (by kernel_rfl))⟩
  f25 := ⟨Try.f168.name, by decide, Try.func168.trans (congrArg some (by kernel_rfl))⟩
  f26 := ⟨Try.f169.name, by decide, Try.func169.trans (congrArg some (by kernel_rfl))⟩
  f27 := ⟨Try.f170.name, by decide, Try.func170.trans (congrArg some (by kernel_rfl))⟩
  f28 := ⟨Try.f171.name, by decide, Try.func171.trans (congrArg some (by kernel_rfl))⟩
  f29 := ⟨Try.f172.name, by decide, Try.func172.trans (congrArg some (by kernel_rfl))⟩
  f31 := Try.func178.trans (congrArg some (by kernel_rfl))
  f32 := Try.func179.trans (congrArg some (by kernel_rfl))
  f36 := ⟨Try.f177.name, by decide, Try.func177.trans (congrArg some (by kernel_rfl))⟩
  f37 := ⟨Try.f180.name, by decide, Try.func180.trans (congrArg some (by kernel_rfl))⟩
  f38 := ⟨Try.f181.name, by decide, Try.func181.trans (congrArg some (by kernel_rfl))⟩
  f39 := ⟨Try.f182.name, by decide, Try.func182.trans (congrArg some (by kernel_rfl))⟩
  f41 := ⟨Try.f183.name, by decide, Try.func183.trans (congrArg some (by kernel_rfl))⟩
  t0 := Try.underlying0
  a0 := Try.isAgg0
  z0 := Try.sizeOf0
  v0 := Try.zeroValue0
  t3 := Try.underlying3
  a3 := Try.isAgg3
  z3 := Try.sizeOf3
  v3 := Try.zeroValue3
  t4 := Try.underlying4
  a4 := Try.isAgg4
  z4 := Try.sizeOf4
  v4 := Try.zeroValue4
  t5 := Try.underlying5
  a5 := Try.isAgg5
  z5 := Try.sizeOf5
  v5 := Try.zeroValue5
  t9 := Try.underlying9
  a9 := Try.isAgg9
  z9 := Try.sizeOf9
  v9 := Try.zeroValue9
  t26 := Try.underlying75
  a26 := Try.isAgg75
  z26 := Try.sizeOf75
  v26 := Try.zeroValue75
  t27 := Try.underlying75
  a27 := Try.isAgg75
  z27 := Try.sizeOf75
  v27 := Try.zeroValue75
  t29 := Try.underlying9
  a29 := Try.isAgg9
  z29 := Try.sizeOf9
  v29 := Try.zeroValue9
  t32 := Try.underlying99
  a32 := Try.isAgg99
  z32 := Try.sizeOf99
  v32 := Try.zeroValue99
  t35 := Try.underlying208
  a35 := Try.isAgg208
  z35 := Try.sizeOf208
  v35 := Try.zeroValue208
  t36 := Try.underlying209
  a36 := Try.isAgg209
  z36 := Try.sizeOf209
  v36 := Try.zeroValue209
  t41 := Try.underlying71
  a41 := Try.isAgg71
  z41 := Try.sizeOf71
  v41 := Try.zeroValue71
  t44 := Try.underlying181
  a44 := Try.isAgg181
  z44 := Try.sizeOf181
  v44 := Try.zeroValue181
  t46 := Try.underlying35
  a46 := Try.isAgg35
  z46 := Try.sizeOf35
  v46 := Try.zeroValue35
  t53 := Try.underlying218
  a53 := Try.isAgg218
  z53 := Try.sizeOf218
  v53 := Try.zeroValue218
  t57 := Try.underlying221
  a57 := Try.isAgg221
  z57 := Try.sizeOf221
  v57 := Try.zeroValue221
  t63 := Try.underlying223
  a63 := Try.isAgg223
  z63 := Try.sizeOf223
  v63 := Try.zeroValue223
  t64 := Try.underlying224
  a64 := Try.isAgg224
  z64 := Try.sizeOf224
  v64 := Try.zeroValue224 }
end Go.Proofs
