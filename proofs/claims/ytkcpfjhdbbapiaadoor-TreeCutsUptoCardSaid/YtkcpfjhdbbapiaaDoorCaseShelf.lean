/- The laying of the case table at this program's numbers. -/
import Derived.Lib.LaidCaseMet
import Derived.Test.YtkcpfjhdbbapiaaDoorProg
namespace Go.Proofs
open Go.Shelf
def Tryd.lays274g_ren : Go.Shelf.Ren := ⟨fun | 274 => 85 | n => n, fun | 21 => 21 | 162 => 107 | 160 => 105 | 3 => 3 | 4 => 4 | 46 => 99 | 0 => 0 | 208 => 124 | 51 => 120 | 206 => 122 | n => n, fun | 13 => 7 | n => n⟩
theorem Tryd.lays274g : Go.Proofs.Lays.n274 Tryd.prog Tryd.lays274g_ren := {
  mixed := by kernel_rfl
  f274 := Tryd.func85.trans (congrArg some (by kernel_rfl))
  t0 := Tryd.underlying0
  a0 := Tryd.isAgg0
  z0 := Tryd.sizeOf0
  v0 := Tryd.zeroValue0
  t3 := Tryd.underlying3
  a3 := Tryd.isAgg3
  z3 := Tryd.sizeOf3
  v3 := Tryd.zeroValue3
  t4 := Tryd.underlying4
  a4 := Tryd.isAgg4
  z4 := Tryd.sizeOf4
  v4 := Tryd.zeroValue4
  t21 := Tryd.underlying21
  a21 := Tryd.isAgg21
  z21 := Tryd.sizeOf21
  v21 := Tryd.zeroValue21
  t46 := Tryd.underlying99
  a46 := Tryd.isAgg99
  z46 := Tryd.sizeOf99
  v46 := Tryd.zeroValue99
  t51 := Tryd.underlying120
  a51 := Tryd.isAgg120
  z51 := Tryd.sizeOf120
  v51 := Tryd.zeroValue120
  t160 := Tryd.underlying105
  a160 := Tryd.isAgg105
  z160 := Tryd.sizeOf105
  v160 := Tryd.zeroValue105
  t162 := Tryd.underlying107
  a162 := Tryd.isAgg107
  z162 := Tryd.sizeOf107
  v162 := Tryd.zeroValue107
  t208 := Tryd.underlying124
  a208 := Tryd.isAgg124
  z208 := Tryd.sizeOf124
  v208 := Tryd.zeroValue124 }
end Go.Proofs
