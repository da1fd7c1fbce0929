/- The tables of the functions and types of slices.BinarySearch, slices.Insert and slices.DeleteFunc at ints, at this seat (laid in plain words by mklayn.py). No condition. -/
import Derived.Test.YtdbcilinoieabaaProg
import Derived.Shelf.Lays2
import Derived.Shelf.SlLaysH
namespace Go.Proofs.Ytdbcilinoieabaa
open Go.Shelf
def layBS_ren : Go.Shelf.Ren := ⟨fun | 25 => 182 | 31 => 212 | 32 => 213 | 37 => 208 | n => n, fun | 22 => 52 | 3 => 3 | 4 => 4 | 40 => 178 | 0 => 0 | n => n, fun | n => n⟩
theorem layBS : Lays2.n25 Try.prog layBS_ren :=
  {
    mixed := by kernel_rfl
    f25 := Try.func182.trans (congrArg some (by kernel_rfl))
    f31 := Try.func212.trans (congrArg some (by kernel_rfl))
    f32 := Try.func213.trans (congrArg some (by kernel_rfl))
    f37 := Try.func208.trans (congrArg some (by kernel_rfl))
    t0 := Try.underlying0
    a0 := Try.isAgg0
    z0 := Try.sizeOf0
    v0 := Try.zeroValue0
    t3 := Try.underlying3
    a3 := Try.isAgg3
    z3 := Try.sizeOf3
    v3 := Try.zeroValue3
    t4 := Try.underlying4
    a4 := Try.isAgg4
    z4 := Try.sizeOf4
    v4 := Try.zeroValue4
    t22 := Try.underlying52
    a22 := Try.isAgg52
    z22 := Try.sizeOf52
    v22 := Try.zeroValue52
    t40 := Try.underlying178
    a40 := Try.isAgg178
    z40 := Try.sizeOf178
    v40 := Try.zeroValue178 }
def layIN_ren : Go.Shelf.Ren := ⟨fun | 21 => 183 | 27 => 214 | 28 => 215 | 35 => 227 | 39 => 240 | n => n, fun | 22 => 52 | 3 => 3 | 4 => 4 | 0 => 0 | n => n, fun | n => n⟩
theorem layIN : Lays2.n21 Try.prog layIN_ren :=
  {
    mixed := by kernel_rfl
    f21 := Try.func183.trans (congrArg some (by kernel_rfl))
    f27 := Try.func214.trans (congrArg some (by kernel_rfl))
    f28 := Try.func215.trans (congrArg some (by kernel_rfl))
    f35 := Try.func227.trans (congrArg some (by kernel_rfl))
    f39 := Try.func240.trans (congrArg some (by kernel_rfl))
    t0 := Try.underlying0
    a0 := Try.isAgg0
    z0 := Try.sizeOf0
    v0 := Try.zeroValue0
    t3 := Try.underlying3
    a3 := Try.isAgg3
    z3 := Try.sizeOf3
    v3 := Try.zeroValue3
    t4 := Try.underlying4
    a4 := Try.isAgg4
    z4 := Try.sizeOf4
    v4 := Try.zeroValue4
    t22 := Try.underlying52
    a22 := Try.isAgg52
    z22 := Try.sizeOf52
    v22 := Try.zeroValue52
    i3 := by kernel_rfl }
def layDF_ren : Go.Shelf.Ren := ⟨fun | 10 => 122 | 6 => 191 | n => n, fun | 22 => 52 | 23 => 3 | 25 => 103 | 3 => 3 | 4 => 4 | 0 => 0 | n => n, fun | n => n⟩
theorem layDF : SlLaysH.n10 Try.prog layDF_ren :=
  {
    mixed := by kernel_rfl
    f6 := ⟨Try.f191.name, by kernel_rfl, Try.func191.trans (congrArg some (by kernel_rfl))⟩
    f10 := ⟨Try.f122.name, by kernel_rfl, Try.func122.trans (congrArg some (by kernel_rfl))⟩
    t0 := Try.underlying0
    a0 := Try.isAgg0
    z0 := Try.sizeOf0
    v0 := Try.zeroValue0
    t3 := Try.underlying3
    a3 := Try.isAgg3
    z3 := Try.sizeOf3
    v3 := Try.zeroValue3
    t4 := Try.underlying4
    a4 := Try.isAgg4
    z4 := Try.sizeOf4
    v4 := Try.zeroValue4
    t22 := Try.underlying52
    a22 := Try.isAgg52
    z22 := Try.sizeOf52
    v22 := Try.zeroValue52
    a23 := Try.isAgg3
    z23 := Try.sizeOf3
    t25 := Try.underlying103
    a25 := Try.isAgg103
    z25 := Try.sizeOf103
    v25 := Try.zeroValue103 }
end Go.Proofs.Ytdbcilinoieabaa
