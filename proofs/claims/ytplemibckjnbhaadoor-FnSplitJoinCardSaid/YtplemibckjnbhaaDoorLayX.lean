/- The table of the functions, types and variables of stringslite.Index, at this seat (laid in plain words by mklayn.py). No condition. -/
import Derived.Test.YtplemibckjnbhaaDoorProg
import Derived.Shelf.Strings.Search3
namespace Go.Proofs.YtplemibckjnbhaaDoor
open Go.Shelf
def layX_ren : Go.Shelf.Ren := ⟨fun | 219 => 116 | 217 => 136 | 225 => 137 | 224 => 138 | 267 => 139 | 266 => 148 | 314 => 149 | n => n, fun | 9 => 9 | 3 => 3 | 4 => 4 | 5 => 5 | 46 => 119 | 146 => 146 | 51 => 145 | n => n, fun | 1 => 0 | n => n⟩
theorem layX : Lays.n219 Tryd.prog layX_ren :=
  {
    mixed := by kernel_rfl
    f217 := Tryd.func136.trans (congrArg some (by kernel_rfl))
    f219 := Tryd.func116.trans (congrArg some (by kernel_rfl))
    f224 := Tryd.func138.trans (congrArg some (by kernel_rfl))
    f225 := Tryd.func137.trans (congrArg some (by kernel_rfl))
    f266 := Tryd.func148.trans (congrArg some (by kernel_rfl))
    f267 := Tryd.func139.trans (congrArg some (by kernel_rfl))
    f314 := Tryd.func149.trans (congrArg some (by kernel_rfl))
    t3 := Tryd.underlying3
    a3 := Tryd.isAgg3
    z3 := Tryd.sizeOf3
    v3 := Tryd.zeroValue3
    t4 := Tryd.underlying4
    a4 := Tryd.isAgg4
    z4 := Tryd.sizeOf4
    v4 := Tryd.zeroValue4
    t5 := Tryd.underlying5
    a5 := Tryd.isAgg5
    z5 := Tryd.sizeOf5
    v5 := Tryd.zeroValue5
    t9 := Tryd.underlying9
    a9 := Tryd.isAgg9
    z9 := Tryd.sizeOf9
    v9 := Tryd.zeroValue9
    t46 := Tryd.underlying119
    a46 := Tryd.isAgg119
    z46 := Tryd.sizeOf119
    v46 := Tryd.zeroValue119
    t51 := Tryd.underlying145
    a51 := Tryd.isAgg145
    z51 := Tryd.sizeOf145
    v51 := Tryd.zeroValue145
    t146 := Tryd.underlying146
    a146 := Tryd.isAgg146
    z146 := Tryd.sizeOf146
    v146 := Tryd.zeroValue146
    g1 := by kernel_rfl }
end Go.Proofs.YtplemibckjnbhaaDoor
