/- The table of the functions, types and variables of Derived.Shelf.Strings.Split's function, at this seat (laid in plain words by mklayn.py). No condition. -/
import Derived.Test.YtplemibckjnbhaaDoorProg
import Derived.Shelf.Strings.Split
import Derived.Shelf.Vars
namespace Go.Proofs.YtplemibckjnbhaaDoor
open Go.Shelf
def layP_ren : Go.Shelf.Ren := ⟨fun | 146 => 50 | 221 => 92 | 268 => 114 | 138 => 115 | 143 => 94 | 195 => 133 | 197 => 134 | 218 => 135 | 219 => 116 | 260 => 147 | 217 => 136 | 225 => 137 | 224 => 138 | 267 => 139 | 266 => 148 | 314 => 149 | n => n, fun | 9 => 9 | 31 => 26 | 3 => 3 | 4 => 4 | 0 => 0 | 105 => 132 | 21 => 21 | 5 => 5 | 46 => 119 | 119 => 158 | 139 => 161 | 138 => 160 | 146 => 146 | 51 => 145 | n => n, fun | 1 => 0 | 3 => 3 | 4 => 4 | n => n⟩
theorem layP : Lays.n146 Tryd.prog layP_ren :=
  {
    mixed := by kernel_rfl
    f138 := Tryd.func115.trans (congrArg some (by kernel_rfl))
    f143 := Tryd.func94.trans (congrArg some (by kernel_rfl))
    f146 := Tryd.func50.trans (congrArg some (by kernel_rfl))
    f195 := Tryd.func133.trans (congrArg some (by kernel_rfl))
    f197 := Tryd.func134.trans (congrArg some (by kernel_rfl))
    f217 := Tryd.func136.trans (congrArg some (by kernel_rfl))
    f218 := Tryd.func135.trans (congrArg some (by kernel_rfl))
    f219 := Tryd.func116.trans (congrArg some (by kernel_rfl))
    f221 := Tryd.func92.trans (congrArg some (by kernel_rfl))
    f224 := Tryd.func138.trans (congrArg some (by kernel_rfl))
    f225 := Tryd.func137.trans (congrArg some (by kernel_rfl))
    f260 := Tryd.func147.trans (congrArg some (by kernel_rfl))
    f266 := Tryd.func148.trans (congrArg some (by kernel_rfl))
    f267 := Tryd.func139.trans (congrArg some (by kernel_rfl))
    f268 := Tryd.func114.trans (congrArg some (by kernel_rfl))
    f314 := Tryd.func149.trans (congrArg some (by kernel_rfl))
    t0 := Tryd.underlying0
    a0 := Tryd.isAgg0
    z0 := Tryd.sizeOf0
    v0 := Tryd.zeroValue0
    t3 := Tryd.underlying3
    a3 := Tryd.isAgg3
    z3 := Tryd.sizeOf3
    v3 := Tryd.zeroValue3
    t4 := Tryd.underlying4
    a4 := Tryd.isAgg4
    z4 := Tryd.sizeOf4
    v4 := Tryd.zeroValue4
    t5 := Tryd.underlying5
    a5 := Tryd.isAgg5
    z5 := Tryd.sizeOf5
    v5 := Tryd.zeroValue5
    t9 := Tryd.underlying9
    a9 := Tryd.isAgg9
    z9 := Tryd.sizeOf9
    v9 := Tryd.zeroValue9
    t21 := Tryd.underlying21
    a21 := Tryd.isAgg21
    z21 := Tryd.sizeOf21
    v21 := Tryd.zeroValue21
    t31 := Tryd.underlying26
    a31 := Tryd.isAgg26
    z31 := Tryd.sizeOf26
    v31 := Tryd.zeroValue26
    t46 := Tryd.underlying119
    a46 := Tryd.isAgg119
    z46 := Tryd.sizeOf119
    v46 := Tryd.zeroValue119
    t51 := Tryd.underlying145
    a51 := Tryd.isAgg145
    z51 := Tryd.sizeOf145
    v51 := Tryd.zeroValue145
    t105 := Tryd.underlying132
    a105 := Tryd.isAgg132
    z105 := Tryd.sizeOf132
    v105 := Tryd.zeroValue132
    t119 := Tryd.underlying158
    a119 := Tryd.isAgg158
    z119 := Tryd.sizeOf158
    t138 := Tryd.underlying160
    a138 := Tryd.isAgg160
    z138 := Tryd.sizeOf160
    v138 := Tryd.zeroValue160
    t139 := Tryd.underlying161
    a139 := Tryd.isAgg161
    z139 := Tryd.sizeOf161
    v139 := Tryd.zeroValue161
    t146 := Tryd.underlying146
    a146 := Tryd.isAgg146
    z146 := Tryd.sizeOf146
    v146 := Tryd.zeroValue146
    g1 := by kernel_rfl
    g3 := by kernel_rfl
    g4 := by kernel_rfl }
end Go.Proofs.YtplemibckjnbhaaDoor
