/- The table of the functions, types and variables of Derived.Shelf.Strings.OnBuilder's function, at this seat (laid in plain words by mklayn.py). No condition. -/
import Derived.Test.YtplemibckjnbhaaDoorProg
import Derived.Shelf.Strings.OnBuilder
import Derived.Shelf.Vars
namespace Go.Proofs.YtplemibckjnbhaaDoor
open Go.Shelf
def layJ_ren : Go.Shelf.Ren := ⟨fun | 156 => 54 | 165 => 95 | 166 => 96 | 169 => 97 | 240 => 117 | 241 => 118 | 276 => 140 | 277 => 141 | n => n, fun | 31 => 26 | 9 => 9 | 3 => 3 | 4 => 4 | 0 => 0 | 20 => 20 | 72 => 113 | 76 => 102 | 70 => 111 | 37 => 22 | 75 => 101 | 127 => 122 | 164 => 135 | 5 => 5 | 80 => 72 | n => n, fun | n => n⟩
theorem layJ : Lays.n156 Tryd.prog layJ_ren :=
  {
    mixed := by kernel_rfl
    f156 := Tryd.func54.trans (congrArg some (by kernel_rfl))
    f165 := Tryd.func95.trans (congrArg some (by kernel_rfl))
    f166 := Tryd.func96.trans (congrArg some (by kernel_rfl))
    f169 := Tryd.func97.trans (congrArg some (by kernel_rfl))
    f240 := Tryd.func117.trans (congrArg some (by kernel_rfl))
    f241 := Tryd.func118.trans (congrArg some (by kernel_rfl))
    f276 := Tryd.func140.trans (congrArg some (by kernel_rfl))
    f277 := Tryd.func141.trans (congrArg some (by kernel_rfl))
    t0 := Tryd.underlying0
    a0 := Tryd.isAgg0
    z0 := Tryd.sizeOf0
    v0 := Tryd.zeroValue0
    t3 := Tryd.underlying3
    a3 := Tryd.isAgg3
    z3 := Tryd.sizeOf3
    v3 := Tryd.zeroValue3
    t4 := Tryd.underlying4
    a4 := Tryd.isAgg4
    z4 := Tryd.sizeOf4
    v4 := Tryd.zeroValue4
    t9 := Tryd.underlying9
    a9 := Tryd.isAgg9
    z9 := Tryd.sizeOf9
    v9 := Tryd.zeroValue9
    t20 := Tryd.underlying20
    a20 := Tryd.isAgg20
    z20 := Tryd.sizeOf20
    v20 := Tryd.zeroValue20
    t31 := Tryd.underlying26
    a31 := Tryd.isAgg26
    z31 := Tryd.sizeOf26
    v31 := Tryd.zeroValue26
    t37 := Tryd.underlying22
    a37 := Tryd.isAgg22
    z37 := Tryd.sizeOf22
    v37 := Tryd.zeroValue22
    t70 := Tryd.underlying111
    a70 := Tryd.isAgg111
    z70 := Tryd.sizeOf111
    v70 := Tryd.zeroValue111
    t72 := Tryd.underlying113
    a72 := Tryd.isAgg113
    z72 := Tryd.sizeOf113
    v72 := Tryd.zeroValue113
    t75 := Tryd.underlying101
    a75 := Tryd.isAgg101
    z75 := Tryd.sizeOf101
    v75 := Tryd.zeroValue101
    t76 := Tryd.underlying102
    a76 := Tryd.isAgg102
    z76 := Tryd.sizeOf102
    v76 := Tryd.zeroValue102
    t127 := Tryd.underlying122
    a127 := Tryd.isAgg122
    z127 := Tryd.sizeOf122
    v127 := Tryd.zeroValue122
    t164 := Tryd.underlying135
    a164 := Tryd.isAgg135
    z164 := Tryd.sizeOf135
    v164 := Tryd.zeroValue135 }
theorem layJX : Builder.Extra Tryd.prog layJ_ren :=
  { sizeBuilder := by kernel_rfl
    liesBuilder := by kernel_rfl
    t5 := Tryd.underlying5
    a5 := Tryd.isAgg5
    z5 := Tryd.sizeOf5
    v5 := Tryd.zeroValue5
    infoByte := by kernel_rfl
    cellsByte := by kernel_rfl
    sizeByte := by kernel_rfl
    neB5 := by decide }
end Go.Proofs.YtplemibckjnbhaaDoor
