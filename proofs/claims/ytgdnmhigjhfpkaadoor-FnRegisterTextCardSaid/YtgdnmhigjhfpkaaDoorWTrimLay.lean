/- A contract of the library, laid at this program: which numbers its functions and types have here. -/
import Derived.Shelf.Strings.Prefix
import Derived.Test.YtgdnmhigjhfpkaaDoorChecked
namespace Go.Proofs.YtgdnmhigjhfpkaaDoor
open Go.Shelf
def trimLay_ren : Go.Shelf.Ren := ⟨fun | 101 => 33 | 208 => 40 | 206 => 49 | n => n, fun | 9 => 9 | 4 => 4 | 3 => 3 | n => n, fun | n => n⟩
theorem trimLay : Go.Proofs.Lays.n101 Tryd.prog trimLay_ren := {
  mixed := by kernel_rfl
  f101 := Tryd.func33.trans (congrArg some (by kernel_rfl))
  f206 := Tryd.func49.trans (congrArg some (by kernel_rfl))
  f208 := Tryd.func40.trans (congrArg some (by kernel_rfl))
  t3 := Tryd.underlying3
  a3 := Tryd.isAgg3
  z3 := Tryd.sizeOf3
  v3 := Tryd.zeroValue3
  t4 := Tryd.underlying4
  a4 := Tryd.isAgg4
  z4 := Tryd.sizeOf4
  v4 := Tryd.zeroValue4
  t9 := Tryd.underlying9
  a9 := Tryd.isAgg9
  z9 := Tryd.sizeOf9
  v9 := Tryd.zeroValue9 }
end Go.Proofs.YtgdnmhigjhfpkaaDoor
