/-
  A contract of the library, laid for this program by the kit's shelf tool, in plain words. Conditions: none.
-/
import Derived.Shelf.Slices.Turned
import Derived.Test.YtallgjobljkgnaaProg
import Derived.Test.YtallgjobljkgnaaChecked
namespace Go.Proofs.Ytallgjobljkgnaa
open Go.Shelf
def conLays_ren : Go.Shelf.Ren := ⟨fun | 107 => 73 | 108 => 85 | n => n, fun | 28 => 24 | 3 => 3 | 4 => 4 | 0 => 0 | n => n, fun | n => n⟩
theorem conLays : Go.Proofs.Lays.n107 Try.prog conLays_ren := {
  mixed := by kernel_rfl
  f107 := Try.func73.trans (congrArg some (by kernel_rfl))
  f108 := Try.func85.trans (congrArg some (by kernel_rfl))
  t0 := Try.underlying0
  a0 := Try.isAgg0
  z0 := Try.sizeOf0
  v0 := Try.zeroValue0
  t3 := Try.underlying3
  a3 := Try.isAgg3
  z3 := Try.sizeOf3
  v3 := Try.zeroValue3
  t4 := Try.underlying4
  a4 := Try.isAgg4
  z4 := Try.sizeOf4
  v4 := Try.zeroValue4
  t28 := Try.underlying24
  a28 := Try.isAgg24
  z28 := Try.sizeOf24
  v28 := Try.zeroValue24 }
end Go.Proofs.Ytallgjobljkgnaa
