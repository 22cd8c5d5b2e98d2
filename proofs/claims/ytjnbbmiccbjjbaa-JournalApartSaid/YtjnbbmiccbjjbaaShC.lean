/- The shelf of contracts, laid at this program: plain declarations. -/
import Derived.Shelf.SlMaps.Clone
import Derived.Ground.SlmcProg
import Derived.Test.YtjnbbmiccbjjbaaProg
namespace Go.Proofs.Ytjnbbmiccbjjbaa.Sh
open Go.Proofs Go.Shelf
def cloneM_ren : Go.Shelf.Ren := ⟨fun | 5 => 57 | 7 => 69 | n => n, fun | 23 => 74 | 25 => 3 | 3 => 79 | 4 => 4 | 20 => 20 | n => n, fun | n => n⟩
theorem cloneM : Go.Proofs.SlLaysW.n5 Try.prog cloneM_ren := {
  mixed := by kernel_rfl
  f5 := ⟨Try.f57.name, by decide, Try.func57.trans (congrArg some (by kernel_rfl))⟩
  f7 := Try.func69.trans (congrArg some (by kernel_rfl))
  t4 := Try.underlying4
  a4 := Try.isAgg4
  z4 := Try.sizeOf4
  v4 := Try.zeroValue4
  t20 := Try.underlying20
  a20 := Try.isAgg20
  z20 := Try.sizeOf20
  v20 := Try.zeroValue20
  t23 := Try.underlying74
  a23 := Try.isAgg74
  z23 := Try.sizeOf74
  v23 := Try.zeroValue74 }
end Go.Proofs.Ytjnbbmiccbjjbaa.Sh
