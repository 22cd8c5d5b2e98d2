/- The documented examples of package disk, on the plain disk. -/
import Derived.Test.YtjnbbmiccbjjbaaFiles
namespace Go.Proofs.Ytjnbbmiccbjjbaa.Disk
open Go.RowKit Go.Proofs Go.Proofs.Ytjnbbmiccbjjbaa.Ma Go.Proofs.Ytjnbbmiccbjjbaa.Wire Go.Proofs.Ytjnbbmiccbjjbaa.MapI
def e1 : Dsk := ⟨[(3, ⟨[1, 2], 0⟩)], 100, false, false, 0⟩
def e2 : Dsk := ⟨[(3, ⟨[1, 2], 2⟩)], 100, false, false, 0⟩
def e3 : Dsk := ⟨[(3, ⟨[1, 2, 255], 2⟩)], 100, false, false, 0⟩
def e4 : Dsk := ⟨[(3, ⟨[1, 2, 254], 3⟩)], 100, false, false, 0⟩
def e6 : Dsk := ⟨[(3, ⟨[1, 2], 2⟩)], 100, false, true, 0⟩
def e7 : Dsk := ⟨[(3, ⟨[1, 2], 2⟩)], 100, true, false, -1⟩
theorem liv_1 : appendD (newDsk 100) 3 [1, 2] = (0, e1) := by kernel_rfl
theorem liv_2 : syncD e1 = (0, e2) := by kernel_rfl
theorem liv_3 : appendD e2 3 [255] = (0, e3) := by kernel_rfl
theorem keys3 (f : Fl) : keysS [((3 : Int), f)] = [3] := by unfold keysS; simp
theorem liv_4 : crashD e3 [1] 7 = e4 := by
  unfold crashD
  rw [show keysS e3.fs = [3] from keys3 _]
  kernel_rfl
theorem liv_5 : crashD e3 [] 7 = e2 := by
  unfold crashD
  rw [show keysS e3.fs = [3] from keys3 _]
  kernel_rfl
theorem liv_6 : armD e2 0 = e6 := by kernel_rfl
theorem liv_7 : appendD e6 1 [] = (24, e7) := by kernel_rfl
theorem liv_8 : readD e4 3 = ([1, 2, 254], 0) := by kernel_rfl
theorem liv_9 : readD e2 3 = ([1, 2], 0) := by kernel_rfl
theorem liv_10 : readD e7 3 = ([], 24) := by kernel_rfl
end Go.Proofs.Ytjnbbmiccbjjbaa.Disk
