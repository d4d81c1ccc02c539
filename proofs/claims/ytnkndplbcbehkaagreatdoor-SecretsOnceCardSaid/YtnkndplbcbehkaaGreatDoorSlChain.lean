/-
  The library's slices functions at Chain: Clone, Delete, Insert, told by cells. (Printed by wip/tools/genslices.py.)
-/
import Derived.Test.YtnkndplbcbehkaaGreatDoorOps2
import Derived.Test.YtnkndplbcbehkaaGreatDoorMake
import Derived.Test.YtnkndplbcbehkaaGreatDoorRows
import Derived.WalkSpells
import Derived.Lib.LazyBuf
import Derived.Lib.Hide
import Derived.Lib.Overlaps
import Derived.Deep.RegionHeld3
set_option linter.unusedVariables false
set_option linter.unusedSimpArgs false
namespace Go.Proofs.YtnkndplbcbehkaaGreatDoor
open Go.RowKit Go.Cas
set_option maxHeartbeats 400000
set_option maxRecDepth 20000

theorem el_Chains : ElemT Tryz.prog 30 71 5 56 := ElemT.mk' Tryz.underlying30 (by kernel_rfl) (by decide)

end Go.Proofs.YtnkndplbcbehkaaGreatDoor
