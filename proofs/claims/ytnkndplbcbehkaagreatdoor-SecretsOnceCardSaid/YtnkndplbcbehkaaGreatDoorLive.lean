/-
  The chapter's example, computed.
-/
import Derived.Test.YtnkndplbcbehkaaGreatDoorSecQ0
import Derived.Test.YtnkndplbcbehkaaGreatDoorTwo
set_option linter.unusedVariables false
set_option linter.unusedSimpArgs false
namespace Go.Proofs.YtnkndplbcbehkaaGreatDoor
open Go.RowKit Go.Cas
set_option maxRecDepth 20000

def ring0 (lv : Int) : Kr := ⟨lv, [⟨lv - 1, 0⟩], []⟩
def lv1 := keyR (atoms 3) (ring0 2) 0 0 1
def lv2 := keyR lv1.2.2.2 lv1.2.1 0 0 1
def lv3 := keyR lv2.2.2.2 lv1.2.1 0 0 0
def lv4 := keyR lv3.2.2.2 lv3.2.1 0 0 0

theorem live_1 : lv1.2.2.1 = 0 ∧ lv1.1.gen = 1 := by decide +kernel
theorem live_2 : lv2.2.2.1 = 4 := by decide +kernel
theorem live_3 : lv3.2.2.1 = 0 ∧ lv3.1.gen = 0 ∧ lv1.1.key ≠ lv3.1.key ∧ (hasR lv3.2.1).length = 3 := by decide +kernel
theorem live_4 : lv4.2.2.1 = 4 := by decide +kernel

end Go.Proofs.YtnkndplbcbehkaaGreatDoor
