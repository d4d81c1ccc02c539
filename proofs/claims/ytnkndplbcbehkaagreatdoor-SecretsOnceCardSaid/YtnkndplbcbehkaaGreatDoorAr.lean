/-
  Arenas in memory: terms' nodes, and what an arena's block, row and map hold.
-/
import Derived.Test.YtnkndplbcbehkaaGreatDoorRows
import Derived.Test.YtnkndplbcbehkaaGreatDoorBase
import Derived.Test.YtnkndplbcbehkaaGreatDoorOps
import Derived.Test.YtnkndplbcbehkaaGreatDoorPlain
import Derived.WalkSpells
import Derived.WalkLawsBesides
import Derived.Maps.OwnSet
import Derived.Lib.AppendIntMem
import Derived.Shelf.Spec.TrailingZeros
import Derived.Deep.AppendLies
set_option linter.unusedVariables false
set_option linter.unusedSimpArgs false
namespace Go.Proofs.YtnkndplbcbehkaaGreatDoor
open Go.RowKit Go.Cas

instance : Rp Nd where
  sz := 4
  rep K w cs x := ∃ v, cs = [.int .i64 x.op, .int .i64 x.n, .string x.s, v] ∧ SlRep K w v x.l
  len h := by obtain ⟨v, rfl, _⟩ := h; rfl
  step h hk hK := by obtain ⟨v, rfl, h⟩ := h; exact ⟨v, rfl, h.step hk hK⟩
  one h := by
    obtain ⟨v, rfl, h⟩ := h
    obtain ⟨a, c, rfl, _⟩ := h.form
    simp [Value.oneCell']

/-- An arena: T its type's number, key its nodes' texts; p its block, F what is mutable. -/
def IsArG (T : TypeId) (key : Nd → List UInt8) (w : World) (p : Nat) (F : Nat → Prop) (L : List Nd) : Prop :=
  ∃ (v : Value) (m : Nat) (xs : List Value), w.heap[p]? = some (.cells #[v, .map (some m)] T (0, 0)) ∧
    w.ownsRow 0 54 4 v L.length xs ∧ Reps (fun b => ¬ F b) w xs L ∧ w.ownsMap Tryz.prog 9 (plainElem Tryz.prog 3) m L.length (keyMap key L) ∧
    F p ∧ F m ∧ (∀ b, v.ownBlock = some b → F b) ∧ (∀ b, F b → b < w.heap.size) ∧ L.length ≤ 100000 ∧ Wf L

/-- What the walks need of the package-level tables. -/
structure Env (F : Nat → Prop) (w : World) : Prop where
  pow : Lib.TabIs Tryz.prog w "internal/strconv.uint64pow10" .u64 Lib.pow10Tab
  powF : ∀ g, Tryz.prog.globalNamed "internal/strconv.uint64pow10" = some g → ¬ F g
  bru : Go.Proofs.TabAt 1 Lib.deBruijn64tab w
  bruF : ¬ F 1
end Go.Proofs.YtnkndplbcbehkaaGreatDoor
