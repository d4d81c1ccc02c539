/-
  What the laws of layer 13 are asked: in memory.
-/
import Derived.Test.YtnkndplbcbehkaaDoorLawK
set_option linter.unusedVariables false
set_option linter.unusedSimpArgs false
namespace Go.Proofs.YtnkndplbcbehkaaDoor
open Go.RowKit Go.Cas
set_option maxHeartbeats 2000000
set_option maxRecDepth 20000

/-- What is asked for. -/
structure OpR where
  leaf : Int
  kind : Int
  gen : Int
  next : Bool
deriving DecidableEq, Inhabited

instance : Rp OpR where
  sz := 4
  rep _ _ cs x := cs = [.int .i64 x.leaf, .int .i64 x.kind, .int .i64 x.gen, .bool x.next]
  len h := by subst h; rfl
  step h _ _ := h
  one h := by subst h; simp [Value.oneCell']

/-- A slice of them, that came in. -/
def OpsAt (w : World) (v : Value) (l : List OpR) : Prop :=
  ∃ a c, v = .slice a l.length c ∧ l.length ≤ c ∧ l.length ≤ maxLen ∧ (0 < l.length → ∃ b off, a = some ⟨b, off, none⟩ ∧
    ∀ i x, l[i]? = some x → ∀ j u, [Value.int .i64 x.leaf, .int .i64 x.kind, .int .i64 x.gen, .bool x.next][j]? = some u → w.cell? ⟨b, off + (i * 4 + j), none⟩ = some u)

end Go.Proofs.YtnkndplbcbehkaaDoor
