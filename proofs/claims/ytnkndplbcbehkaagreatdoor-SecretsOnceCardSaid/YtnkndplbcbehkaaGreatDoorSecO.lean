/-
  secrets: Key, whole; New; Next.
-/
import Derived.Test.YtnkndplbcbehkaaGreatDoorSecN
import Derived.Test.YtnkndplbcbehkaaGreatDoorSecN2
set_option linter.unusedVariables false
set_option linter.unusedSimpArgs false
namespace Go.Proofs.YtnkndplbcbehkaaGreatDoor
open Go.RowKit Go.Cas
set_option maxHeartbeats 4000000
set_option maxRecDepth 20000

/-- What is said of a key ring. -/
structure Rg (r : Kr) : Prop where
  leaves : r.leaves ≤ 100000
  nodes : r.nodes.length ≤ 1000
  chains : r.chains.length ≤ 900
  kept : ∀ c ∈ r.chains, c.kept.length ≤ 100 ∧ 0 ≤ c.gen ∧ c.gen ≤ 100000

theorem sKey_any (N : Nat → Prop) (p : Nat) (L : List Nd) (w : World) (r : Kr) (v u : Value) (leaf kind gen : Int) (hN : Nw N w p) (hE : Env (fun b => ArB w p b ∨ N b) w) (ha : IsArG 82 nkey w p (fun b => ArB w p b ∨ N b) L)
    (hv : SlRep (fun b => ¬ (ArB w p b ∨ N b)) w v r.nodes) (hu : SlRep (fun b => ¬ (ArB w p b ∨ N b)) w u r.chains) (hr : Rg r) (b4 : gen ≤ 9223372036854775807) :
    Calls Tryz.prog 7 #[.pointer (some ⟨p, 0, none⟩), .agg #[.int .i64 r.leaves, v, u], .int .i64 leaf, .int .i64 kind, .int .i64 gen] w (KeyPost N w p (keyR L r leaf kind gen)) := by
  by_cases hb : leaf < 0 ∨ r.leaves ≤ leaf ∨ (kind ≠ 0 ∧ kind ≠ 1) ∨ gen < 0
  · exact sKey_bad N p L w r v u leaf kind gen hN ha hv hu hb
  · have hkr : keyR L r leaf kind gen = keyE (if findR r.chains leaf kind < 0 then beginR L 0 r leaf else (0, r, L, 0)) leaf kind gen := by unfold keyR; rw [if_neg hb]
    rw [hkr]
    have hkd : kind = 0 ∨ kind = 1 := by omega
    by_cases hf : findR r.chains leaf kind < 0
    · rw [if_pos hf]
      by_cases hq : (beginR L 0 r leaf).1 = 0
      · obtain ⟨_, jb, ca, cb, _, hcb⟩ := beginR_chains hq
        obtain ⟨j, c, hfj, hcj, _⟩ := findR_at (l := (beginR L 0 r leaf).2.1.chains) (leaf := leaf) (kind := kind) (by rw [hcb]; exact findR_begin hkd)
        obtain ⟨c1, c2, c3⟩ := begin_bounds hcb hr.kept c (List.mem_of_getElem? hcj)
        rw [keyE_at hq hfj hcj rfl]
        exact sKey_begin N p L w r v u leaf kind gen hN hE ha hv hu hb hr.leaves hr.nodes hr.chains hr.kept b4 hf hq j c hfj hcj c1 c2 c3
      · have hres : keyE (beginR L 0 r leaf) leaf kind gen = (⟨0, 0, 0⟩, ⟨0, [], []⟩, (beginR L 0 r leaf).1, (beginR L 0 r leaf).2.2.1) := by unfold keyE; rw [if_neg hq]
        rw [hres]
        exact sKey_beginErr N p L w r v u leaf kind gen hN hE ha hv hu hb hr.leaves hr.nodes hr.chains hr.kept b4 hf hq
    · rw [if_neg hf]
      obtain ⟨j, c, hfj, hcj, _⟩ := findR_at hf
      obtain ⟨c1, c2, c3⟩ := hr.kept c (List.mem_of_getElem? hcj)
      rw [keyE_at (b := (0, r, L, 0)) rfl hfj hcj rfl]
      exact sKey_found N p L w r v u leaf kind gen hN hE ha hv hu hb hr.leaves hr.nodes hr.chains hr.kept b4 j c hfj hcj c1 c2 c3

end Go.Proofs.YtnkndplbcbehkaaGreatDoor
