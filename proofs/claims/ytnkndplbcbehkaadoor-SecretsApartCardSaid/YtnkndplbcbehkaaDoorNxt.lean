/-
  The next keys of a sender, computed: every number of leaves, every leaf, both kinds, twenty steps.
-/
import Derived.Test.YtnkndplbcbehkaaDoorLawL
set_option linter.unusedVariables false
set_option linter.unusedSimpArgs false
namespace Go.Proofs.YtnkndplbcbehkaaDoor
open Go.RowKit Go.Cas
set_option maxRecDepth 20000

/-- One step: the next key, and the key of number i, and that they are the same. -/
def nxOk (leaf kind : Int) (i : Nat) (L : List Nd) (r : Kr) : Bool :=
  let a := keyR L r leaf kind (nextG r leaf kind)
  let b := keyR a.2.2.2 r leaf kind (i : Int)
  rgB r && decide (a.2.2.1 = 0) && decide (b.2.2.1 = 0) && decide (a.1 = b.1) && decide (a.1.gen = (i : Int)) && decide (a.2.1 = b.2.1) && rgB a.2.1

def nxL (leaf kind : Int) (i : Nat) (L : List Nd) (r : Kr) : List Nd := (keyR (keyR L r leaf kind (nextG r leaf kind)).2.2.2 r leaf kind (i : Int)).2.2.2
def nxR (leaf kind : Int) (L : List Nd) (r : Kr) : Kr := (keyR L r leaf kind (nextG r leaf kind)).2.1

def nxB (leaf kind : Int) : Nat → Nat → List Nd → Kr → Bool
  | 0, _, _, _ => true
  | n + 1, i, L, r => nxOk leaf kind i L r && nxB leaf kind n (i + 1) (nxL leaf kind i L r) (nxR leaf kind L r)

set_option maxHeartbeats 0 in
theorem nx_1 : (List.range 1).all (fun leaf => nxB leaf 0 20 0 (atoms 3) (ring0 1) && nxB leaf 1 20 0 (atoms 3) (ring0 1)) = true := by decide +kernel
set_option maxHeartbeats 0 in
theorem nx_2 : (List.range 2).all (fun leaf => nxB leaf 0 20 0 (atoms 3) (ring0 2) && nxB leaf 1 20 0 (atoms 3) (ring0 2)) = true := by decide +kernel
set_option maxHeartbeats 0 in
theorem nx_4 : (List.range 4).all (fun leaf => nxB leaf 0 20 0 (atoms 3) (ring0 4) && nxB leaf 1 20 0 (atoms 3) (ring0 4)) = true := by decide +kernel
set_option maxHeartbeats 0 in
theorem nx_8_0 : (nxB 0 0 20 0 (atoms 3) (ring0 8) && nxB 0 1 20 0 (atoms 3) (ring0 8)) = true := by decide +kernel
set_option maxHeartbeats 0 in
theorem nx_8_1 : (nxB 1 0 20 0 (atoms 3) (ring0 8) && nxB 1 1 20 0 (atoms 3) (ring0 8)) = true := by decide +kernel
set_option maxHeartbeats 0 in
theorem nx_8_2 : (nxB 2 0 20 0 (atoms 3) (ring0 8) && nxB 2 1 20 0 (atoms 3) (ring0 8)) = true := by decide +kernel
set_option maxHeartbeats 0 in
theorem nx_8_3 : (nxB 3 0 20 0 (atoms 3) (ring0 8) && nxB 3 1 20 0 (atoms 3) (ring0 8)) = true := by decide +kernel
set_option maxHeartbeats 0 in
theorem nx_8_4 : (nxB 4 0 20 0 (atoms 3) (ring0 8) && nxB 4 1 20 0 (atoms 3) (ring0 8)) = true := by decide +kernel
set_option maxHeartbeats 0 in
theorem nx_8_5 : (nxB 5 0 20 0 (atoms 3) (ring0 8) && nxB 5 1 20 0 (atoms 3) (ring0 8)) = true := by decide +kernel
set_option maxHeartbeats 0 in
theorem nx_8_6 : (nxB 6 0 20 0 (atoms 3) (ring0 8) && nxB 6 1 20 0 (atoms 3) (ring0 8)) = true := by decide +kernel
set_option maxHeartbeats 0 in
theorem nx_8_7 : (nxB 7 0 20 0 (atoms 3) (ring0 8) && nxB 7 1 20 0 (atoms 3) (ring0 8)) = true := by decide +kernel

theorem nx_all {lv leaf kind : Int} (h1 : lv = 1 ∨ lv = 2 ∨ lv = 4 ∨ lv = 8) (h2 : 0 ≤ leaf) (h3 : leaf < lv) (h4 : kind = 0 ∨ kind = 1) : nxB leaf kind 20 0 (atoms 3) (ring0 lv) = true := by
  obtain ⟨k, rfl⟩ : ∃ k : Nat, leaf = k := ⟨leaf.toNat, by omega⟩
  have go : ∀ (m : Nat), (List.range m).all (fun leaf => nxB leaf 0 20 0 (atoms 3) (ring0 lv) && nxB leaf 1 20 0 (atoms 3) (ring0 lv)) = true → k < m → nxB k kind 20 0 (atoms 3) (ring0 lv) = true := by
    intro m hm hk
    rw [List.all_eq_true] at hm
    have := hm k (List.mem_range.2 hk)
    rw [Bool.and_eq_true] at this
    rcases h4 with rfl | rfl
    · exact this.1
    · exact this.2
  rcases h1 with rfl | rfl | rfl | rfl
  · exact go 1 nx_1 (by omega)
  · exact go 2 nx_2 (by omega)
  · exact go 4 nx_4 (by omega)
  · have e8 : ∀ (m : Nat), (nxB m 0 20 0 (atoms 3) (ring0 8) && nxB m 1 20 0 (atoms 3) (ring0 8)) = true → nxB m kind 20 0 (atoms 3) (ring0 8) = true := by
      intro m hm
      rw [Bool.and_eq_true] at hm
      rcases h4 with rfl | rfl
      · exact hm.1
      · exact hm.2
    rcases (by omega : k = 0 ∨ k = 1 ∨ k = 2 ∨ k = 3 ∨ k = 4 ∨ k = 5 ∨ k = 6 ∨ k = 7) with rfl | rfl | rfl | rfl | rfl | rfl | rfl | rfl
    · exact e8 0 nx_8_0
    · exact e8 1 nx_8_1
    · exact e8 2 nx_8_2
    · exact e8 3 nx_8_3
    · exact e8 4 nx_8_4
    · exact e8 5 nx_8_5
    · exact e8 6 nx_8_6
    · exact e8 7 nx_8_7

/-- What the steps come to. -/
def nxSt (leaf kind : Int) (lv : Int) : Nat → List Nd × Kr
  | 0 => (atoms 3, ring0 lv)
  | i + 1 => (nxL leaf kind i (nxSt leaf kind lv i).1 (nxSt leaf kind lv i).2, nxR leaf kind (nxSt leaf kind lv i).1 (nxSt leaf kind lv i).2)

theorem nxB_at {leaf kind lv : Int} : ∀ {n i : Nat}, nxB leaf kind n i (nxSt leaf kind lv i).1 (nxSt leaf kind lv i).2 = true → ∀ j, i ≤ j → j < i + n → nxOk leaf kind j (nxSt leaf kind lv j).1 (nxSt leaf kind lv j).2 = true
  | 0, i, _, j, h1, h2 => by omega
  | n + 1, i, h, j, h1, h2 => by
    rw [nxB, Bool.and_eq_true] at h
    by_cases e : j = i
    · subst e; exact h.1
    · exact nxB_at (n := n) (i := i + 1) h.2 j (by omega) (by omega)

/-- Each step. -/
theorem nx_step {lv leaf kind : Int} (h1 : lv = 1 ∨ lv = 2 ∨ lv = 4 ∨ lv = 8) (h2 : 0 ≤ leaf) (h3 : leaf < lv) (h4 : kind = 0 ∨ kind = 1) {i : Nat} (hi : i < 20) :
    let L := (nxSt leaf kind lv i).1
    let r := (nxSt leaf kind lv i).2
    let a := keyR L r leaf kind (nextG r leaf kind)
    let b := keyR a.2.2.2 r leaf kind (i : Int)
    Rg r ∧ a.2.2.1 = 0 ∧ b.2.2.1 = 0 ∧ a.1 = b.1 ∧ a.1.gen = (i : Int) ∧ a.2.1 = b.2.1 ∧ Rg a.2.1 ∧ nxSt leaf kind lv (i + 1) = (b.2.2.2, a.2.1) := by
  have h := nxB_at (i := 0) (nx_all h1 h2 h3 h4) i (Nat.zero_le _) (by omega)
  simp only [nxOk, Bool.and_eq_true, decide_eq_true_eq] at h
  exact ⟨rg_of h.1.1.1.1.1.1, h.1.1.1.1.1.2, h.1.1.1.1.2, h.1.1.1.2, h.1.1.2, h.1.2, rg_of h.2, rfl⟩

end Go.Proofs.YtnkndplbcbehkaaDoor
