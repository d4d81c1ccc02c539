/-
  How a key ring grows with the keys that it tells.
-/
import Derived.Test.YtnkndplbcbehkaaGreatDoorRel2
import Derived.Test.YtnkndplbcbehkaaGreatDoorSecO
set_option linter.unusedVariables false
set_option linter.unusedSimpArgs false
namespace Go.Proofs.YtnkndplbcbehkaaGreatDoor
open Go.RowKit Go.Cas
set_option maxRecDepth 20000

/-- A key ring that has told at most k keys. -/
structure Bd (k : Nat) (r : Kr) : Prop where
  leaves : r.leaves ≤ 100000
  nodes : r.nodes.length ≤ 1 + 10 * k
  chains : r.chains.length ≤ 2 * k
  kept : ∀ c ∈ r.chains, c.kept.length ≤ 8 ∧ 0 ≤ c.gen ∧ c.gen ≤ 9 * k

theorem Bd.rg {k : Nat} {r : Kr} (h : Bd k r) (hk : k ≤ 90) : Rg r := by
  obtain ⟨h1, h2, h3, h4⟩ := h
  refine ⟨h1, by omega, by omega, fun c hc => ?_⟩
  obtain ⟨a, b, d⟩ := h4 c hc
  exact ⟨by omega, b, by omega⟩

theorem Bd.mono {k m : Nat} {r : Kr} (h : Bd k r) (hk : k ≤ m) : Bd m r := by
  obtain ⟨h1, h2, h3, h4⟩ := h
  refine ⟨h1, by omega, by omega, fun c hc => ?_⟩
  obtain ⟨a, b, d⟩ := h4 c hc
  exact ⟨a, b, by omega⟩

theorem begL_len : ∀ (n : Nat) (leaf x s : Int) (nodes : List Sec) (L : List Nd) (e : Int) (s' : Int) (nodes' : List Sec), (begL n leaf x s nodes L e).1 = some (s', nodes') → nodes'.length ≤ nodes.length + n
  | 0, _, _, _, _, _, _, _, _, h => by rw [begL] at h; cases h
  | n + 1, leaf, x, s, nodes, L, e, s', nodes', h => by
    rw [begL] at h
    split at h
    · simp only [Option.some.injEq, Prod.mk.injEq] at h
      obtain ⟨_, rfl⟩ := h
      omega
    · split at h
      · dsimp only at h
        have := begL_len n _ _ _ _ _ _ _ _ h
        simp only [List.length_append, List.length_take, List.length_drop, List.length_cons, List.length_nil] at this
        omega
      · cases h

theorem beginR_len {L : List Nd} {e : Int} {r : Kr} {leaf : Int} (h : (beginR L e r leaf).1 = 0) : (beginR L e r leaf).2.1.nodes.length ≤ r.nodes.length + 10 := by
  unfold beginR at h ⊢
  dsimp only at h ⊢
  split
  · rename_i h1; rw [if_pos h1] at h; exact absurd h (by show ¬ (4 : Int) = 0; decide)
  · rename_i h1
    rw [if_neg h1] at h
    have hb := begL_len 10 leaf (r.nodes.getD (lastF (fun x => aboveB x.node leaf) r.nodes r.nodes.length).toNat default).node (r.nodes.getD (lastF (fun x => aboveB x.node leaf) r.nodes r.nodes.length).toNat default).sk
      (r.nodes.take (lastF (fun x => aboveB x.node leaf) r.nodes r.nodes.length).toNat ++ r.nodes.drop ((lastF (fun x => aboveB x.node leaf) r.nodes r.nodes.length).toNat + 1)) L e
    split
    · exact Nat.le_add_right _ _
    · rename_i s nodes hz
      have := hb s nodes hz
      simp only [List.length_append, List.length_take, List.length_drop] at this
      show nodes.length ≤ _
      omega

theorem runR_len : ∀ (n : Nat) (L : List Nd) (e : Int) (c : Ch), (runR n L e c).1.kept.length = c.kept.length + n ∧ (runR n L e c).1.gen = c.gen + n
  | 0, _, _, c => ⟨rfl, by simp [runR]⟩
  | n + 1, L, e, c => by
    rw [runR]
    obtain ⟨h1, h2⟩ := runR_len n (fwdR L e c.gen c.secret).2.2.1 (fwdR L e c.gen c.secret).2.2.2 ⟨c.leaf, c.kind, c.gen + 1, (fwdR L e c.gen c.secret).2.1, c.kept ++ [(fwdR L e c.gen c.secret).1]⟩
    constructor
    · rw [h1]; simp only [List.length_append, List.length_cons, List.length_nil]; omega
    · rw [h2]; show c.gen + 1 + (n : Int) = c.gen + ((n + 1 : Nat) : Int); omega

theorem takeR_len {L : List Nd} {e : Int} {c : Ch} {gen : Int} {k : Nat} (h : c.kept.length ≤ 8 ∧ 0 ≤ c.gen ∧ c.gen ≤ 9 * k) :
    (takeR L e c gen).2.2.1.kept.length ≤ 8 ∧ 0 ≤ (takeR L e c gen).2.2.1.gen ∧ (takeR L e c gen).2.2.1.gen ≤ 9 * ((k + 1 : Nat) : Int) := by
  obtain ⟨h1, h2, h3⟩ := h
  unfold takeR
  split
  · split
    · exact ⟨h1, h2, by show c.gen ≤ _; omega⟩
    · refine ⟨?_, h2, by show c.gen ≤ _; omega⟩
      simp only [List.length_append, List.length_take, List.length_drop]
      omega
  · split
    · exact ⟨h1, h2, by show c.gen ≤ _; omega⟩
    · dsimp only
      obtain ⟨a, b⟩ := runR_len (gen - c.gen).toNat L e c
      refine ⟨?_, ?_, ?_⟩
      · rw [List.length_drop]; omega
      · omega
      · omega

theorem keyR_bd {k : Nat} {L : List Nd} {r : Kr} {leaf kind gen : Int} (h : Bd k r) (h0 : (keyR L r leaf kind gen).2.2.1 = 0) : Bd (k + 1) (keyR L r leaf kind gen).2.1 := by
  unfold keyR at h0 ⊢
  split
  · rename_i hb; rw [if_pos hb] at h0; exact absurd h0 (by show ¬ (1 : Int) = 0; decide)
  · rename_i hb
    rw [if_neg hb] at h0
    have hk : kind = 0 ∨ kind = 1 := by omega
    have key : ∀ (b : Int × Kr × List Nd × Int), (b.1 = 0 → ¬ findR b.2.1.chains leaf kind < 0) → (b.1 = 0 → b.2.1.leaves ≤ 100000 ∧ b.2.1.nodes.length ≤ 1 + 10 * (k + 1) ∧ b.2.1.chains.length ≤ 2 * (k + 1) ∧ ∀ c ∈ b.2.1.chains, c.kept.length ≤ 8 ∧ 0 ≤ c.gen ∧ c.gen ≤ 9 * k) →
        (keyE b leaf kind gen).2.2.1 = 0 → Bd (k + 1) (keyE b leaf kind gen).2.1 := by
      intro b hf hbd he
      by_cases hb0 : b.1 = 0
      · obtain ⟨j, c, hfj, hcj, _, _⟩ := findR_at (hf hb0)
        obtain ⟨b1, b2, b3, b4⟩ := hbd hb0
        rw [keyE_at hb0 hfj hcj rfl] at he ⊢
        have ht := takeR_len (L := b.2.2.1) (e := b.2.2.2) (gen := gen) (b4 c (List.mem_of_getElem? hcj))
        generalize takeR b.2.2.1 b.2.2.2 c gen = t at ht he ⊢
        unfold keyT at he ⊢
        split
        · refine ⟨b1, b2, by show (b.2.1.chains.set j t.2.2.1).length ≤ _; rw [List.length_set]; exact b3, fun x hx => ?_⟩
          have hx' : x ∈ b.2.1.chains.set j t.2.2.1 := hx
          rcases List.mem_or_eq_of_mem_set hx' with hx' | hx'
          · obtain ⟨x1, x2, x3⟩ := b4 x hx'
            exact ⟨x1, x2, by omega⟩
          · rw [hx']; exact ht
        · rename_i h1; rw [if_neg h1] at he; exact absurd he h1
      · have hres : keyE b leaf kind gen = (⟨0, 0, 0⟩, ⟨0, [], []⟩, b.1, b.2.2.1) := by unfold keyE; rw [if_neg hb0]
        rw [hres] at he
        exact absurd he hb0
    refine key _ ?_ ?_ h0
    · split
      · intro hz
        obtain ⟨_, j, a, b, _, hc⟩ := beginR_chains hz
        rw [hc]; exact findR_begin hk
      · exact fun _ => by assumption
    · split
      · intro hz
        obtain ⟨hl, j, a, b, hj, hc⟩ := beginR_chains hz
        have hn := beginR_len hz
        obtain ⟨h1, h2, h3, h4⟩ := h
        refine ⟨by rw [hl]; exact h1, by omega, ?_, fun c hc' => ?_⟩
        · rw [hc]; simp only [List.length_append, List.length_take, List.length_drop, List.length_cons, List.length_nil]; omega
        · rw [hc] at hc'
          simp only [List.mem_append, List.mem_cons, List.not_mem_nil, or_false] at hc'
          rcases hc' with (hc' | rfl | rfl) | hc'
          · exact h4 c (List.mem_of_mem_take hc')
          · exact ⟨Nat.zero_le _, Int.le_refl 0, by show (0 : Int) ≤ _; omega⟩
          · exact ⟨Nat.zero_le _, Int.le_refl 0, by show (0 : Int) ≤ _; omega⟩
          · exact h4 c (List.mem_of_mem_drop hc')
      · intro _
        obtain ⟨h1, h2, h3, h4⟩ := h
        exact ⟨h1, by show r.nodes.length ≤ _; omega, by show r.chains.length ≤ _; omega, h4⟩

end Go.Proofs.YtnkndplbcbehkaaGreatDoor
