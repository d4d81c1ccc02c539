/-
  secrets: Key.
-/
import Derived.Test.YtnkndplbcbehkaaGreatDoorSecJ
import Derived.Test.YtnkndplbcbehkaaGreatDoorSecL
set_option linter.unusedVariables false
set_option linter.unusedSimpArgs false
namespace Go.Proofs.YtnkndplbcbehkaaGreatDoor
open Go.RowKit Go.Cas
set_option maxHeartbeats 4000000
set_option maxRecDepth 20000

theorem beginR_chains {L : List Nd} {e : Int} {r : Kr} {leaf : Int} (h : (beginR L e r leaf).1 = 0) :
    (beginR L e r leaf).2.1.leaves = r.leaves ∧ ∃ (j : Nat) (a b : Int), j ≤ r.chains.length ∧ (beginR L e r leaf).2.1.chains = r.chains.take j ++ [⟨leaf, 0, 0, a, []⟩, ⟨leaf, 1, 0, b, []⟩] ++ r.chains.drop j := by
  unfold beginR at h ⊢
  dsimp only at h ⊢
  split
  · rename_i h1; rw [if_pos h1] at h; exact absurd h (by show ¬ (4 : Int) = 0; decide)
  · rename_i h1
    rw [if_neg h1] at h
    split
    · rename_i h2; rw [h2] at h; exact absurd h (by show ¬ (4 : Int) = 0; decide)
    · rename_i s nodes h2
      refine ⟨rfl, _, _, _, ?_, rfl⟩
      rcases findB_two (fun c : Ch => decide (c.leaf > leaf)) r.chains with hf | ⟨j, hj, hf⟩
      · rw [hf, if_pos (by decide)]; exact Nat.le_refl _
      · rw [hf, if_neg (by omega), Int.toNat_natCast]; omega

theorem findB_none {α : Type} {q : α → Bool} {l : List α} (h : findB q l < 0) : ∀ x ∈ l, q x = false := by
  unfold findB at h
  cases h' : l.findIdx? q with
  | none => rw [List.findIdx?_eq_none_iff] at h'; exact h'
  | some i => rw [h'] at h; simp only at h; omega

theorem findR_begin {l : List Ch} {j : Nat} {leaf kind a b : Int} (hk : kind = 0 ∨ kind = 1) : ¬ findR (l.take j ++ [⟨leaf, 0, 0, a, []⟩, ⟨leaf, 1, 0, b, []⟩] ++ l.drop j) leaf kind < 0 := by
  intro h
  have h1 := findB_none h
  rcases hk with rfl | rfl
  · have := h1 ⟨leaf, 0, 0, a, []⟩ (by simp)
    simp at this
  · have := h1 ⟨leaf, 1, 0, b, []⟩ (by simp)
    simp at this

theorem findR_at {l : List Ch} {leaf kind : Int} (h : ¬ findR l leaf kind < 0) : ∃ (j : Nat) (c : Ch), findR l leaf kind = (j : Int) ∧ l[j]? = some c ∧ c.leaf = leaf ∧ c.kind = kind := by
  unfold findR findB at *
  cases h' : l.findIdx? (fun x : Ch => (x.leaf == leaf) && (x.kind == kind)) with
  | none => rw [h'] at h; exact absurd (by decide : (-1 : Int) < 0) h
  | some i =>
    obtain ⟨hi, hq, _⟩ := List.findIdx?_eq_some_iff_getElem.1 h'
    simp only [Bool.and_eq_true, beq_iff_eq] at hq
    exact ⟨i, _, rfl, List.getElem?_eq_getElem hi, hq.1, hq.2⟩

theorem runR_same : ∀ (n : Nat) (L : List Nd) (e : Int) (c : Ch), (runR n L e c).1.leaf = c.leaf ∧ (runR n L e c).1.kind = c.kind
  | 0, _, _, _ => ⟨rfl, rfl⟩
  | n + 1, L, e, c => by rw [runR]; exact runR_same n _ _ _

theorem takeR_same (L : List Nd) (e : Int) (c : Ch) (gen : Int) : (takeR L e c gen).2.2.1.leaf = c.leaf ∧ (takeR L e c gen).2.2.1.kind = c.kind := by
  unfold takeR
  split
  · split <;> exact ⟨rfl, rfl⟩
  · split
    · exact ⟨rfl, rfl⟩
    · exact runR_same _ _ _ _

/-- What 'Key' begins with. -/
structure K3 (w w3 : World) (lv : Int) (v u : Value) : Prop where
  below : Below w.heap.size w w3
  size : w3.heap.size = w.heap.size + 3
  box : w3.heap[w.heap.size]? = some (.cells #[.int .i64 lv, v, u] 32 (0, 0))
  r1 : w3.heap[w.heap.size + 1]? = some (.cells #[.int .i64 0, .int .i64 0, .int .i64 0] 39 (0, 0))
  r2 : w3.heap[w.heap.size + 2]? = some (.cells #[.int .i64 0, .slice none 0 0, .slice none 0 0] 32 (0, 0))

theorem k3_start (w : World) (lv : Int) (v u : Value) : K3 w (((w.alloc (.cells #[.int .i64 lv, v, u] 32)).alloc (.cells #[.int .i64 0, .int .i64 0, .int .i64 0] 39)).alloc (.cells #[.int .i64 0, .slice none 0 0, .slice none 0 0] 32)) lv v u := by
  refine ⟨(((Below.refl _ _).alloc (Nat.le_refl _) _).alloc (by simp) _).alloc (by simp; omega) _, by simp, heap_al _ (heap_al _ (heap_new _ _)), heap_al _ ?_, ?_⟩
  · have h := heap_new (w.alloc (.cells #[.int .i64 lv, v, u] 32)) (.cells #[.int .i64 0, .int .i64 0, .int .i64 0] 39)
    rw [World.alloc_size] at h; exact h
  · have h := heap_new ((w.alloc (.cells #[.int .i64 lv, v, u] 32)).alloc (.cells #[.int .i64 0, .int .i64 0, .int .i64 0] 39)) (.cells #[.int .i64 0, .slice none 0 0, .slice none 0 0] 32)
    rw [World.alloc_size, World.alloc_size] at h; exact h

/-- The results' cells, for the walk. -/
theorem res_cells {W : World} {n : Nat} (h1 : W.heap[n + 1]? = some (.cells #[.int .i64 0, .int .i64 0, .int .i64 0] 39 (0, 0))) (h2 : W.heap[n + 2]? = some (.cells #[.int .i64 0, .slice none 0 0, .slice none 0 0] 32 (0, 0))) :
    (W.cell? ⟨n + 1, 0, none⟩ = some (.int .i64 0) ∧ W.cell? ⟨n + 1, 1, none⟩ = some (.int .i64 0) ∧ W.cell? ⟨n + 1, 2, none⟩ = some (.int .i64 0)) ∧
    (W.cell? ⟨n + 1 + 1, 0, none⟩ = some (.int .i64 0) ∧ W.cell? ⟨n + 1 + 1, 1, none⟩ = some (.slice none 0 0) ∧ W.cell? ⟨n + 1 + 1, 2, none⟩ = some (.slice none 0 0)) ∧
    (W.frozen? ⟨n + 1, 0, none⟩ = false ∧ W.frozen? ⟨n + 1, 1, none⟩ = false ∧ W.frozen? ⟨n + 1, 2, none⟩ = false) ∧
    (W.frozen? ⟨n + 1 + 1, 0, none⟩ = false ∧ W.frozen? ⟨n + 1 + 1, 1, none⟩ = false ∧ W.frozen? ⟨n + 1 + 1, 2, none⟩ = false) := by
  refine ⟨⟨?_, ?_, ?_⟩, ⟨?_, ?_, ?_⟩, ⟨frozen_of_row _ _ _ _ _ h1, frozen_of_row _ _ _ _ _ h1, frozen_of_row _ _ _ _ _ h1⟩, ⟨frozen_of_row _ _ _ _ _ h2, frozen_of_row _ _ _ _ _ h2, frozen_of_row _ _ _ _ _ h2⟩⟩
  all_goals first | (rw [cell_of_row _ _ _ _ _ _ h1]; rfl) | (rw [cell_of_row _ _ _ _ _ _ h2]; rfl)

theorem row3_cells {W : World} {b : Nat} {x y z : Value} {T : TypeId} (h : W.heap[b]? = some (.cells #[x, y, z] T (0, 0))) : W.cell? ⟨b, 0, none⟩ = some x ∧ W.cell? ⟨b, 1, none⟩ = some y ∧ W.cell? ⟨b, 2, none⟩ = some z := by
  refine ⟨?_, ?_, ?_⟩
  all_goals (rw [cell_of_row _ _ _ _ _ _ h]; rfl)

/-- Nothing is begun: the arguments are bad. -/
theorem key_bad {N : Nat → Prop} {p : Nat} {L : List Nd} {w w3 : World} {lv : Int} {v u : Value} (hN : Nw N w p) (h : K3 w w3 lv v u) (ha : IsArG 82 nkey w p (fun b => ArB w p b ∨ N b) L) :
    Kx N w p (fun b => (ArB w p b ∨ N b) ∨ (w.heap.size ≤ b ∧ b < w3.heap.size)) w3 L :=
  ⟨hN, ha.add h.below (fun _ hb => hb), ⟨Kp.of_all h.below, fun b hb => hb.imp id (·.1)⟩, Kp.of_all h.below, fun b hb => .inl (.inr hb), h.r1, h.r2, .inr ⟨by omega, by have := h.size; omega⟩, .inr ⟨by omega, by have := h.size; omega⟩⟩

/-- The results, read. -/
theorem Kx.res {N : Nat → Prop} {w : World} {p : Nat} {F : Nat → Prop} {W : World} {L : List Nd} (h : Kx N w p F W L) (a b c x y z : Value) :
    ∃ W', W' = ((((((W.setCell ⟨w.heap.size + 1, 0, none⟩ a).setCell ⟨w.heap.size + 1, 1, none⟩ b).setCell ⟨w.heap.size + 1, 2, none⟩ c).setCell ⟨w.heap.size + 1 + 1, 0, none⟩ x).setCell ⟨w.heap.size + 1 + 1, 1, none⟩ y).setCell ⟨w.heap.size + 1 + 1, 2, none⟩ z) ∧
      (W'.cell? ⟨w.heap.size + 1, 0, none⟩ = some a ∧ W'.cell? ⟨w.heap.size + 1, 1, none⟩ = some b ∧ W'.cell? ⟨w.heap.size + 1, 2, none⟩ = some c) ∧
      (W'.cell? ⟨w.heap.size + 1 + 1, 0, none⟩ = some x ∧ W'.cell? ⟨w.heap.size + 1 + 1, 1, none⟩ = some y ∧ W'.cell? ⟨w.heap.size + 1 + 1, 2, none⟩ = some z) := by
  obtain ⟨W', e, _, _, _, _, h1, h2⟩ := h.fin a b c x y z
  exact ⟨W', e, row3_cells h1, row3_cells h2⟩

/-- Behind 'begin'. -/
theorem Kx.begun {N : Nat → Prop} {w : World} {p : Nat} {F F' : Nat → Prop} {W W' : World} {L L' : List Nd} {d o : Nat} {e e' : Int} (h : Kx N w p F W L) (hd : IsD d p F W L e) (hd' : IsD d p F' W' L' e') (hst : St F W F' W') (hold : ∀ b, F b → F' b) (hg : Dg (BX d o W) p F W F' W')
    (ho : w.heap.size + 4 ≤ o) (hdn : w.heap.size + 3 ≤ d) : Kx N w p F' W' L' := by
  have q1 := hg.heap h.r1 (h.ar.notB h.r1 (by decide) (by decide)) (fun hX => by
    rcases hX with e | e | ⟨cs, T, fr, h1, h2⟩
    · omega
    · omega
    · rw [h.r1] at h1; cases h1; rcases h2 with h2 | h2 <;> exact absurd h2 (by decide))
  have q2 := hg.heap h.r2 (h.ar.notB h.r2 (by decide) (by decide)) (fun hX => by
    rcases hX with e | e | ⟨cs, T, fr, h1, h2⟩
    · omega
    · omega
    · rw [h.r2] at h1; cases h1; rcases h2 with h2 | h2 <;> exact absurd h2 (by decide))
  refine h.next hd'.ar hst hold (fun b hb => ?_) q1.1 q2.1
  obtain ⟨cs, T, h1, h2, h3, _, h4, h5⟩ := h.ntyped hb
  have hlt := h.nlt hb
  rw [(hg.heap h1 (h.ar.notB h1 h2 h3) (fun hX => by
    rcases hX with e | e | ⟨cs', T', fr, h6, h7⟩
    · omega
    · omega
    · rw [h1] at h6; cases h6; rcases h7 with h7 | h7
      · exact h4 h7
      · exact h5 h7)).1, h1]

/-- 'take', as 'Key' calls it. -/
theorem key_call {N : Nat → Prop} {w : World} {p : Nat} {F : Nat → Prop} {W : World} {L : List Nd} {e : Int} {d o : Nat} {r : Kr} {v u : Value} {ks : List Value} (hx : Kx N w p F W L) (hd : IsD d p F W L e) (ho : IsO o F W r v u ks)
    (hks : ∀ k ∈ ks, ∀ b, k.ownBlock = some b → w.heap.size + 4 ≤ b) {i : Nat} {c : Ch} (hc : r.chains[i]? = some c) (gen : Int) (b0 : 0 ≤ c.gen) (b3 : c.gen ≤ 100000) (b4 : c.kept.length ≤ 100) (b5 : gen ≤ 9223372036854775807) :
    ∃ g cap, u = .slice (some ⟨g, 0, none⟩) r.chains.length cap ∧ r.chains.length ≤ cap ∧ ∀ (W' : World) (N0 : Nat → Prop), Below W.heap.size W W' → (∀ t, N0 t → W.heap.size ≤ t ∧ W'.heap[t]? = some (.cells #[.int .i64 0, .int .i64 0, .int .i64 0] 39 (0, 0))) →
      Calls Tryz.prog 21 #[.pointer (some ⟨d, 0, none⟩), .pointer (some ⟨g, i * 5, none⟩), .int .i64 gen] W' fun en W2 =>
        en = .returned (.tuple #[.agg #[.int .i64 (takeR L e c gen).1.gen, .int .i64 (takeR L e c gen).1.key, .int .i64 (takeR L e c gen).1.nonce], .int .i64 (takeR L e c gen).2.1]) ∧
        ∃ F', Kx N w p F' W2 (takeR L e c gen).2.2.2.1 ∧ (∀ t, N0 t → F' t ∧ W2.heap[t]? = some (.cells #[.int .i64 0, .int .i64 0, .int .i64 0] 39 (0, 0))) ∧
          W2.heap[o]? = some (.cells #[.int .i64 r.leaves, v, u] 32 (0, 0)) ∧
          SlRep (fun b => ¬ ArB W2 p b ∧ ¬ (b = w.heap.size + 1 ∨ b = w.heap.size + 2 ∨ N0 b ∨ N b)) W2 v r.nodes ∧
          SlRep (fun b => ¬ ArB W2 p b ∧ ¬ (b = w.heap.size + 1 ∨ b = w.heap.size + 2 ∨ N0 b ∨ N b)) W2 u (r.chains.set i (takeR L e c gen).2.2.1) := by
  have hin := getElem?_lt hc
  obtain ⟨k, hk⟩ : ∃ k, ks[i]? = some k := ⟨_, List.getElem?_eq_getElem (by rw [ho.len]; exact hin)⟩
  rcases ho.chains.2 with ⟨_, hn⟩ | ⟨g, cap, cur, rfl, _, hcur, hcap, hm, hsz, hpre⟩
  · omega
  refine ⟨g, cap, rfl, hcap, fun W' N0 hB hN0 => ?_⟩
  have hx' := hx.bl hB
  have hcur' := heap_bl hB hcur
  have hWs : w.heap.size + 3 ≤ W.heap.size := by have := heap_lt hx.r2; omega
  -- the new blocks may be written, too
  obtain ⟨hd', _⟩ := hd.upd (X := fun _ => False) (F' := fun b => F b ∨ N0 b) (Kp.of_all hB) (fun _ h => h.elim) (fun _ h => .inl h) (fun b h => h.imp id fun h => (hN0 b h).1)
    (fun b h => h.elim (fun h => Nat.lt_of_lt_of_le (hd.ar.lt h) hB.size) (fun h => heap_lt (hN0 b h).2))
  have ho' : IsO o (fun b => F b ∨ N0 b) W' r v (.slice (some ⟨g, 0, none⟩) r.chains.length cap) ks := ho.below (fun _ h => .inl h) hB
  have hx2 : Kx N w p (fun b => F b ∨ N0 b) W' L := ⟨hx.nw, hd'.ar, ⟨hx'.st.kp, fun b hb => hb.elim (hx'.st.new b) (fun h => by have := (hN0 b h).1; omega)⟩, hx'.keep, fun b hb => .inl (hx'.nf b hb), hx'.r1, hx'.r2, .inl hx'.f1, .inl hx'.f2⟩
  have hkin : k ∈ ks := List.mem_of_getElem? hk
  have hat : ∀ t y, (c.cs k)[t]? = some y → cur[i * 5 + t]? = some y := fun t y ht => by
    have h1 := chCells_at (l := r.chains) (ks := ks) hc hk t y ht
    rw [← hpre, List.getElem?_take] at h1
    split at h1
    · rw [← Array.getElem?_toList]; exact h1
    · cases h1
  have hok := own_below (ho.kept i c k hc hk) hB
  have hsame := takeR_same L e c gen
  refine (sTake_any d p (fun b => F b ∨ N0 b) L e W' g (i * 5) cur k c gen hd' hcur' (.inl (ho.fu g rfl)) (hat 2 _ rfl) (hat 3 _ rfl) (hat 4 _ rfl) hok (fun b hb => .inl (ho.fk k hkin b hb)) b0 b3 b4 b5).mono ?_
  rintro en W2 ⟨rfl, F', k', cur', q1, q2, q3, q4, q5⟩
  generalize takeR L e c gen = tr at q1 q2 q3 q4 q5 hsame ⊢
  have hkown : ∀ k ∈ ks, ∀ b, k.ownBlock = some b → b < W.heap.size := fun k hk b hb => by
    obtain ⟨j, hj⟩ := List.mem_iff_getElem?.1 hk
    have hlt := getElem?_lt hj
    rw [ho.len] at hlt
    exact ((ho.kept j _ k (List.getElem?_eq_getElem hlt) hj).lt b hb).2
  obtain ⟨a1, a2, a3, a4⟩ := key_take (M := fun b => b = w.heap.size + 1 ∨ b = w.heap.size + 2 ∨ N0 b ∨ N b) hx2 hd' ho' (fun b hb => by
    rcases hb with rfl | rfl | hb | hb
    · exact ⟨⟨_, _, hx2.r1, by decide, by decide⟩, fun k hk e => by have := hks k hk _ e; omega⟩
    · exact ⟨⟨_, _, hx2.r2, by decide, by decide⟩, fun k hk e => by have := hks k hk _ e; omega⟩
    · exact ⟨⟨_, _, (hN0 b hb).2, by decide, by decide⟩, fun k hk e => by have := hkown k hk _ e; have := (hN0 b hb).1; omega⟩
    · obtain ⟨cs, T, h1, _, _, _, h2, h3⟩ := hx2.ntyped hb
      exact ⟨⟨cs, T, h1, h2, h3⟩, fun k hk e => by have := hks k hk _ e; have := hx2.nlt hb; omega⟩) (.inl rfl) (fun b hb => .inr (.inr (.inr hb))) hc hk rfl hcur' hcap hm hsz hpre q1 q2 q3 q4 q5 hsame.1 hsame.2
  refine ⟨rfl, F', a1, fun t ht => ⟨q2.old _ (.inr ht), ?_⟩, a2, a3, a4⟩
  exact (q2.heap (hN0 t ht).2 (hd'.ar.notB (hN0 t ht).2 (by decide) (by decide)) (fun hX => by
    rcases hX with e | e | e
    · have h1 := (hN0 t ht).2; rw [e, hd'.at_] at h1; cases h1
    · have h1 := (hN0 t ht).2; rw [e, hcur'] at h1; cases h1
    · have := hkown k hkin _ e; have := (hN0 t ht).1; omega)).1

/-- The key is laid down: what stands before the end. -/
structure Kf (N : Nat → Prop) (w : World) (p o t : Nat) (W : World) (L : List Nd) (r : Kr) (v u : Value) (x : GK) : Prop where
  kx : ∃ F, Kx N w p F W L
  tn : w.heap.size + 3 ≤ t
  at_ : W.heap[o]? = some (.cells #[.int .i64 r.leaves, v, u] 32 (0, 0))
  key : W.heap[t]? = some (.cells #[.int .i64 x.gen, .int .i64 x.key, .int .i64 x.nonce] 39 (0, 0))
  nodes : SlRep (fun b => ¬ ArB W p b ∧ ¬ (b = w.heap.size + 1 ∨ b = w.heap.size + 2 ∨ N b)) W v r.nodes
  chains : SlRep (fun b => ¬ ArB W p b ∧ ¬ (b = w.heap.size + 1 ∨ b = w.heap.size + 2 ∨ N b)) W u r.chains

theorem kf_new {N : Nat → Prop} {w : World} {p o : Nat} {W : World} {L : List Nd} {r : Kr} {v u : Value} {F : Nat → Prop} (hx : Kx N w p F W L) (h1 : W.heap[o]? = some (.cells #[.int .i64 r.leaves, v, u] 32 (0, 0)))
    (h2 : SlRep (fun b => ¬ ArB W p b ∧ ¬ (b = w.heap.size + 1 ∨ b = w.heap.size + 2 ∨ False ∨ N b)) W v r.nodes) (h3 : SlRep (fun b => ¬ ArB W p b ∧ ¬ (b = w.heap.size + 1 ∨ b = w.heap.size + 2 ∨ False ∨ N b)) W u r.chains) (x : GK) :
    Kf N w p o W.heap.size (W.alloc (.cells #[.int .i64 x.gen, .int .i64 x.key, .int .i64 x.nonce] 39)) L r v u x := by
  have hb : Below W.heap.size W (W.alloc (.cells #[.int .i64 x.gen, .int .i64 x.key, .int .i64 x.nonce] 39)) := (Below.refl _ _).alloc (Nat.le_refl _) _
  have hp : ArB (W.alloc (.cells #[.int .i64 x.gen, .int .i64 x.key, .int .i64 x.nonce] 39)) p = ArB W p := by
    obtain ⟨v, m, xs, h0, _⟩ := hx.ar
    exact arB_lt (hb.block p (heap_lt h0))
  refine ⟨⟨F, hx.bl hb⟩, by have := heap_lt hx.r2; omega, heap_bl hb h1, heap_new _ _, h2.step (Kp.of_all hb) ?_, h3.step (Kp.of_all hb) ?_⟩ <;>
  · intro b _ h
    rw [hp]
    exact ⟨h.1, fun h' => h.2 (h'.imp id (Or.imp id .inr))⟩

theorem kf_old {N : Nat → Prop} {w : World} {p o t : Nat} {W : World} {L : List Nd} {r : Kr} {v u : Value} {F : Nat → Prop} (hx : Kx N w p F W L) (h0 : F t ∧ W.heap[t]? = some (.cells #[.int .i64 0, .int .i64 0, .int .i64 0] 39 (0, 0))) (h1 : W.heap[o]? = some (.cells #[.int .i64 r.leaves, v, u] 32 (0, 0)))
    (ht1 : w.heap.size + 3 ≤ t)
    (h2 : SlRep (fun b => ¬ ArB W p b ∧ ¬ (b = w.heap.size + 1 ∨ b = w.heap.size + 2 ∨ b = t ∨ N b)) W v r.nodes) (h3 : SlRep (fun b => ¬ ArB W p b ∧ ¬ (b = w.heap.size + 1 ∨ b = w.heap.size + 2 ∨ b = t ∨ N b)) W u r.chains) (x : GK) :
    Kf N w p o t (((W.setCell ⟨t, 0, none⟩ (.int .i64 x.gen)).setCell ⟨t, 1, none⟩ (.int .i64 x.key)).setCell ⟨t, 2, none⟩ (.int .i64 x.nonce)) L r v u x := by
  have hk : Kp (fun k => k ≠ t) W (((W.setCell ⟨t, 0, none⟩ (.int .i64 x.gen)).setCell ⟨t, 1, none⟩ (.int .i64 x.key)).setCell ⟨t, 2, none⟩ (.int .i64 x.nonce)) :=
    (((Kp.refl _ _).setCell (fun _ h => h rfl) _).setCell (fun _ h => h rfl) _).setCell (fun _ h => h rfl) _
  have n1 := hx.ar.notB h0.2 (by decide) (by decide)
  have hp : ArB (((W.setCell ⟨t, 0, none⟩ (.int .i64 x.gen)).setCell ⟨t, 1, none⟩ (.int .i64 x.key)).setCell ⟨t, 2, none⟩ (.int .i64 x.nonce)) p = ArB W p := by
    obtain ⟨v, m, xs, h0, _⟩ := hx.ar
    exact arB_lt (hk.block p (heap_lt h0) (fun e => n1 (e ▸ .inl rfl)))
  have har := hx.ar.other (hk.mono fun i _ hi e => hi.elim (fun h' => h' (e ▸ h0.1)) (fun h' => n1 (e ▸ h')))
  refine ⟨⟨F, hx.nw, har, ⟨hx.st.kp.trans' hk fun i hi _ => by omega, hx.st.new⟩, hx.keep.trans' hk fun i hi _ => by omega, hx.nf, hk.heap (K := fun k => k ≠ t) (by omega) hx.r1, hk.heap (K := fun k => k ≠ t) (by omega) hx.r2, hx.f1, hx.f2⟩, ht1,
    hk.heap (K := fun k => k ≠ t) (fun e => by rw [e, h0.2] at h1; simp only [Option.some.injEq, Obj.cells.injEq] at h1; exact absurd h1.2.1 (by decide)) h1, same_set3 h0.2 _ _ _, ?_, ?_⟩
  · rw [hp]
    exact (h2.step (K' := fun b => ¬ ArB W p b ∧ ¬ (b = w.heap.size + 1 ∨ b = w.heap.size + 2 ∨ N b)) (hk.mono fun i _ h e => h.2 (.inr (.inr (.inl e)))) fun b _ h => ⟨h.1, fun h' => h.2 (h'.imp id (Or.imp id .inr))⟩)
  · rw [hp]
    exact (h3.step (K' := fun b => ¬ ArB W p b ∧ ¬ (b = w.heap.size + 1 ∨ b = w.heap.size + 2 ∨ N b)) (hk.mono fun i _ h e => h.2 (.inr (.inr (.inl e)))) fun b _ h => ⟨h.1, fun h' => h.2 (h'.imp id (Or.imp id .inr))⟩)

theorem Kf.bl {N : Nat → Prop} {w : World} {p o t : Nat} {W W' : World} {L : List Nd} {r : Kr} {v u : Value} {x : GK} (h : Kf N w p o t W L r v u x) (hb : Below W.heap.size W W') : Kf N w p o t W' L r v u x := by
  obtain ⟨F, hx⟩ := h.kx
  have hp : ArB W' p = ArB W p := by
    obtain ⟨v, m, xs, h0, _⟩ := hx.ar
    exact arB_lt (hb.block p (heap_lt h0))
  refine ⟨⟨F, hx.bl hb⟩, h.tn, heap_bl hb h.at_, heap_bl hb h.key, h.nodes.step (Kp.of_all hb) ?_, h.chains.step (Kp.of_all hb) ?_⟩ <;>
  · intro b _ h
    rw [hp]
    exact h

/-- The end with a key. -/
theorem Kf.fin {N : Nat → Prop} {w : World} {p o t : Nat} {W : World} {L : List Nd} {r : Kr} {v u : Value} {x : GK} (h : Kf N w p o t W L r v u x) {en : Ending}
    (he : en = .returned (.tuple #[.agg #[.int .i64 x.gen, .int .i64 x.key, .int .i64 x.nonce], .agg #[.int .i64 r.leaves, v, u], .int .i64 0])) :
    KeyPost N w p (x, r, 0, L) en ((((((W.setCell ⟨w.heap.size + 1, 0, none⟩ (.int .i64 x.gen)).setCell ⟨w.heap.size + 1, 1, none⟩ (.int .i64 x.key)).setCell ⟨w.heap.size + 1, 2, none⟩ (.int .i64 x.nonce)).setCell ⟨w.heap.size + 2, 0, none⟩ (.int .i64 r.leaves)).setCell ⟨w.heap.size + 2, 1, none⟩ v).setCell ⟨w.heap.size + 2, 2, none⟩ u) := by
  obtain ⟨F, hx⟩ := h.kx
  obtain ⟨W', rfl, h1, h2, h3, h4, _⟩ := hx.fin (.int .i64 x.gen) (.int .i64 x.key) (.int .i64 x.nonce) (.int .i64 r.leaves) v u
  refine ⟨_, _, he, h1, h2, h.nodes.step (h4.mono fun i _ h => ⟨fun e => h.2 (.inl e), fun e => h.2 (.inr (.inl e))⟩) (fun b _ h => ?_), h.chains.step (h4.mono fun i _ h => ⟨fun e => h.2 (.inl e), fun e => h.2 (.inr (.inl e))⟩) (fun b _ h => ?_)⟩
  · rw [h3]; exact fun h' => h'.elim h.1 (fun h' => h.2 (.inr (.inr h')))
  · rw [h3]; exact fun h' => h'.elim h.1 (fun h' => h.2 (.inr (.inr h')))

/-- The end with an error. -/
theorem Kx.err {N : Nat → Prop} {w : World} {p : Nat} {F : Nat → Prop} {W : World} {L : List Nd} (h : Kx N w p F W L) (e : Int) {en : Ending}
    (he : en = .returned (.tuple #[.agg #[.int .i64 0, .int .i64 0, .int .i64 0], .agg #[.int .i64 0, .slice none 0 0, .slice none 0 0], .int .i64 e])) :
    KeyPost N w p (⟨0, 0, 0⟩, ⟨0, [], []⟩, e, L) en ((((((W.setCell ⟨w.heap.size + 1, 0, none⟩ (.int .i64 0)).setCell ⟨w.heap.size + 1, 1, none⟩ (.int .i64 0)).setCell ⟨w.heap.size + 1, 2, none⟩ (.int .i64 0)).setCell ⟨w.heap.size + 2, 0, none⟩ (.int .i64 0)).setCell ⟨w.heap.size + 2, 1, none⟩ (.slice none 0 0)).setCell ⟨w.heap.size + 2, 2, none⟩ (.slice none 0 0)) := by
  obtain ⟨W', rfl, h1, h2, _⟩ := h.fin (.int .i64 0) (.int .i64 0) (.int .i64 0) (.int .i64 0) (.slice none 0 0) (.slice none 0 0)
  exact ⟨_, _, he, h1, h2, SlRep.nil _ _, SlRep.nil _ _⟩

theorem Kx.err0 {N : Nat → Prop} {w : World} {p : Nat} {F : Nat → Prop} {W : World} {L : List Nd} (h : Kx N w p F W L) (e : Int) {en : Ending}
    (he : en = .returned (.tuple #[.agg #[.int .i64 0, .int .i64 0, .int .i64 0], .agg #[.int .i64 0, .slice none 0 0, .slice none 0 0], .int .i64 e])) : KeyPost N w p (⟨0, 0, 0⟩, ⟨0, [], []⟩, e, L) en W :=
  ⟨_, _, he, h.ar.shrink h.nf, h.stA, SlRep.nil _ _, SlRep.nil _ _⟩

theorem sKey_bad (N : Nat → Prop) (p : Nat) (L : List Nd) (w : World) (r : Kr) (v u : Value) (leaf kind gen : Int) (hN : Nw N w p) (ha : IsArG 82 nkey w p (fun b => ArB w p b ∨ N b) L)
    (hv : SlRep (fun b => ¬ (ArB w p b ∨ N b)) w v r.nodes) (hu : SlRep (fun b => ¬ (ArB w p b ∨ N b)) w u r.chains) (hb : leaf < 0 ∨ r.leaves ≤ leaf ∨ (kind ≠ 0 ∧ kind ≠ 1) ∨ gen < 0) :
    Calls Tryz.prog 7 #[.pointer (some ⟨p, 0, none⟩), .agg #[.int .i64 r.leaves, v, u], .int .i64 leaf, .int .i64 kind, .int .i64 gen] w (KeyPost N w p (keyR L r leaf kind gen)) := by
  have hres : keyR L r leaf kind gen = (⟨0, 0, 0⟩, ⟨0, [], []⟩, 1, L) := by unfold keyR; rw [if_pos hb]
  rw [hres]
  obtain ⟨va, vc, rfl, _⟩ := hv.form
  obtain ⟨ua, uc, rfl, _⟩ := hu.form
  have h3 := k3_start w r.leaves (.slice va r.nodes.length vc) (.slice ua r.chains.length uc)
  generalize hw3 : (((w.alloc (.cells #[.int .i64 r.leaves, .slice va r.nodes.length vc, .slice ua r.chains.length uc] 32)).alloc (.cells #[.int .i64 0, .int .i64 0, .int .i64 0] 39)).alloc (.cells #[.int .i64 0, .slice none 0 0, .slice none 0 0] 32)) = w3 at h3
  have HX := Lib.hid (key_bad hN h3 ha)
  obtain ⟨⟨x0, x1, x2⟩, ⟨y0, y1, y2⟩, _⟩ := res_cells h3.r1 h3.r2
  have HW := Lib.hid hw3
  clear h3 hw3 ha hv hu hres
  by_cases h1 : leaf < 0
  · have d1 : decide (leaf < 0) = true := by simpa using h1
    clear hb h1
    go_enter Tryz.func7, Tryz.ntmps7
    go_wp2_with fail
    rw [HW.out]
    refine bodyPost_ret (v := .tuple #[.agg #[.int .i64 0, .int .i64 0, .int .i64 0], .agg #[.int .i64 0, .slice none 0 0, .slice none 0 0], .int .i64 1]) (by simp [results, Tryz.results7, go_sem, x0, x1, x2, y0, y1, y2]) rfl ?_
    exact HX.out.err0 1 rfl
  · have d1 : decide (leaf < 0) = false := by simpa using h1
    by_cases h2 : r.leaves ≤ leaf
    · have d2 : decide (leaf ≥ r.leaves) = true := by simpa using h2
      clear hb h1 h2
      go_enter Tryz.func7, Tryz.ntmps7
      go_wp2_with fail
      rw [HW.out]
      refine bodyPost_ret (v := .tuple #[.agg #[.int .i64 0, .int .i64 0, .int .i64 0], .agg #[.int .i64 0, .slice none 0 0, .slice none 0 0], .int .i64 1]) (by simp [results, Tryz.results7, go_sem, x0, x1, x2, y0, y1, y2]) rfl ?_
      exact HX.out.err0 1 rfl
    · have d2 : decide (leaf ≥ r.leaves) = false := by simpa using h2
      by_cases h3 : kind ≠ 0 ∧ kind ≠ 1
      · have d3 : (kind != 0) = true := by simpa using h3.1
        have d4 : (kind != 1) = true := by simpa using h3.2
        clear hb h1 h2 h3
        go_enter Tryz.func7, Tryz.ntmps7
        go_wp2_with fail
        rw [HW.out]
        refine bodyPost_ret (v := .tuple #[.agg #[.int .i64 0, .int .i64 0, .int .i64 0], .agg #[.int .i64 0, .slice none 0 0, .slice none 0 0], .int .i64 1]) (by simp [results, Tryz.results7, go_sem, x0, x1, x2, y0, y1, y2]) rfl ?_
        exact HX.out.err0 1 rfl
      · have d5 : decide (gen < 0) = true := by
          rcases hb with hb | hb | hb | hb
          · exact absurd hb h1
          · exact absurd hb h2
          · exact absurd hb h3
          · simpa using hb
        rcases (by omega : kind = 0 ∨ kind = 1) with rfl | rfl
        all_goals
          clear hb h1 h2 h3
          go_enter Tryz.func7, Tryz.ntmps7
          go_wp2_with fail
          rw [HW.out]
          refine bodyPost_ret (v := .tuple #[.agg #[.int .i64 0, .int .i64 0, .int .i64 0], .agg #[.int .i64 0, .slice none 0 0, .slice none 0 0], .int .i64 1]) (by simp [results, Tryz.results7, go_sem, x0, x1, x2, y0, y1, y2]) rfl ?_
          exact HX.out.err0 1 rfl

theorem ks_ge {n : Nat} {ks ks' : List Value} (h1 : ∀ k ∈ ks, ∀ b, k.ownBlock = some b → n ≤ b) (h2 : ∀ k ∈ ks', k ∈ ks ∨ k = .slice none 0 0) : ∀ k ∈ ks', ∀ b, k.ownBlock = some b → n ≤ b := by
  intro k hk b hb
  rcases h2 k hk with h | rfl
  · exact h1 k h b hb
  · cases hb

/-- What 'Key' tells behind 'take'. -/
def keyT (r : Kr) (j : Nat) (tr : GK × Int × Ch × List Nd × Int) : GK × Kr × Int × List Nd :=
  if tr.2.1 = 0 then (tr.1, ⟨r.leaves, r.nodes, r.chains.set j tr.2.2.1⟩, 0, tr.2.2.2.1) else (⟨0, 0, 0⟩, ⟨0, [], []⟩, tr.2.1, tr.2.2.2.1)

theorem keyE_at {b : Int × Kr × List Nd × Int} {leaf kind gen : Int} (h0 : b.1 = 0) {j : Nat} {c : Ch} (hf : findR b.2.1.chains leaf kind = (j : Int)) (hc : b.2.1.chains[j]? = some c) {tr : GK × Int × Ch × List Nd × Int} (ht : takeR b.2.2.1 b.2.2.2 c gen = tr) :
    keyE b leaf kind gen = keyT b.2.1 j tr := by
  unfold keyE keyT
  rw [if_pos h0, hf, Int.toNat_natCast, List.getD_eq_getElem?_getD, hc, Option.getD_some, ht]

/-- The bounds behind 'begin'. -/
theorem begin_bounds {r r' : Kr} {leaf : Int} {j : Nat} {a b : Int} (hc : r'.chains = r.chains.take j ++ [⟨leaf, 0, 0, a, []⟩, ⟨leaf, 1, 0, b, []⟩] ++ r.chains.drop j) (b3 : ∀ c ∈ r.chains, c.kept.length ≤ 100 ∧ 0 ≤ c.gen ∧ c.gen ≤ 100000) :
    ∀ c ∈ r'.chains, c.kept.length ≤ 100 ∧ 0 ≤ c.gen ∧ c.gen ≤ 100000 := by
  intro c h
  rw [hc] at h
  simp only [List.mem_append, List.mem_cons, List.not_mem_nil, or_false] at h
  rcases h with (h | rfl | rfl) | h
  · exact b3 c (List.mem_of_mem_take h)
  · exact ⟨Nat.zero_le _, Int.le_refl 0, by show (0 : Int) ≤ 100000; decide⟩
  · exact ⟨Nat.zero_le _, Int.le_refl 0, by show (0 : Int) ≤ 100000; decide⟩
  · exact b3 c (List.mem_of_mem_drop h)

theorem KeyPost.drew {N : Nat → Prop} {w : World} {p : Nat} {q : GK × Kr × Int × List Nd} {en : Ending} {W : World} (h : KeyPost N w p q en W) : KeyPost N w p q en W.drew := by
  obtain ⟨v, u, he, h1, h2, h3, h4⟩ := h
  have hb : Below W.heap.size W W.drew := (Below.refl _ _).drew
  exact ⟨v, u, he, h1.below hb, ⟨h2.kp.drew, h2.new⟩, h3.step (Kp.of_all hb) (fun _ _ h => h), h4.step (Kp.of_all hb) (fun _ _ h => h)⟩

end Go.Proofs.YtnkndplbcbehkaaGreatDoor
