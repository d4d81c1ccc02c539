/-
  secrets: copied.
-/
import Derived.Test.YtnkndplbcbehkaaGreatDoorSecH
import Derived.Test.YtnkndplbcbehkaaGreatDoorSlGenKey
import Derived.Deep.RegionHeld3
set_option linter.unusedVariables false
set_option linter.unusedSimpArgs false
namespace Go.Proofs.YtnkndplbcbehkaaGreatDoor
open Go.RowKit Go.Cas
set_option maxHeartbeats 1000000
set_option maxRecDepth 20000

theorem own_zero {w : World} {b : Nat} {e : TypeId} {sz : Nat} {v : Value} {n : Nat} {xs : List Value} (h : w.ownsRow b e sz v n xs) : w.ownsRow 0 e sz v n xs := by
  refine ⟨h.1, ?_⟩
  rcases h.2 with hn | ⟨g, cap, cur, rfl, _, rest⟩
  · exact .inl hn
  · exact .inr ⟨g, cap, cur, rfl, Nat.zero_le _, rest⟩

theorem own_ge {w : World} {b : Nat} {e : TypeId} {sz : Nat} {v : Value} {n : Nat} {xs : List Value} (h : w.ownsRow b e sz v n xs) {B : Nat} (hb : B ≤ b) : w.ownsRow B e sz v n xs := by
  refine ⟨h.1, ?_⟩
  rcases h.2 with hn | ⟨g, cap, cur, rfl, hg, rest⟩
  · exact .inl hn
  · exact .inr ⟨g, cap, cur, rfl, Nat.le_trans hb hg, rest⟩

theorem own_slice {w : World} {b : Nat} {e : TypeId} {sz : Nat} {v : Value} {n : Nat} {xs : List Value} (h : w.ownsRow b e sz v n xs) : ∃ a c, v = .slice a n c := by
  rcases h.2 with ⟨rfl, rfl⟩ | ⟨g, cap, cur, rfl, _⟩
  · exact ⟨_, _, rfl⟩
  · exact ⟨_, _, rfl⟩

/-- A row of chains, its slices of kept keys named. -/
theorem Reps.chs {K : Nat → Prop} {w : World} : ∀ {l : List Ch} {xs : List Value}, Reps K w xs l →
    ∃ ks : List Value, ks.length = l.length ∧ xs = chCells l ks ∧ ∀ (i : Nat) (c : Ch) (k : Value), l[i]? = some c → ks[i]? = some k → SlRep K w k c.kept
  | [], xs, h => ⟨[], rfl, h, fun i c k hc => by simp at hc⟩
  | c :: l, xs, ⟨cs, rest, h1, ⟨v, h2, h2'⟩, h3⟩ => by
    obtain ⟨ks, e1, e2, e3⟩ := Reps.chs h3
    refine ⟨v :: ks, by simp [e1], by rw [h1, h2, e2]; rfl, fun i c' k hc hk => ?_⟩
    cases i with
    | zero => simp at hc hk; subst hc; subst hk; exact h2'
    | succ i => exact e3 i c' k (by simpa using hc) (by simpa using hk)

theorem chCells_set : ∀ (l : List Ch) (ks : List Value) (i : Nat) (k : Value), ks.length = l.length → i < l.length → (chCells l ks).set (i * 5 + 4) k = chCells l (ks.set i k)
  | [], _, _, _, _, h => by simp at h
  | c :: l, [], _, _, h, _ => by simp at h
  | c :: l, k' :: ks, 0, k, h, hi => by simp [chCells, Ch.cs]
  | c :: l, k' :: ks, i + 1, k, h, hi => by
    have := chCells_set l ks i k (by simpa using h) (by simpa using hi)
    simp only [List.set_cons_succ, chCells]
    rw [List.set_append_right _ _ (by simp [Ch.cs]; omega), ← this]
    congr 2; simp [Ch.cs]; omega

/-- What 'copied' tells: the rows of the copy. -/
structure Cp (w w' : World) (r : Kr) (v u : Value) (ks : List Value) : Prop where
  below : Below w.heap.size w w'
  nodes : w'.ownsRow w.heap.size 58 2 v r.nodes.length (r.nodes.flatMap Sec.cs)
  chains : w'.ownsRow w.heap.size 71 5 u r.chains.length (chCells r.chains ks)
  len : ks.length = r.chains.length
  kept : ∀ (i : Nat) (c : Ch) (k : Value), r.chains[i]? = some c → ks[i]? = some k → w'.ownsRow w.heap.size 39 3 k c.kept.length (c.kept.flatMap GK.cs)
  apart : ∀ (i j : Nat) (k k' : Value) (b : Nat), i ≠ j → ks[i]? = some k → ks[j]? = some k' → k.ownBlock = some b → k'.ownBlock ≠ some b

/-- The loop: i are copied. -/
structure Cl (w wr : World) (r : Kr) (g q : Nat) (v : Value) (olds : List Value) (i : Nat) (ks : List Value) : Prop where
  below : Below w.heap.size w wr
  gl : w.heap.size + 2 ≤ g
  res : wr.heap[w.heap.size + 1]? = some (.cells #[.int .i64 0, .slice none 0 0, .slice none 0 0] 32 (0, 0))
  gq : g ≠ q
  nodes : wr.ownsRow w.heap.size 58 2 v r.nodes.length (r.nodes.flatMap Sec.cs)
  row : wr.heap[g]? = some (.cells (chCells r.chains ks).toArray 71 (0, 0))
  out : wr.heap[q]? = some (.cells #[.int .i64 r.leaves, v, .slice (some ⟨g, 0, none⟩) r.chains.length r.chains.length] 32 (0, 0))
  len : ks.length = r.chains.length
  done : ∀ (j : Nat) (c : Ch) (k : Value), j < i → r.chains[j]? = some c → ks[j]? = some k → wr.ownsRow w.heap.size 39 3 k c.kept.length (c.kept.flatMap GK.cs)
  todo : ∀ j, i ≤ j → ks[j]? = olds[j]?
  apart : ∀ (j j' : Nat) (k k' : Value) (b : Nat), j < i → j' < i → j ≠ j' → ks[j]? = some k → ks[j']? = some k' → k.ownBlock = some b → k'.ownBlock ≠ some b

theorem Cl.below' {w wr w1 : World} {r : Kr} {g q : Nat} {v : Value} {olds : List Value} {i : Nat} {ks : List Value} (h : Cl w wr r g q v olds i ks) (hb : Below wr.heap.size wr w1) : Cl w w1 r g q v olds i ks :=
  ⟨h.below.trans (hb.mono h.below.size), h.gl, heap_bl hb h.res, h.gq, own_below h.nodes hb, heap_bl hb h.row, heap_bl hb h.out, h.len, fun j c k hj hc hk => own_below (h.done j c k hj hc hk) hb, h.todo, h.apart⟩

theorem Cl.step {w wr w1 : World} {r : Kr} {g q : Nat} {v : Value} {olds : List Value} {i : Nat} {ks : List Value} (h : Cl w wr r g q v olds i ks) (hb : Below wr.heap.size wr w1) {c : Ch} (hc : r.chains[i]? = some c) {k : Value}
    (hk : w1.ownsRow wr.heap.size 39 3 k c.kept.length (c.kept.flatMap GK.cs)) : Cl w (w1.setCell ⟨g, i * 5 + 4, none⟩ k) r g q v olds (i + 1) (ks.set i k) := by
  have h1 := h.below' hb
  have hi := getElem?_lt hc
  have hblk : ∀ b, b ≠ g → (w1.setCell ⟨g, i * 5 + 4, none⟩ k).heap[b]? = w1.heap[b]? := fun b hb => Below.heap_setCell _ _ _ _ hb
  have hown : ∀ {T : TypeId} {B sz n : Nat} {x : Value} {xs : List Value}, w1.ownsRow B T sz x n xs → T ≠ 71 → (w1.setCell ⟨g, i * 5 + 4, none⟩ k).ownsRow B T sz x n xs := fun {T B sz n x xs} hx hT =>
    own_block hx fun b hb => hblk b fun e => by
      obtain ⟨cu, hc⟩ := own_type (own_zero hx) hb
      rw [e, h1.row] at hc; cases hc; exact hT rfl
  have hset : ∀ j, (ks.set i k)[j]? = if i = j then some k else ks[j]? := fun j => by
    rw [List.getElem?_set]
    split
    · rw [if_pos (by rw [h.len]; exact hi)]
    · rfl
  refine ⟨h1.below.setCell (by have := h.gl; show w.heap.size ≤ g; omega) _, h.gl, by rw [hblk _ (by have := h.gl; omega)]; exact h1.res, h.gq, hown h1.nodes (by decide), ?_, ?_, by simp [h.len], fun j c' k' hj hc' hk' => ?_, fun j hj => ?_, fun j j' a a' b hj hj' hne ha ha' hb1 => ?_⟩
  · have := Lib.heap_setCell_same (i := i * 5 + 4) h1.row k
    rw [this]
    congr 2
    rw [← chCells_set _ _ _ _ h.len hi]
    simp
  · rw [hblk q (fun e => h.gq e.symm)]; exact h1.out
  · rw [hset] at hk'
    split at hk'
    · rename_i e; subst e; cases hk'; rw [hc] at hc'; cases hc'; exact own_ge (hown hk (by decide)) h.below.size
    · exact hown (h1.done j c' k' (by omega) hc' hk') (by decide)
  · rw [hset, if_neg (by omega)]; exact h.todo j (by omega)
  · rw [hset] at ha ha'
    have hfar : ∀ (j : Nat) (a : Value) (b : Nat), j < i → ks[j]? = some a → a.ownBlock = some b → b < wr.heap.size := fun j a b hj ha hb => by
      have hjl : j < r.chains.length := by omega
      exact ((h.done j _ a hj (List.getElem?_eq_getElem hjl) ha).lt b hb).2
    have hnew : ∀ b, k.ownBlock = some b → wr.heap.size ≤ b := fun b hb => (hk.lt b hb).1
    split at ha
    · cases ha
      split at ha'
      · omega
      · intro e
        have := hfar j' a' b (by omega) ha' e
        have := hnew b hb1; omega
    · split at ha'
      · cases ha'
        intro e
        have := hfar j a b (by omega) ha hb1
        have := hnew b e; omega
      · exact h.apart j j' a a' b (by omega) (by omega) hne ha ha' hb1

theorem heap_set3 {w : World} {q k : Nat} (hk : k ≠ q) (a b c : Value) : (((w.setCell ⟨q, 0, none⟩ a).setCell ⟨q, 1, none⟩ b).setCell ⟨q, 2, none⟩ c).heap[k]? = w.heap[k]? := by
  rw [Below.heap_setCell _ _ _ _ hk, Below.heap_setCell _ _ _ _ hk, Below.heap_setCell _ _ _ _ hk]

theorem own_set3 {w : World} {q : Nat} {cs : Array Value} {T : TypeId} {fr : Nat × Nat} (hq : w.heap[q]? = some (.cells cs T fr)) {B : Nat} {e : TypeId} {sz : Nat} {v : Value} {n : Nat} {xs : List Value} (h : w.ownsRow B e sz v n xs) (hT : T ≠ e) (a b c : Value) :
    (((w.setCell ⟨q, 0, none⟩ a).setCell ⟨q, 1, none⟩ b).setCell ⟨q, 2, none⟩ c).ownsRow B e sz v n xs :=
  own_block h fun k hk => heap_set3 (fun e => own_ne h hq hT (by rw [hk, e])) _ _ _

theorem same_set3 {w : World} {q : Nat} {x y z : Value} {T : TypeId} {fr : Nat × Nat} (hq : w.heap[q]? = some (.cells #[x, y, z] T fr)) (a b c : Value) :
    (((w.setCell ⟨q, 0, none⟩ a).setCell ⟨q, 1, none⟩ b).setCell ⟨q, 2, none⟩ c).heap[q]? = some (.cells #[a, b, c] T fr) := by
  have := Lib.heap_setCell_same (i := 2) (Lib.heap_setCell_same (i := 1) (Lib.heap_setCell_same (i := 0) hq a) b) c
  simpa using this

theorem Cl.fin {w wr : World} {r : Kr} {g q : Nat} {v : Value} {olds : List Value} {ks : List Value} (h : Cl w wr r g q v olds r.chains.length ks) (hn : r.chains.length ≤ 1000) (a b c : Value) :
    Cp w (((wr.setCell ⟨w.heap.size + 1, 0, none⟩ a).setCell ⟨w.heap.size + 1, 1, none⟩ b).setCell ⟨w.heap.size + 1, 2, none⟩ c) r v (.slice (some ⟨g, 0, none⟩) r.chains.length r.chains.length) ks := by
  have hz := h.res
  have hown : ∀ {B : Nat} {e : TypeId} {sz n : Nat} {x : Value} {xs : List Value}, wr.ownsRow B e sz x n xs → 32 ≠ e → (((wr.setCell ⟨w.heap.size + 1, 0, none⟩ a).setCell ⟨w.heap.size + 1, 1, none⟩ b).setCell ⟨w.heap.size + 1, 2, none⟩ c).ownsRow B e sz x n xs :=
    fun {B e sz n x xs} hx hT => own_block hx fun k hk => heap_set3 (fun e => own_ne hx hz hT (by rw [hk, e])) _ _ _
  refine ⟨((h.below.setCell (p := ⟨w.heap.size + 1, 0, none⟩) (by simp) _).setCell (p := ⟨w.heap.size + 1, 1, none⟩) (by simp) _).setCell (p := ⟨w.heap.size + 1, 2, none⟩) (by simp) _, hown h.nodes (by decide), ?_, h.len, fun i c k hc hk => ?_, fun i j k k' b hij hk hk' => ?_⟩
  · refine hown ⟨chCells_len _ _ h.len, .inr ⟨g, r.chains.length, _, rfl, by have := h.gl; omega, h.row, Nat.le_refl _, by unfold maxLen; omega, ?_, ?_⟩⟩ (by decide)
    · rw [List.size_toArray, chCells_len _ _ h.len]
    · exact List.take_of_length_le (by rw [List.toList_toArray, chCells_len _ _ h.len]; exact Nat.le_refl _)
  · exact hown (h.done i c k (getElem?_lt hc) hc hk) (by decide)
  · exact h.apart i j k k' b (by have := getElem?_lt hk; rw [h.len] at this; exact this) (by have := getElem?_lt hk'; rw [h.len] at this; exact this) hij hk hk'

/-- Behind the first statement: the row is made, the ring is laid. -/
structure C0 (w W : World) (r : Kr) (v0 u0 : Value) (mc : Array Value) (g q : Nat) (v : Value) : Prop where
  below : Below w.heap.size w W
  gl : w.heap.size + 2 ≤ g
  res : W.heap[w.heap.size + 1]? = some (.cells #[.int .i64 0, .slice none 0 0, .slice none 0 0] 32 (0, 0))
  box : W.heap[w.heap.size]? = some (.cells #[.int .i64 r.leaves, v0, u0] 32 (0, 0))
  gq : g ≠ q
  nodes : W.ownsRow w.heap.size 58 2 v r.nodes.length (r.nodes.flatMap Sec.cs)
  row : W.heap[g]? = some (.cells mc 71 (0, 0))
  out : W.heap[q]? = some (.cells #[.int .i64 r.leaves, v, .slice (some ⟨g, 0, none⟩) r.chains.length r.chains.length] 32 (0, 0))

/-- The copy of the chains' row. -/
theorem C0.copy {w W : World} {r : Kr} {v0 u0 : Value} {mc : Array Value} {g q : Nat} {v : Value} (h : C0 w W r v0 u0 mc g q v) (hmc : mc.size = r.chains.length * 5) {K : Nat → Prop} {u : Value} (hu : SlRep K w u r.chains) (hn : r.chains.length ≤ 1000) :
    ∃ olds : List Value, (∀ (i : Nat) (c : Ch) (k : Value), r.chains[i]? = some c → olds[i]? = some k → SlRep K w k c.kept) ∧
      (∀ ty, (Builtin.copy_ #[30, 30] ty #[.slice (some ⟨g, 0, none⟩) r.chains.length r.chains.length, u]).run Tryz.prog W = .ok (goInt (r.chains.length : Int)) (W.setRow g (chCells r.chains olds).toArray)) ∧
      Cl w (W.setRow g (chCells r.chains olds).toArray) r g q v olds 0 olds := by
  obtain ⟨xs, q1, q2⟩ := hu
  have q3 := q2.one
  obtain ⟨olds, e1, rfl, e3⟩ := Reps.chs q2
  have hlen := chCells_len r.chains olds e1
  refine ⟨olds, e3, fun ty => ?_, ?_⟩
  · have h1 := run_copy_k (P := Tryz.prog) (w := W) el_Chains ty 30 (dCap := r.chains.length) (o := 0) (dLen := r.chains.length) h.row (q1.step (Kp.of_all h.below) (fun _ _ h => h))
      (fun u hu => q3 u (List.mem_of_mem_take hu)) (by rw [show Nat.min r.chains.length r.chains.length = r.chains.length from Nat.min_self _, hmc]; omega)
    rw [h1, show Nat.min r.chains.length r.chains.length = r.chains.length from Nat.min_self _, List.take_of_length_le (l := chCells r.chains olds) (by omega), List.drop_of_length_le (by rw [Array.length_toList, hmc]; omega)]
    simp
  · have hg : ∀ k, k ≠ g → (W.setRow g (chCells r.chains olds).toArray).heap[k]? = W.heap[k]? := fun k hk => by
      simp only [World.setRow, Array.getElem?_modify]; rw [if_neg (fun e => hk e.symm)]
    refine ⟨⟨h.below.os, h.below.tape, h.below.output, by rw [size_setRow]; exact h.below.size, fun k hk => ?_⟩, h.gl, by rw [hg _ (by have := h.gl; omega)]; exact h.res, h.gq, own_block h.nodes (fun k hk => hg k ?_), setRow_at h.row _, ?_, e1, fun j c k hj => by omega, fun j _ => rfl, fun j j' k k' b hj => by omega⟩
    · rw [hg k (by have := h.gl; omega)]; exact h.below.block k hk
    · intro e
      have := own_ne h.nodes h.row (by decide)
      exact this (by rw [hk, e])
    · rw [hg q (fun e => h.gq e.symm)]; exact h.out

theorem C0.mk' {w w2 W : World} {r : Kr} {v0 u0 : Value} {mc : Array Value} {g q B : Nat} {v : Value} (s0 : w2.heap[w.heap.size]? = some (.cells #[.int .i64 r.leaves, v0, u0] 32 (0, 0))) (s1 : w2.heap[w.heap.size + 1]? = some (.cells #[.int .i64 0, .slice none 0 0, .slice none 0 0] 32 (0, 0))) (h2 : Below w.heap.size w w2) (hb : Below w2.heap.size w2 W) (hg : w2.heap.size ≤ g) (hq : g ≠ q) (ho : W.ownsRow B 58 2 v r.nodes.length (r.nodes.flatMap Sec.cs)) (hB : w2.heap.size ≤ B)
    (hr : W.heap[g]? = some (.cells mc 71 (0, 0))) (hz : W.heap[q]? = some (.cells #[.int .i64 r.leaves, v, .slice (some ⟨g, 0, none⟩) r.chains.length r.chains.length] 32 (0, 0))) : C0 w W r v0 u0 mc g q v :=
  ⟨h2.trans (hb.mono h2.size), by have := heap_lt s1; omega, heap_bl hb s1, heap_bl hb s0, hq, own_ge ho (Nat.le_trans h2.size hB), hr, hz⟩

theorem gks1 (l : List GK) : ∀ u ∈ l.flatMap GK.cs, u.oneCell' = true := by
  intro u hu
  obtain ⟨x, _, hx⟩ := List.mem_flatMap.1 hu
  simp only [GK.cs, List.mem_cons, List.not_mem_nil, or_false] at hx
  rcases hx with rfl | rfl | rfl <;> rfl

theorem secs1 (l : List Sec) : ∀ u ∈ l.flatMap Sec.cs, u.oneCell' = true := by
  intro u hu
  obtain ⟨x, _, hx⟩ := List.mem_flatMap.1 hu
  simp only [Sec.cs, List.mem_cons, List.not_mem_nil, or_false] at hx
  rcases hx with rfl | rfl <;> rfl

set_option maxHeartbeats 4000000 in
theorem sCopied_any (K : Nat → Prop) (v u : Value) (r : Kr) (w : World) (hv : SlRep K w v r.nodes) (hu : SlRep K w u r.chains) (b1 : r.nodes.length ≤ 1000) (b2 : r.chains.length ≤ 1000) (b3 : ∀ c ∈ r.chains, c.kept.length ≤ 100) :
    Calls Tryz.prog 18 #[.agg #[.int .i64 r.leaves, v, u]] w fun e w' => ∃ v' u' ks, e = .returned (.agg #[.int .i64 r.leaves, v', u']) ∧ Cp w w' r v' u' ks := by
  generalize hw2 : ((w.alloc (.cells #[.int .i64 r.leaves, v, u] 32)).alloc (.cells #[.int .i64 0, .slice none 0 0, .slice none 0 0] 32)) = w2
  have hB : Below w.heap.size w w2 := by
    rw [← hw2]
    exact ((Below.refl _ _).alloc (Nat.le_refl _) _).alloc (by simp) _
  have s0 : w2.heap[w.heap.size]? = some (.cells #[.int .i64 r.leaves, v, u] 32 (0, 0)) := by
    rw [← hw2]; exact heap_al _ (heap_new _ _)
  have s1 : w2.heap[w.heap.size + 1]? = some (.cells #[.int .i64 0, .slice none 0 0, .slice none 0 0] 32 (0, 0)) := by
    rw [← hw2]
    have := heap_new (w.alloc (.cells #[.int .i64 r.leaves, v, u] 32)) (.cells #[.int .i64 0, .slice none 0 0, .slice none 0 0] 32)
    simpa using this
  have c0 : w2.cell? ⟨w.heap.size, 0, none⟩ = some (.int .i64 r.leaves) := by rw [cell_of_row _ _ _ _ _ _ s0]; rfl
  have c1 : w2.cell? ⟨w.heap.size, 1, none⟩ = some v := by rw [cell_of_row _ _ _ _ _ _ s0]; rfl
  have c2 : w2.cell? ⟨w.heap.size, 2, none⟩ = some u := by rw [cell_of_row _ _ _ _ _ _ s0]; rfl
  obtain ⟨ua, uc, rfl, uc1, uc2⟩ := hu.form
  have HB := Lib.hid hB
  have HV := Lib.hid (hv.step (Kp.of_all hB) (fun _ _ h => h))
  have HU := Lib.hid hu
  have H3 := Lib.hid b3
  have HW := Lib.hid hw2
  have hcl : ∀ W, Below w2.heap.size w2 W → Calls Tryz.prog 30 #[v] W fun e W' => ∃ v', e = .returned v' ∧ Below W.heap.size W W' ∧ W'.ownsRow W.heap.size 58 2 v' r.nodes.length (r.nodes.flatMap Sec.cs) := by
    intro W hb
    obtain ⟨xs, q1, q2⟩ := HV.out.step (Kp.of_all hb) (fun _ _ h => h)
    rw [Reps.secs] at q2
    subst q2
    refine (cloneSecret_any _ v _ _ W q1 (secs1 _) (by omega)).mono ?_
    rintro e W' ⟨v', h1, h2, h3, _⟩
    exact ⟨v', h1, h2, h3⟩
  have HCL := Lib.hid hcl
  obtain ⟨mc, hmc, hmk⟩ : ∃ mc : Array Value, mc.size = r.chains.length * 5 ∧ ∀ W, (Instr.makeSlice 30 (.int .i64 (r.chains.length : Int)) (.int .i64 (r.chains.length : Int))).run Tryz.prog W = .ok (.slice (some ⟨W.heap.size, 0, none⟩) r.chains.length r.chains.length) (W.alloc (.cells mc 71)) := by
    obtain ⟨i, z, hi, hz, hs, hby, hzs⟩ := el_Chains.hi
    refine ⟨madeCells z.cells (r.chains.length * 5), size_madeCells _ _, fun W => ?_⟩
    have h := run_make (P := Tryz.prog) W 30 71 i z el_Chains.ht hi hz .i64 .i64 r.chains.length r.chains.length (by omega) (Int.le_refl _) (by rw [hby]; omega) (by omega)
    simpa [hs] using h
  have hn1 : ¬ (w2.heap.size = w.heap.size) := by have := heap_lt s1; omega
  have hn2 : ¬ (w2.heap.size + 1 = w.heap.size) := by have := heap_lt s1; omega
  clear hw2 hB hv hu hcl b3
  go_enter Tryz.func18, Tryz.ntmps18
  go_wp2_with fail
  rw [HW.out]
  go_region_held3 (fun w' => w'.cell? ⟨w.heap.size, 0, none⟩ = some (.int .i64 r.leaves) ∧ w'.cell? ⟨w.heap.size, 1, none⟩ = some v ∧ w'.cell? ⟨w.heap.size, 2, none⟩ = some (.slice ua r.chains.length uc)) (go_keep) (first | (go_at_call 30; refine (HCL.out _ (by repeat (first | exact Below.refl _ _ | refine Below.drew ?_ | refine Below.alloc ?_ (by simp; try omega) _))).mono ?_; rintro en W' ⟨v', rfl, hb', ho'⟩; obtain ⟨va, vc, rfl⟩ := own_slice ho'; have HB' := Lib.hid hb'; have HO' := Lib.hid ho'; clear ho'; have k0 : W'.cell? ⟨w.heap.size, 0, none⟩ = some (.int .i64 r.leaves) := cell_bl hb' (by simp [*]); have k1 : W'.cell? ⟨w.heap.size, 1, none⟩ = some v := cell_bl hb' (by simp [*]); have k2 : W'.cell? ⟨w.heap.size, 2, none⟩ = some (.slice ua r.chains.length uc) := cell_bl hb' (by simp [*]); first | (have kz : W'.heap[w2.heap.size]? = some (.cells #[.int .i64 0, .slice none 0 0, .slice none 0 0] 32 (0, 0)) := heap_bl hb' (by first | exact heap_new w2.drew _ | exact heap_al _ (heap_new w2.drew _)); have z0 := cell_of_row _ _ 0 _ _ _ kz; have z1 := cell_of_row _ _ 1 _ _ _ kz; have z2 := cell_of_row _ _ 2 _ _ _ kz; simp only [List.getElem?_toArray, List.getElem?_cons_succ, List.getElem?_cons_zero] at z0 z1 z2; have y0 := frozen_of_row _ _ 0 _ _ kz; have y1 := frozen_of_row _ _ 1 _ _ kz; have y2 := frozen_of_row _ _ 2 _ _ kz; have x0 := cell_al (.cells mc 71) z0; have x1 := cell_al (.cells mc 71) z1; have x2 := cell_al (.cells mc 71) z2; have u0 := fz_al (.cells mc 71) (heap_lt kz) y0; have u1 := fz_al (.cells mc 71) (heap_lt kz) y1; have u2 := fz_al (.cells mc 71) (heap_lt kz) y2; have KZ := Lib.hid kz; clear kz) | (have kz : W'.heap[w2.heap.size + 1]? = some (.cells #[.int .i64 0, .slice none 0 0, .slice none 0 0] 32 (0, 0)) := heap_bl hb' (by have hh := heap_new (w2.drew.alloc (.cells mc 71)) (.cells #[.int .i64 0, .slice none 0 0, .slice none 0 0] 32); rw [show (w2.drew.alloc (.cells mc 71)).heap.size = w2.heap.size + 1 by simp] at hh; exact hh); have z0 := cell_of_row _ _ 0 _ _ _ kz; have z1 := cell_of_row _ _ 1 _ _ _ kz; have z2 := cell_of_row _ _ 2 _ _ _ kz; simp only [List.getElem?_toArray, List.getElem?_cons_succ, List.getElem?_cons_zero] at z0 z1 z2; have y0 := frozen_of_row _ _ 0 _ _ kz; have y1 := frozen_of_row _ _ 1 _ _ kz; have y2 := frozen_of_row _ _ 2 _ _ kz; have x0 := cell_al (.cells mc 71) z0; have x1 := cell_al (.cells mc 71) z1; have x2 := cell_al (.cells mc 71) z2; have u0 := fz_al (.cells mc 71) (heap_lt kz) y0; have u1 := fz_al (.cells mc 71) (heap_lt kz) y1; have u2 := fz_al (.cells mc 71) (heap_lt kz) y2; have KZ := Lib.hid kz; clear kz) | skip))
  case' _ =>
    have HC := Lib.hid (C0.mk' (W := ((W'.alloc (.cells mc 71)).alloc (.cells #[.int .i64 r.leaves, .slice va r.nodes.length vc, .slice (some ⟨W'.heap.size, 0, none⟩) r.chains.length r.chains.length] 32))) (g := W'.heap.size) (q := W'.heap.size + 1) (B := _) s0 s1 HB.out ((((Below.refl w2.heap.size w2).drew.trans HB'.out).alloc HB'.out.size _).alloc (by have := HB'.out.size; simp at this ⊢; try omega) _) HB'.out.size (by omega) ((HO'.out.alloc _).alloc _) (Nat.le_refl _) (heap_al _ (heap_new W' _)) (by simpa using heap_new (W'.alloc (.cells mc 71)) _))
    generalize ((W'.alloc (.cells mc 71)).alloc (.cells #[.int .i64 r.leaves, .slice va r.nodes.length vc, .slice (some ⟨W'.heap.size, 0, none⟩) r.chains.length r.chains.length] 32)) = W at HC ⊢
    generalize W'.heap.size + 1 = q at HC ⊢
    generalize W'.heap.size = g at HC ⊢
  rotate_left
  case' _ =>
    have HC := Lib.hid (C0.mk' (W := ((W'.alloc (.cells #[.int .i64 r.leaves, .slice va r.nodes.length vc, .slice (some ⟨W'.heap.size + 1, 0, none⟩) r.chains.length r.chains.length] 32)).alloc (.cells mc 71))) (g := W'.heap.size + 1) (q := W'.heap.size) (B := _) s0 s1 HB.out ((((Below.refl w2.heap.size w2).drew.trans HB'.out).alloc HB'.out.size _).alloc (by have := HB'.out.size; simp at this ⊢; try omega) _) (by have := HB'.out.size; simp at this ⊢; try omega) (by omega) ((HO'.out.alloc _).alloc _) (Nat.le_refl _) (by simpa using heap_new (W'.alloc (.cells #[.int .i64 r.leaves, .slice va r.nodes.length vc, .slice (some ⟨W'.heap.size + 1, 0, none⟩) r.chains.length r.chains.length] 32)) (.cells mc 71)) (heap_al _ (heap_new W' _)))
    generalize ((W'.alloc (.cells #[.int .i64 r.leaves, .slice va r.nodes.length vc, .slice (some ⟨W'.heap.size + 1, 0, none⟩) r.chains.length r.chains.length] 32)).alloc (.cells mc 71)) = W at HC ⊢
    generalize W'.heap.size + 1 = g at HC ⊢
    generalize W'.heap.size = q at HC ⊢
  rotate_left
  case' _ =>
    have HC := Lib.hid (C0.mk' (W := (W'.alloc (.cells #[.int .i64 r.leaves, .slice va r.nodes.length vc, .slice (some ⟨w2.heap.size, 0, none⟩) r.chains.length r.chains.length] 32))) (g := w2.heap.size) (q := W'.heap.size) (B := _) s0 s1 HB.out ((((Below.refl w2.heap.size w2).alloc (Nat.le_refl _) (.cells mc 71)).drew.trans (HB'.out.mono (by simp))).alloc (by have := HB'.out.size; simp at this ⊢; try omega) _) (Nat.le_refl _) (by have := HB'.out.size; simp at this ⊢; try omega) (HO'.out.alloc _) (by simp) (heap_al _ (heap_bl HB'.out (heap_new w2 (.cells mc 71)))) (heap_new W' _))
    generalize (W'.alloc (.cells #[.int .i64 r.leaves, .slice va r.nodes.length vc, .slice (some ⟨w2.heap.size, 0, none⟩) r.chains.length r.chains.length] 32)) = W at HC ⊢
    generalize W'.heap.size = q at HC ⊢
    generalize w2.heap.size = g at HC ⊢
  rotate_left
  case' _ =>
    have HC := Lib.hid (C0.mk' (W := (((W'.setCell ⟨w2.heap.size + 1, 0, none⟩ (.int .i64 r.leaves)).setCell ⟨w2.heap.size + 1, 1, none⟩ (.slice va r.nodes.length vc)).setCell ⟨w2.heap.size + 1, 2, none⟩ (.slice (some ⟨w2.heap.size, 0, none⟩) r.chains.length r.chains.length))) (g := w2.heap.size) (q := w2.heap.size + 1) (B := _) s0 s1 HB.out (((((((Below.refl w2.heap.size w2).alloc (Nat.le_refl _) (.cells mc 71)).alloc (by simp) (.cells #[.int .i64 0, .slice none 0 0, .slice none 0 0] 32)).drew.trans (HB'.out.mono (by simp; omega))).setCell (p := ⟨w2.heap.size + 1, 0, none⟩) (by simp) _).setCell (p := ⟨w2.heap.size + 1, 1, none⟩) (by simp) _).setCell (p := ⟨w2.heap.size + 1, 2, none⟩) (by simp) _) (Nat.le_refl _) (by omega) (own_set3 KZ.out HO'.out (by decide) _ _ _) (by simp; omega) (by rw [heap_set3 (by omega)]; exact heap_bl HB'.out (heap_al _ (heap_new w2 (.cells mc 71)))) (same_set3 KZ.out _ _ _))
    generalize (((W'.setCell ⟨w2.heap.size + 1, 0, none⟩ (.int .i64 r.leaves)).setCell ⟨w2.heap.size + 1, 1, none⟩ (.slice va r.nodes.length vc)).setCell ⟨w2.heap.size + 1, 2, none⟩ (.slice (some ⟨w2.heap.size, 0, none⟩) r.chains.length r.chains.length)) = W at HC ⊢
    generalize w2.heap.size + 1 = q at HC ⊢
    generalize w2.heap.size = g at HC ⊢
  rotate_left
  case' _ =>
    have HC := Lib.hid (C0.mk' (W := ((((W'.alloc (.cells mc 71)).setCell ⟨w2.heap.size, 0, none⟩ (.int .i64 r.leaves)).setCell ⟨w2.heap.size, 1, none⟩ (.slice va r.nodes.length vc)).setCell ⟨w2.heap.size, 2, none⟩ (.slice (some ⟨W'.heap.size, 0, none⟩) r.chains.length r.chains.length))) (g := W'.heap.size) (q := w2.heap.size) (B := _) s0 s1 HB.out (((((((Below.refl w2.heap.size w2).alloc (Nat.le_refl _) (.cells #[.int .i64 0, .slice none 0 0, .slice none 0 0] 32)).drew.trans (HB'.out.mono (by simp))).alloc (by have := HB'.out.size; simp at this ⊢; try omega) _).setCell (p := ⟨w2.heap.size, 0, none⟩) (by simp) _).setCell (p := ⟨w2.heap.size, 1, none⟩) (by simp) _).setCell (p := ⟨w2.heap.size, 2, none⟩) (by simp) _) (by have := HB'.out.size; simp at this ⊢; try omega) (by have := HB'.out.size; simp at this ⊢; try omega) (own_set3 (heap_al _ KZ.out) (HO'.out.alloc _) (by decide) _ _ _) (by simp) (by rw [heap_set3 (by have := HB'.out.size; simp at this ⊢; try omega)]; exact heap_new W' (.cells mc 71)) (same_set3 (heap_al _ KZ.out) _ _ _))
    generalize ((((W'.alloc (.cells mc 71)).setCell ⟨w2.heap.size, 0, none⟩ (.int .i64 r.leaves)).setCell ⟨w2.heap.size, 1, none⟩ (.slice va r.nodes.length vc)).setCell ⟨w2.heap.size, 2, none⟩ (.slice (some ⟨W'.heap.size, 0, none⟩) r.chains.length r.chains.length)) = W at HC ⊢
    generalize w2.heap.size = q at HC ⊢
    generalize W'.heap.size = g at HC ⊢
  rotate_left
  case' _ =>
    have HC := Lib.hid (C0.mk' (W := (((W'.setCell ⟨w2.heap.size, 0, none⟩ (.int .i64 r.leaves)).setCell ⟨w2.heap.size, 1, none⟩ (.slice va r.nodes.length vc)).setCell ⟨w2.heap.size, 2, none⟩ (.slice (some ⟨w2.heap.size + 1, 0, none⟩) r.chains.length r.chains.length))) (g := w2.heap.size + 1) (q := w2.heap.size) (B := _) s0 s1 HB.out (((((((Below.refl w2.heap.size w2).alloc (Nat.le_refl _) (.cells #[.int .i64 0, .slice none 0 0, .slice none 0 0] 32)).alloc (by simp) (.cells mc 71)).drew.trans (HB'.out.mono (by simp; omega))).setCell (p := ⟨w2.heap.size, 0, none⟩) (by simp) _).setCell (p := ⟨w2.heap.size, 1, none⟩) (by simp) _).setCell (p := ⟨w2.heap.size, 2, none⟩) (by simp) _) (by omega) (by omega) (own_set3 KZ.out HO'.out (by decide) _ _ _) (by simp; omega) (by rw [heap_set3 (by omega)]; exact heap_bl HB'.out (by have hh := heap_new (w2.alloc (.cells #[.int .i64 0, .slice none 0 0, .slice none 0 0] 32)) (.cells mc 71); rw [show (w2.alloc (.cells #[.int .i64 0, .slice none 0 0, .slice none 0 0] 32)).heap.size = w2.heap.size + 1 by simp] at hh; exact hh)) (same_set3 KZ.out _ _ _))
    generalize (((W'.setCell ⟨w2.heap.size, 0, none⟩ (.int .i64 r.leaves)).setCell ⟨w2.heap.size, 1, none⟩ (.slice va r.nodes.length vc)).setCell ⟨w2.heap.size, 2, none⟩ (.slice (some ⟨w2.heap.size + 1, 0, none⟩) r.chains.length r.chains.length)) = W at HC ⊢
    generalize w2.heap.size + 1 = g at HC ⊢
    generalize w2.heap.size = q at HC ⊢
  rotate_left
  all_goals
    clear hmk HCL HV
    obtain ⟨olds, ho, hcp, hcl⟩ := HC.out.copy hmc HU.out b2
    have e0 : W.cell? ⟨q, 2, none⟩ = some (.slice (some ⟨g, 0, none⟩) r.chains.length r.chains.length) := by rw [cell_of_row _ _ _ _ _ _ HC.out.out]; rfl
    have e1 : W.cell? ⟨w.heap.size, 2, none⟩ = some (.slice ua r.chains.length uc) := by rw [cell_of_row _ _ _ _ _ _ HC.out.box]; rfl
    have e2 : (W.setRow g (chCells r.chains olds).toArray).cell? ⟨q, 2, none⟩ = some (.slice (some ⟨g, 0, none⟩) r.chains.length r.chains.length) := by rw [cell_of_row _ _ _ _ _ _ hcl.out]; rfl
    have HO := Lib.hid ho
    have HCL := Lib.hid hcl
    have HCP := Lib.hid hcp
    clear ho hcl hcp HC
    go_wp2_with fail
    rw [HCP.out _]
    generalize W.setRow g (chCells r.chains olds).toArray = W1 at HCL e2 ⊢
    go_wp2_with fail
    go_loopw [23] (fun i wr => ∃ (k : Nat) (ks : List Value), k ≤ r.chains.length ∧ i = .int .i64 k ∧ Hid (Cl w wr r g q (.slice va r.nodes.length vc) olds k ks)) (fun i _ => r.chains.length - (intOf i).toNat)
    case atStart => exact ⟨0, olds, Nat.zero_le _, rfl, HCL⟩
    case round =>
      obtain ⟨k, ks, hk, rfl, HK⟩ := hrel
      have e3 : wr.cell? ⟨q, 2, none⟩ = some (.slice (some ⟨g, 0, none⟩) r.chains.length r.chains.length) := by rw [cell_of_row _ _ _ _ _ _ HK.out.out]; rfl
      by_cases hlt : k < r.chains.length
      · obtain ⟨c, hc⟩ : ∃ c, r.chains[k]? = some c := ⟨_, List.getElem?_eq_getElem hlt⟩
        obtain ⟨kv, hkv⟩ : ∃ kv, ks[k]? = some kv := ⟨_, List.getElem?_eq_getElem (by rw [HK.out.len]; exact hlt)⟩
        have e4 : wr.cell? ⟨g, k * 5 + 4, none⟩ = some kv := by
          rw [cell_of_row _ _ _ _ _ _ HK.out.row, List.getElem?_toArray]
          exact chCells_at hc hkv 4 _ rfl
        have f4 : wr.frozen? ⟨g, k * 5 + 4, none⟩ = false := frozen_of_row _ _ _ _ _ HK.out.row
        have hkold : olds[k]? = some kv := by rw [← HK.out.todo k (Nat.le_refl _)]; exact hkv
        have hck : ∀ W', Below wr.heap.size wr W' → Calls Tryz.prog 31 #[kv] W' fun e W'' => ∃ v', e = .returned v' ∧ Below W'.heap.size W' W'' ∧ W''.ownsRow W'.heap.size 39 3 v' c.kept.length (c.kept.flatMap GK.cs) := by
          intro W' hb
          obtain ⟨xs, q1, q2⟩ := ((HO.out k c kv hc hkold).step (Kp.of_all (HK.out.below.trans (hb.mono HK.out.below.size))) (fun _ _ h => h))
          rw [Reps.gks] at q2
          subst q2
          have := H3.out c (List.mem_of_getElem? hc)
          refine (cloneGenKey_any _ kv _ _ W' q1 (gks1 _) (by omega)).mono ?_
          rintro e W' ⟨v', h1, h2, h3, _⟩
          exact ⟨v', h1, h2, h3⟩
        have HCK := Lib.hid hck
        have hgq : ¬ (g = q) := HK.out.gq
        have HC' := Lib.hid hc
        clear hck hkold hkv hc
        go_wp2_with fail
        go_region_law (first | (go_simp; go_at_call 31; refine (HCK.out _ (Below.refl _ _).drew).mono ?_; rintro en W'' ⟨v', rfl, hb', ho'⟩; obtain ⟨xa, xc, rfl⟩ := own_slice ho'; have HB2 := Lib.hid hb'; have HO2 := Lib.hid ho'; have e5 : W''.cell? ⟨q, 2, none⟩ = some (.slice (some ⟨g, 0, none⟩) r.chains.length r.chains.length) := cell_bl hb' e3; have e6 : W''.cell? ⟨g, k * 5 + 4, none⟩ = some kv := cell_bl hb' e4; have f6 : W''.frozen? ⟨g, k * 5 + 4, none⟩ = false := (frozen_of_row _ _ _ _ _ (heap_bl hb' (show wr.drew.heap[g]? = _ from HK.out.row))); clear hb' ho'))
        all_goals
          go_wp2_with fail
          go_round
          case rel => exact ⟨k + 1, _, by omega, by go_num, Lib.hid (HK.out.step ((Below.refl _ wr).drew.trans HB2.out) HC'.out HO2.out)⟩
          case measure => simp [intOf]; omega
      · obtain rfl : k = r.chains.length := by omega
        have h0 := HK.out.out
        have l0 := cell_of_row _ _ 0 _ _ _ h0
        have l1 := cell_of_row _ _ 1 _ _ _ h0
        have l2 := cell_of_row _ _ 2 _ _ _ h0
        have hz := HK.out.res
        have z0 := cell_of_row _ _ 0 _ _ _ hz
        have z1 := cell_of_row _ _ 1 _ _ _ hz
        have z2 := cell_of_row _ _ 2 _ _ _ hz
        have m0 := frozen_of_row _ _ 0 _ _ hz
        have m1 := frozen_of_row _ _ 1 _ _ hz
        have m2 := frozen_of_row _ _ 2 _ _ hz
        simp only [List.getElem?_toArray, List.getElem?_cons_succ, List.getElem?_cons_zero] at l0 l1 l2 z0 z1 z2
        have HZ := Lib.hid hz
        clear h0 hz
        go_wp2_with fail
        have hz3 := same_set3 HZ.out (.int .i64 r.leaves) (.slice va r.nodes.length vc) (.slice (some ⟨g, 0, none⟩) r.chains.length r.chains.length)
        have n0 := cell_of_row _ _ 0 _ _ _ hz3
        have n1 := cell_of_row _ _ 1 _ _ _ hz3
        have n2 := cell_of_row _ _ 2 _ _ _ hz3
        simp only [List.getElem?_toArray, List.getElem?_cons_succ, List.getElem?_cons_zero] at n0 n1 n2
        refine bodyPost_ret (v := .agg #[.int .i64 r.leaves, .slice va r.nodes.length vc, .slice (some ⟨g, 0, none⟩) r.chains.length r.chains.length]) (by simp [results, Tryz.results18, go_sem, n0, n1, n2]) rfl ?_
        exact ⟨_, _, ks, rfl, HK.out.fin b2 _ _ _⟩

end Go.Proofs.YtnkndplbcbehkaaGreatDoor
