/-
  secrets: the key ring that a call works on.
-/
import Derived.Test.YtnkndplbcbehkaaGreatDoorSecG
import Derived.Test.YtnkndplbcbehkaaGreatDoorInsChain
set_option linter.unusedVariables false
set_option linter.unusedSimpArgs false
namespace Go.Proofs.YtnkndplbcbehkaaGreatDoor
open Go.RowKit Go.Cas
set_option maxHeartbeats 400000
set_option maxRecDepth 20000

/-- The chains' cells: ks are the slices of kept keys. -/
def chCells : List Ch → List Value → List Value
  | c :: l, k :: ks => c.cs k ++ chCells l ks
  | _, _ => []

theorem chCells_len : ∀ (l : List Ch) (ks : List Value), ks.length = l.length → (chCells l ks).length = l.length * 5
  | [], ks, _ => by cases ks <;> rfl
  | c :: l, [], h => by simp at h
  | c :: l, k :: ks, h => by
    have := chCells_len l ks (by simpa using h)
    simp only [chCells, List.length_append, this, List.length_cons, Ch.cs, List.length_nil]; omega

theorem chCells_one : ∀ (l : List Ch) (ks : List Value), (∀ k ∈ ks, k.oneCell' = true) → ∀ u ∈ chCells l ks, u.oneCell' = true
  | [], ks, _, u, hu => by cases ks <;> cases hu
  | c :: l, [], _, u, hu => by cases hu
  | c :: l, k :: ks, h, u, hu => by
    rw [chCells, List.mem_append] at hu
    rcases hu with hu | hu
    · simp only [Ch.cs, List.mem_cons, List.not_mem_nil, or_false] at hu
      rcases hu with rfl | rfl | rfl | rfl | rfl
      · rfl
      · rfl
      · rfl
      · rfl
      · exact h _ List.mem_cons_self
    · exact chCells_one l ks (fun k hk => h k (List.mem_cons_of_mem _ hk)) u hu

theorem chCells_at : ∀ {l : List Ch} {ks : List Value} {i : Nat} {c : Ch} {k : Value}, l[i]? = some c → ks[i]? = some k → ∀ j u, (c.cs k)[j]? = some u → (chCells l ks)[i * 5 + j]? = some u
  | c' :: l, k' :: ks, 0, c, k, hc, hk, j, u, hj => by
    simp at hc hk; subst hc; subst hk
    have hl := getElem?_lt hj
    rw [chCells, Nat.zero_mul, Nat.zero_add, List.getElem?_append_left hl]; exact hj
  | c' :: l, k' :: ks, i + 1, c, k, hc, hk, j, u, hj => by
    have := chCells_at (l := l) (ks := ks) (by simpa using hc) (by simpa using hk) j u hj
    rw [chCells, List.getElem?_append_right (by simp [Ch.cs]; omega)]
    rw [← this]; congr 1; simp [Ch.cs]; omega

/-- The key ring at block `o`, its rows owned. -/
structure IsO (o : Nat) (F : Nat → Prop) (w : World) (r : Kr) (v u : Value) (ks : List Value) : Prop where
  at_ : w.heap[o]? = some (.cells #[.int .i64 r.leaves, v, u] 32 (0, 0))
  fo : F o
  nodes : w.ownsRow 0 58 2 v r.nodes.length (r.nodes.flatMap Sec.cs)
  fv : ∀ b, v.ownBlock = some b → F b
  chains : w.ownsRow 0 71 5 u r.chains.length (chCells r.chains ks)
  fu : ∀ b, u.ownBlock = some b → F b
  len : ks.length = r.chains.length
  kept : ∀ (i : Nat) (c : Ch) (k : Value), r.chains[i]? = some c → ks[i]? = some k → w.ownsRow 0 39 3 k c.kept.length (c.kept.flatMap GK.cs)
  fk : ∀ k : Value, k ∈ ks → ∀ b, k.ownBlock = some b → F b
  apart : ∀ (i j : Nat) (k k' : Value) (b : Nat), i ≠ j → ks[i]? = some k → ks[j]? = some k' → k.ownBlock = some b → k'.ownBlock ≠ some b

/-- The blocks that 'begin' may change: the deriver's, the key ring's, rows of secrets and of chains. -/
def BX (d o : Nat) (w : World) (b : Nat) : Prop := b = d ∨ b = o ∨ ∃ cs T fr, w.heap[b]? = some (.cells cs T fr) ∧ (T = 58 ∨ T = 71)

/-- What keeps blocks of these types keeps the key ring. -/
theorem IsO.keep {o : Nat} {F F' : Nat → Prop} {w w' : World} {r : Kr} {v u : Value} {ks : List Value} (h : IsO o F w r v u ks) (hF : ∀ b, F b → F' b)
    (hk : ∀ (b : Nat) (cs : Array Value) (T : TypeId), w.heap[b]? = some (.cells cs T (0, 0)) → T = 32 ∨ T = 58 ∨ T = 71 ∨ T = 39 → w'.heap[b]? = some (.cells cs T (0, 0))) : IsO o F' w' r v u ks := by
  have own : ∀ {T : TypeId} {sz n : Nat} {v : Value} {xs : List Value}, w.ownsRow 0 T sz v n xs → (T = 32 ∨ T = 58 ∨ T = 71 ∨ T = 39) → w'.ownsRow 0 T sz v n xs := fun {T sz n v xs} ho hT => by
    refine own_block ho fun b hb => ?_
    rcases ho.2 with ⟨rfl, _⟩ | ⟨g, cap, cu, rfl, _, hg, _⟩
    · cases hb
    · simp only [Value.ownBlock, Option.some.injEq] at hb
      subst hb; rw [hg]; exact hk _ _ _ hg hT
  exact ⟨hk _ _ _ h.at_ (.inl rfl), hF _ h.fo, own h.nodes (.inr (.inl rfl)), fun b hb => hF _ (h.fv b hb), own h.chains (.inr (.inr (.inl rfl))), fun b hb => hF _ (h.fu b hb), h.len,
    fun i c k hc hk' => own (h.kept i c k hc hk') (.inr (.inr (.inr rfl))), fun k hk' b hb => hF _ (h.fk k hk' b hb), h.apart⟩

theorem IsO.below {o : Nat} {F F' : Nat → Prop} {w w' : World} {r : Kr} {v u : Value} {ks : List Value} (h : IsO o F w r v u ks) (hF : ∀ b, F b → F' b) (hb : Below w.heap.size w w') : IsO o F' w' r v u ks :=
  h.keep hF fun _ _ _ hh _ => heap_bl hb hh

theorem IsO.dg {o d p : Nat} {F F' : Nat → Prop} {w w' : World} {r : Kr} {v u : Value} {ks : List Value} {L : List Nd} {e : Int} (h : IsO o F w r v u ks) (hd : IsD d p F w L e) (hg : Dg (fun b => b = d) p F w F' w') : IsO o F' w' r v u ks :=
  h.keep hg.old fun b cs T hh hT => (hg.heap hh (hd.ar.notB hh (by rcases hT with rfl | rfl | rfl | rfl <;> decide) (by rcases hT with rfl | rfl | rfl | rfl <;> decide))
    (fun e => by rw [e, hd.at_] at hh; cases hh; rcases hT with hT | hT | hT | hT <;> exact absurd hT (by decide))).1

theorem own_type {w : World} {T : TypeId} {v : Value} {b sz n : Nat} {xs : List Value} (h : w.ownsRow 0 T sz v n xs) (hb : v.ownBlock = some b) : ∃ cu, w.heap[b]? = some (.cells cu T (0, 0)) := by
  rcases h.2 with ⟨rfl, _⟩ | ⟨g', cap, cu, rfl, _, hg', _⟩
  · cases hb
  · simp only [Value.ownBlock, Option.some.injEq] at hb
    subst hb; exact ⟨cu, hg'⟩

/-- A new row of secrets is laid into the key ring. -/
theorem io_nodes {o d p : Nat} {F : Nat → Prop} {w1 w2 : World} {r : Kr} {v u : Value} {ks : List Value} {L : List Nd} {e : Int} (hd : IsD d p F w1 L e) (h : IsO o F w1 r v u ks) {v2 : Value} {l : List Sec}
    (hg : w1.grownBy w2 v.ownBlock) (ho2 : w2.ownsRow 0 58 2 v2 l.length (l.flatMap Sec.cs)) (hat : v2.ownBlock = v.ownBlock ∨ ∃ b, v2.ownBlock = some b ∧ w1.heap.size ≤ b) :
    ∃ F', IsD d p F' (w2.setCell ⟨o, 1, none⟩ v2) L e ∧ IsO o F' (w2.setCell ⟨o, 1, none⟩ v2) ⟨r.leaves, l, r.chains⟩ v2 u ks ∧ St F w1 F' (w2.setCell ⟨o, 1, none⟩ v2) ∧ (∀ b, F b → F' b) ∧ Dg (fun b => b = o ∨ v.ownBlock = some b) p F w1 F' (w2.setCell ⟨o, 1, none⟩ v2) := by
  have hk : Kp (fun b => v.ownBlock ≠ some b) w1 w2 := Kp.of_grown hg fun _ _ h e => h e.symm
  have hvo : v.ownBlock ≠ some o := fun e => by
    obtain ⟨cu, hc⟩ := own_type h.nodes e
    rw [h.at_] at hc; cases hc
  have ho : w2.heap[o]? = some (.cells #[.int .i64 r.leaves, v, u] 32 (0, 0)) := hk.heap (K := fun b => v.ownBlock ≠ some b) hvo h.at_
  have hne2 : ∀ b, v2.ownBlock = some b → b ≠ o := fun b hb e => by
    obtain ⟨cu, hc⟩ := own_type ho2 hb
    rw [e, ho] at hc; cases hc
  have hkall : Kp (fun b => ¬ (b = o ∨ v.ownBlock = some b)) w1 (w2.setCell ⟨o, 1, none⟩ v2) := (hk.mono fun i _ hi hf => hi (.inr hf)).setCell (fun _ hf => hf (.inl rfl)) _
  have hnew : ∀ b, F b ∨ v2.ownBlock = some b → F b ∨ w1.heap.size ≤ b := fun b hb => by
    rcases hb with hb | hb
    · exact .inl hb
    · rcases hat with ha | ⟨b', ha, hl⟩
      · exact .inl (h.fv b (ha ▸ hb))
      · rw [ha] at hb; cases hb; exact .inr hl
  obtain ⟨q1, q2⟩ := hd.upd (F' := fun b => F b ∨ v2.ownBlock = some b) hkall (fun b hb => by
    rcases hb with rfl | hb
    · exact ⟨h.fo, hd.ar.notB h.at_ (by decide) (by decide), fun e => by have h1 := h.at_; rw [e, hd.at_] at h1; cases h1⟩
    · obtain ⟨cu, hc⟩ := own_type h.nodes hb
      exact ⟨h.fv b hb, hd.ar.notB hc (by decide) (by decide), fun e => by rw [e, hd.at_] at hc; cases hc⟩) (fun b hb => .inl hb) hnew (fun b hb => by
    rcases hb with hb | hb
    · exact Nat.lt_of_lt_of_le (hd.ar.lt hb) hkall.size
    · have := (ho2.lt b hb).2; simpa using this)
  have hoth : ∀ (b : Nat) (cs : Array Value) (T : TypeId), w1.heap[b]? = some (.cells cs T (0, 0)) → T ≠ 32 → T ≠ 58 → (w2.setCell ⟨o, 1, none⟩ v2).heap[b]? = some (.cells cs T (0, 0)) := fun b cs T hb t1 t2 =>
    hkall.heap (K := fun b => ¬ (b = o ∨ v.ownBlock = some b)) (fun hf => hf.elim (fun e => by rw [e, h.at_] at hb; cases hb; exact t1 rfl) fun hf => by
      obtain ⟨cu, hc⟩ := own_type h.nodes hf
      rw [hb] at hc; cases hc; exact t2 rfl) hb
  have hown : ∀ {T : TypeId} {sz n : Nat} {x : Value} {xs : List Value}, w1.ownsRow 0 T sz x n xs → T ≠ 32 → T ≠ 58 → (w2.setCell ⟨o, 1, none⟩ v2).ownsRow 0 T sz x n xs := fun {T sz n x xs} hx t1 t2 =>
    own_block hx fun b hb => by
      obtain ⟨cu, hc⟩ := own_type hx hb
      rw [hc]; exact hoth b cu T hc t1 t2
  refine ⟨_, q1, ⟨?_, .inl h.fo, ?_, fun b hb => .inr hb, hown h.chains (by decide) (by decide), fun b hb => .inl (h.fu b hb), h.len, fun i c k hc hk' => hown (h.kept i c k hc hk') (by decide) (by decide), fun k hk' b hb => .inl (h.fk k hk' b hb), h.apart⟩, q2.st, q2.old, q2⟩
  · have := Lib.heap_setCell_same (i := 1) ho v2
    simpa using this
  · exact own_block ho2 fun b hb => ((Kp.refl (fun k => k ≠ o) w2).setCell (p := ⟨o, 1, none⟩) (fun _ h => h rfl) v2).block b (ho2.lt b hb).2 (hne2 b hb)

/-- A new row of chains is laid into the key ring. -/
theorem io_chains {o d p : Nat} {F : Nat → Prop} {w1 w2 : World} {r : Kr} {v u : Value} {ks : List Value} {L : List Nd} {e : Int} (hd : IsD d p F w1 L e) (h : IsO o F w1 r v u ks) {u2 : Value} {l : List Ch} {ks2 : List Value}
    (hg : w1.grownBy w2 u.ownBlock) (ho2 : w2.ownsRow 0 71 5 u2 l.length (chCells l ks2)) (hat : u2.ownBlock = u.ownBlock ∨ ∃ b, u2.ownBlock = some b ∧ w1.heap.size ≤ b) (hlen : ks2.length = l.length)
    (hkept : ∀ (i : Nat) (c : Ch) (k : Value), l[i]? = some c → ks2[i]? = some k → w1.ownsRow 0 39 3 k c.kept.length (c.kept.flatMap GK.cs)) (hfk : ∀ k : Value, k ∈ ks2 → ∀ b, k.ownBlock = some b → F b)
    (hap : ∀ (i j : Nat) (k k' : Value) (b : Nat), i ≠ j → ks2[i]? = some k → ks2[j]? = some k' → k.ownBlock = some b → k'.ownBlock ≠ some b) :
    ∃ F', IsD d p F' (w2.setCell ⟨o, 2, none⟩ u2) L e ∧ IsO o F' (w2.setCell ⟨o, 2, none⟩ u2) ⟨r.leaves, r.nodes, l⟩ v u2 ks2 ∧ St F w1 F' (w2.setCell ⟨o, 2, none⟩ u2) ∧ (∀ b, F b → F' b) ∧ Dg (fun b => b = o ∨ u.ownBlock = some b) p F w1 F' (w2.setCell ⟨o, 2, none⟩ u2) := by
  have hk : Kp (fun b => u.ownBlock ≠ some b) w1 w2 := Kp.of_grown hg fun _ _ h e => h e.symm
  have hvo : u.ownBlock ≠ some o := fun e => by
    obtain ⟨cu, hc⟩ := own_type h.chains e
    rw [h.at_] at hc; cases hc
  have ho : w2.heap[o]? = some (.cells #[.int .i64 r.leaves, v, u] 32 (0, 0)) := hk.heap (K := fun b => u.ownBlock ≠ some b) hvo h.at_
  have hne2 : ∀ b, u2.ownBlock = some b → b ≠ o := fun b hb e => by
    obtain ⟨cu, hc⟩ := own_type ho2 hb
    rw [e, ho] at hc; cases hc
  have hkall : Kp (fun b => ¬ (b = o ∨ u.ownBlock = some b)) w1 (w2.setCell ⟨o, 2, none⟩ u2) := (hk.mono fun i _ hi hf => hi (.inr hf)).setCell (fun _ hf => hf (.inl rfl)) _
  have hnew : ∀ b, F b ∨ u2.ownBlock = some b → F b ∨ w1.heap.size ≤ b := fun b hb => by
    rcases hb with hb | hb
    · exact .inl hb
    · rcases hat with ha | ⟨b', ha, hl⟩
      · exact .inl (h.fu b (ha ▸ hb))
      · rw [ha] at hb; cases hb; exact .inr hl
  obtain ⟨q1, q2⟩ := hd.upd (F' := fun b => F b ∨ u2.ownBlock = some b) hkall (fun b hb => by
    rcases hb with rfl | hb
    · exact ⟨h.fo, hd.ar.notB h.at_ (by decide) (by decide), fun e => by have h1 := h.at_; rw [e, hd.at_] at h1; cases h1⟩
    · obtain ⟨cu, hc⟩ := own_type h.chains hb
      exact ⟨h.fu b hb, hd.ar.notB hc (by decide) (by decide), fun e => by rw [e, hd.at_] at hc; cases hc⟩) (fun b hb => .inl hb) hnew (fun b hb => by
    rcases hb with hb | hb
    · exact Nat.lt_of_lt_of_le (hd.ar.lt hb) hkall.size
    · have := (ho2.lt b hb).2; simpa using this)
  have hoth : ∀ (b : Nat) (cs : Array Value) (T : TypeId), w1.heap[b]? = some (.cells cs T (0, 0)) → T ≠ 32 → T ≠ 71 → (w2.setCell ⟨o, 2, none⟩ u2).heap[b]? = some (.cells cs T (0, 0)) := fun b cs T hb t1 t2 =>
    hkall.heap (K := fun b => ¬ (b = o ∨ u.ownBlock = some b)) (fun hf => hf.elim (fun e => by rw [e, h.at_] at hb; cases hb; exact t1 rfl) fun hf => by
      obtain ⟨cu, hc⟩ := own_type h.chains hf
      rw [hb] at hc; cases hc; exact t2 rfl) hb
  have hown : ∀ {T : TypeId} {sz n : Nat} {x : Value} {xs : List Value}, w1.ownsRow 0 T sz x n xs → T ≠ 32 → T ≠ 71 → (w2.setCell ⟨o, 2, none⟩ u2).ownsRow 0 T sz x n xs := fun {T sz n x xs} hx t1 t2 =>
    own_block hx fun b hb => by
      obtain ⟨cu, hc⟩ := own_type hx hb
      rw [hc]; exact hoth b cu T hc t1 t2
  refine ⟨_, q1, ⟨?_, .inl h.fo, hown h.nodes (by decide) (by decide), fun b hb => .inl (h.fv b hb), ?_, fun b hb => .inr hb, hlen, fun i c k hc hk' => hown (hkept i c k hc hk') (by decide) (by decide), fun k hk' b hb => .inl (hfk k hk' b hb), hap⟩, q2.st, q2.old, q2⟩
  · have := Lib.heap_setCell_same (i := 2) ho u2
    simpa using this
  · exact own_block ho2 fun b hb => ((Kp.refl (fun k => k ≠ o) w2).setCell (p := ⟨o, 2, none⟩) (fun _ h => h rfl) u2).block b (ho2.lt b hb).2 (hne2 b hb)

theorem chCells_append : ∀ (l : List Ch) (ks : List Value) (l' : List Ch) (ks' : List Value), ks.length = l.length → chCells (l ++ l') (ks ++ ks') = chCells l ks ++ chCells l' ks'
  | [], [], _, _, _ => rfl
  | [], _ :: _, _, _, h => by simp at h
  | _ :: _, [], _, _, h => by simp at h
  | c :: l, k :: ks, l', ks', h => by simp [chCells, chCells_append l ks l' ks' (by simpa using h), List.append_assoc]

theorem chCells_take (l : List Ch) (ks : List Value) (h : ks.length = l.length) (i : Nat) (hi : i ≤ l.length) : (chCells l ks).take (i * 5) = chCells (l.take i) (ks.take i) ∧ (chCells l ks).drop (i * 5) = chCells (l.drop i) (ks.drop i) := by
  have e := chCells_append (l.take i) (ks.take i) (l.drop i) (ks.drop i) (by simp [h])
  rw [List.take_append_drop, List.take_append_drop] at e
  have hl : (chCells (l.take i) (ks.take i)).length = i * 5 := by rw [chCells_len _ _ (by simp [h]), List.length_take, Nat.min_eq_left hi]
  rw [e]
  exact ⟨List.take_left' hl, List.drop_left' hl⟩

theorem chs_reps {w : World} : ∀ (l : List Ch) (ks : List Value), ks.length = l.length → (∀ (i : Nat) (c : Ch) (k : Value), l[i]? = some c → ks[i]? = some k → w.ownsRow 0 39 3 k c.kept.length (c.kept.flatMap GK.cs)) →
    Reps (fun _ => True) w (chCells l ks) l
  | [], ks, _, _ => by cases ks <;> rfl
  | c :: l, [], h, _ => by simp at h
  | c :: l, k :: ks, h, hk => ⟨c.cs k, chCells l ks, rfl, ⟨k, rfl, _, SlR.of_own (hk 0 c k rfl rfl) (fun _ _ => trivial), Reps.gks.2 rfl⟩, chs_reps l ks (by simpa using h) (fun i c' k' h1 h2 => hk (i + 1) c' k' (by simpa using h1) (by simpa using h2))⟩

theorem IsO.reads {o : Nat} {F : Nat → Prop} {w : World} {r : Kr} {v u : Value} {ks : List Value} (h : IsO o F w r v u ks) : SlRep (fun _ => True) w u r.chains :=
  ⟨_, SlR.of_own h.chains (fun _ _ => trivial), chs_reps _ _ h.len h.kept⟩

theorem IsO.ks_one {o : Nat} {F : Nat → Prop} {w : World} {r : Kr} {v u : Value} {ks : List Value} (h : IsO o F w r v u ks) : ∀ k ∈ ks, k.oneCell' = true := by
  intro k hk
  obtain ⟨i, hi⟩ := List.mem_iff_getElem?.1 hk
  have hlt := getElem?_lt hi
  rw [h.len] at hlt
  have ho := h.kept i _ k (List.getElem?_eq_getElem hlt) hi
  rcases ho.2 with ⟨rfl, _⟩ | ⟨g', cap, cu, rfl, _⟩ <;> rfl

theorem findB_two {α : Type} (q : α → Bool) (l : List α) : findB q l = -1 ∨ ∃ j : Nat, j < l.length ∧ findB q l = (j : Int) := by
  unfold findB
  cases h : l.findIdx? q with
  | none => exact .inl rfl
  | some i =>
    obtain ⟨hi, _⟩ := List.findIdx?_eq_some_iff_getElem.1 h
    exact .inr ⟨i, hi, rfl⟩

end Go.Proofs.YtnkndplbcbehkaaGreatDoor
