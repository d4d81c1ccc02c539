/-
  Layer 5 (deduce), plain: all that is found can be derived. SecretsOnce, plain: what is told of a key ring is gone from it. SecretsOnce, plain: what is told is gone; who has what is left derives none of it. SecretsOnce, plain: who has what is left derives no key that was told.
-/
import Derived.Test.YtnkndplbcbehkaaGreatDoorB1
import Derived.Test.YtnkndplbcbehkaaGreatDoorBd
import Derived.Test.YtnkndplbcbehkaaGreatDoorLive
set_option linter.unusedVariables false
set_option linter.unusedSimpArgs false

/-! Layer 5 (deduce), plain: all that is found can be derived. -/
namespace Go.Proofs.YtnkndplbcbehkaaGreatDoor

/-- What can be derived of some terms. -/
inductive Der (L : List Nd) (l : List Int) : Int → Prop
  | given {t : Int} : t ∈ l → Der L l t
  | pub {t : Int} : (ndF L t).op ≠ 1 → (ndF L t).l = [] → (0 ≤ t ∧ t < L.length) → Der L l t
  | comp {t : Int} : (ndF L t).l ≠ [] → (0 ≤ t ∧ t < L.length) → (∀ y ∈ (ndF L t).l, Der L l y) → Der L l t
  | list {t y : Int} : Der L l t → (ndF L t).op = 3 → y ∈ (ndF L t).l → Der L l y
  | seal1 {t : Int} : Der L l t → (ndF L t).op = 8 → (ndF L (ptF (ndF L t) 0)).op = 7 → Der L l (ptF (ndF L (ptF (ndF L t) 0)) 0) → Der L l (ptF (ndF L t) 1)
  | seal2 {t : Int} : Der L l t → (ndF L t).op = 8 → (ndF L (ptF (ndF L t) 0)).op = 7 → Der L l (ptF (ndF L (ptF (ndF L t) 0)) 0) → Der L l (ptF (ndF L t) 2)
  | enc {t y : Int} : Der L l t → (ndF L t).op = 9 → Der L l (ptF (ndF L t) 0) → y ∈ (ndF L t).l.drop 1 → Der L l y
  | sig {t : Int} : Der L l t → (ndF L t).op = 10 → Der L l (ptF (ndF L t) 1)
  | unblind {t u : Int} : Der L l t → (ndF L t).op = 10 → (ndF L (ptF (ndF L t) 1)).op = 12 → Der L l (ptF (ndF L (ptF (ndF L t) 1)) 1) → (0 ≤ u ∧ u < L.length) →
      (ndF L u).op = 10 → ptF (ndF L u) 0 = ptF (ndF L t) 0 → ptF (ndF L u) 1 = ptF (ndF L (ptF (ndF L t) 1)) 0 → Der L l u
  | blind {t : Int} : Der L l t → (ndF L t).op = 12 → Der L l (ptF (ndF L t) 1) → Der L l (ptF (ndF L t) 0)

/-- What is in, and what is open, can be derived. -/
structure Snd (L : List Nd) (l : List Int) (s : Sp) : Prop where
  ok : SpOk L.length s
  inn : ∀ t : Int, 0 ≤ t ∧ t < L.length → s.has t = true → Der L l t
  opn : ∀ t ∈ s.opn, Der L l t

theorem has_set {n : Nat} {s : Sp} (h : SpOk n s) {t u : Int} (ht : 0 ≤ t ∧ t < n) (hu : 0 ≤ u ∧ u < n) : (⟨s.inn.set t.toNat true, s.opn ++ [t]⟩ : Sp).has u = if u = t then true else s.has u := by
  unfold Sp.has
  show (s.inn.set t.toNat true).getD u.toNat false = _
  rw [List.getD_eq_getElem?_getD, List.getD_eq_getElem?_getD, List.getElem?_set]
  by_cases e : u = t
  · subst e
    have : u.toNat < s.inn.length := by rw [h.len]; omega
    simp [this]
  · have : t.toNat ≠ u.toNat := by omega
    simp [e, this]

theorem Snd.add1 {L : List Nd} {l : List Int} {s : Sp} (h : Snd L l s) {t : Int} (ht : 0 ≤ t ∧ t < L.length) (hd : Der L l t) : Snd L l (addR1 s t) := by
  refine ⟨h.ok.add1 ht, fun u hu hh => ?_, fun u hu => ?_⟩
  · unfold addR1 at hh
    split at hh
    · exact h.inn u hu hh
    · rw [has_set h.ok ht hu] at hh
      split at hh
      · rename_i e; rw [e]; exact hd
      · exact h.inn u hu hh
  · unfold addR1 at hu
    split at hu
    · exact h.opn u hu
    · rw [List.mem_append, List.mem_singleton] at hu
      rcases hu with hu | rfl
      · exact h.opn u hu
      · exact hd

theorem Snd.add {L : List Nd} {l : List Int} : ∀ {m : List Int} {s : Sp}, Snd L l s → (∀ t ∈ m, (0 ≤ t ∧ t < L.length) ∧ Der L l t) → Snd L l (addR s m)
  | [], _, h, _ => h
  | t :: m, _, h, hm => Snd.add (m := m) (h.add1 (hm t List.mem_cons_self).1 (hm t List.mem_cons_self).2) (fun x hx => hm x (List.mem_cons_of_mem _ hx))

theorem Snd.fold {L : List Nd} {l : List Int} {f : Sp → Int → Sp} : ∀ {m : List Int} {s : Sp}, Snd L l s → (∀ s t, Snd L l s → t ∈ m → Snd L l (f s t)) → Snd L l (m.foldl f s)
  | [], _, h, _ => h
  | t :: m, s, h, hf => Snd.fold (m := m) (hf s t h List.mem_cons_self) (fun s x hs hx => hf s x hs (List.mem_cons_of_mem _ hx))

theorem snd_apart {L : List Nd} (hk : Mk L) {us : List (List Int)} (hu : UsOk L us) {l : List Int} {s : Sp} (h : Snd L l s) {t : Int} (ht : 0 ≤ t ∧ t < L.length) (hd : Der L l t) : Snd L l (apartR L us s t) := by
  have hpt := hk.parts _ (ndF_mem ht).1
  have har := hk.ar _ (ndF_mem ht).1
  unfold apartR
  split
  · rename_i h3
    exact h.add fun y hy => ⟨hpt y hy, hd.list h3 hy⟩
  split
  · rename_i h8
    have hl := har.1 h8
    split
    · rename_i hc
      have hp0 := hk.part ht (i := 0) (by omega)
      have hl1 := (hk.ar _ (ndF_mem hp0).1).2.2.2.2 hc.1
      have hq := h.inn _ (hk.part hp0 (i := 0) (by omega)) hc.2
      refine h.add fun x hx => ?_
      simp only [List.mem_cons, List.not_mem_nil, or_false] at hx
      rcases hx with rfl | rfl
      · exact ⟨hk.part ht (by omega), hd.seal1 h8 hc.1 hq⟩
      · exact ⟨hk.part ht (by omega), hd.seal2 h8 hc.1 hq⟩
    · exact h
  split
  · rename_i h9
    have hl := har.2.1 h9
    split
    · rename_i hc
      have hq := h.inn _ (hk.part ht (i := 0) (by omega)) hc
      exact h.add fun x hx => ⟨hpt x (List.mem_of_mem_drop hx), hd.enc h9 hq hx⟩
    · exact h
  split
  · rename_i h10
    have hl := har.2.2.1 h10
    have hq := hk.part ht (i := 1) (by omega)
    have h1 := h.add (m := [ptF (ndF L t) 1]) (fun x hx => by rw [List.mem_singleton] at hx; rw [hx]; exact ⟨hq, hd.sig h10⟩)
    split
    · rename_i hc
      have hl2 := (hk.ar _ (ndF_mem hq).1).2.2.2.1 hc.1
      have hb := h1.inn _ (hk.part hq (i := 1) (by omega)) hc.2
      refine Snd.fold h1 fun s u hs hu' => ?_
      unfold unbR1
      split
      · rename_i hu2
        have hur := hu.at (hk.part hq (i := 0) (by omega)) u hu'
        exact hs.add fun x hx => by rw [List.mem_singleton] at hx; rw [hx]; exact ⟨hur, hd.unblind h10 hc.1 hb hur hu2.1 hu2.2.1 hu2.2.2⟩
      · exact hs
    · exact h1
  split
  · rename_i h12
    have hl := har.2.2.2.1 h12
    split
    · rename_i hc
      have hq := h.inn _ (hk.part ht (i := 1) (by omega)) hc
      exact h.add fun x hx => by rw [List.mem_singleton] at hx; rw [hx]; exact ⟨hk.part ht (by omega), hd.blind h12 hq⟩
    · exact h
  · exact h

/-- Whoever uses something is made of something. -/
def UsNe (L : List Nd) (us : List (List Int)) : Prop := ∀ l ∈ us, ∀ t ∈ l, (ndF L t).l ≠ []

theorem useR_mem {us : List (List Int)} {x t : Int} {l : List Int} (hl : l ∈ useR us x t) : ∀ u ∈ l, u = t ∨ ∃ m ∈ us, u ∈ m := by
  obtain ⟨i, hi, rfl⟩ := List.getElem_of_mem hl
  have h1 : (useR us x t)[i]? = some (useR us x t)[i] := List.getElem?_eq_getElem hi
  unfold useR at h1
  rw [List.getElem?_modify] at h1
  intro u hu
  cases hus : us[i]? with
  | none => rw [hus] at h1; simp at h1
  | some l' =>
    rw [hus] at h1
    have e : (if x.toNat = i then l' ++ [t] else l') = (useR us x t)[i] := Option.some.inj h1
    rw [← e] at hu
    split at hu
    · rw [List.mem_append, List.mem_singleton] at hu
      rcases hu with hu | hu
      · exact .inr ⟨l', List.mem_of_getElem? hus, hu⟩
      · exact .inl hu
    · exact .inr ⟨l', List.mem_of_getElem? hus, hu⟩

theorem UsNe.use {L : List Nd} {us : List (List Int)} (h : UsNe L us) {x t : Int} (ht : (ndF L t).l ≠ []) : UsNe L (useR us x t) := fun l hl u hu => by
  rcases useR_mem hl u hu with rfl | ⟨m, hm, hu'⟩
  · exact ht
  · exact h m hm u hu'

theorem UsNe.fold {L : List Nd} {t : Int} (ht : (ndF L t).l ≠ []) : ∀ {l : List Int} {us : List (List Int)}, UsNe L us → UsNe L (l.foldl (fun us x => useR us x t) us)
  | [], _, h => h
  | x :: l, _, h => UsNe.fold ht (l := l) (h.use (x := x) ht)

theorem usesK_ne {L : List Nd} (hk : Mk L) : ∀ k, k ≤ L.length → UsNe L (usesK L k)
  | 0, _ => fun l hl t ht => by rw [List.eq_of_mem_replicate hl] at ht; cases ht
  | k + 1, hkk => by
    have h1 := usesK_ne hk k (by omega)
    have htb : 0 ≤ (k : Int) ∧ (k : Int) < L.length := by omega
    have har := hk.ar _ (ndF_mem htb).1
    have h2 : UsNe L ((ndF L k).l.foldl (fun us x => useR us x k) (usesK L k)) := by
      by_cases hn : (ndF L k).l = []
      · rw [hn]; exact h1
      · exact UsNe.fold hn h1
    have ne : ∀ {n : Nat}, (ndF L k).l.length = n → 0 < n → (ndF L k).l ≠ [] := fun h h' e => by rw [e] at h; simp at h; omega
    show UsNe L (useXR L _ _ _)
    unfold useXR
    split
    · rename_i hc; exact h2.use (ne (har.1 hc.1) (by omega))
    split
    · rename_i hc; exact h2.use (ne (har.2.2.1 hc.1) (by omega))
    · exact h2

theorem UsNe.at {L : List Nd} {us : List (List Int)} (hu : UsOk L us) (h : UsNe L us) {t : Int} (ht : 0 ≤ t ∧ t < L.length) : ∀ u ∈ us.getD t.toNat [], (ndF L u).l ≠ [] := by
  have hl : t.toNat < us.length := by rw [hu.len]; omega
  have hx : us.getD t.toNat [] = us[t.toNat] := by rw [List.getD_eq_getElem?_getD, List.getElem?_eq_getElem hl]; rfl
  rw [hx]; exact h _ (List.getElem_mem hl)

theorem snd_round {L : List Nd} (hk : Mk L) {us : List (List Int)} (hu : UsOk L us) (hn : UsNe L us) {l : List Int} {s : Sp} (h : Snd L l s) : Snd L l (roundR L us s) := by
  rcases List.eq_nil_or_concat s.opn with hnil | ⟨m, t, hs⟩
  · unfold roundR; rw [hnil]; exact h
  · rw [List.concat_eq_append] at hs
    obtain ⟨h1, h2, _⟩ := h.ok.pop hs
    rw [roundR_at hs]
    have hd := h.opn t (by rw [hs]; simp)
    have h0 : Snd L l ⟨s.inn, m⟩ := ⟨h1, h.inn, fun u hu' => h.opn u (by rw [hs]; exact List.mem_append_left _ hu')⟩
    refine Snd.fold (snd_apart hk hu h0 h2 hd) fun s u hs hu' => ?_
    have hur := hu.at h2 u hu'
    unfold useS
    split
    · rename_i hc; exact snd_apart hk hu hs hur (hs.inn u hur hc)
    split
    · rename_i hc
      have hdu : Der L l u := .comp (UsNe.at hu hn h2 u hu') hur fun y hy => hs.inn y (hk.parts _ (ndF_mem hur).1 y hy) (List.all_eq_true.1 hc y hy)
      exact hs.add fun x hx => by rw [List.mem_singleton] at hx; rw [hx]; exact ⟨hur, hdu⟩
    · exact hs

theorem snd_pub {L : List Nd} (l : List Int) : ∀ k, k ≤ L.length → Snd L l (pubR L k)
  | 0, _ => ⟨pub_ok L 0 (Nat.zero_le _), fun t _ hh => by
      unfold Sp.has at hh
      simp only [pubR] at hh
      rw [List.getD_eq_getElem?_getD, List.getElem?_replicate] at hh
      split at hh <;> simp at hh, fun t ht => by simp [pubR] at ht⟩
  | k + 1, h => by
    have h1 := snd_pub (L := L) l k (by omega)
    have htb : 0 ≤ (k : Int) ∧ (k : Int) < L.length := by omega
    rw [pubR]
    split
    · rename_i hc
      exact h1.add fun x hx => by rw [List.mem_singleton] at hx; rw [hx]; exact ⟨htb, .pub hc.1 hc.2 htb⟩
    · exact h1

/-- All that is found can be derived. -/
theorem Closed.sound {L : List Nd} (hk : Mk L) (hu : UsOk L (usesR L)) {l : List Int} {s : Sp} (hl : ∀ t ∈ l, 0 ≤ t ∧ t < L.length) (h : Closed L l s) : Snd L l s := by
  obtain ⟨k, rfl, hcl⟩ := h
  clear hcl
  have h0 : Snd L l (startR L l) := (snd_pub l _ (Nat.le_refl _)).add fun t ht => ⟨hl t ht, .given ht⟩
  induction k with
  | zero => exact h0
  | succ k ih => exact snd_round hk hu (usesK_ne hk _ (Nat.le_refl _)) ih

end Go.Proofs.YtnkndplbcbehkaaGreatDoor

/-! SecretsOnce, plain: what is told of a key ring is gone from it. -/
namespace Go.Proofs.YtnkndplbcbehkaaGreatDoor
open Go.RowKit Go.Cas
set_option maxRecDepth 20000

/-- No leaf is under both. -/
def Dj (x y : Int) : Prop := ∀ lf, aboveB x lf = true → aboveB y lf = true → False
theorem Dj.symm {x y : Int} (h : Dj x y) : Dj y x := fun lf a b => h lf b a

/-- A key ring's own order. -/
structure RU (r : Kr) : Prop where
  u0 : ∀ y ∈ r.nodes, ∃ lf, aboveB y.node lf = true
  u1 : ∀ c ∈ r.chains, ∀ y ∈ r.nodes, aboveB y.node c.leaf = false
  u2 : r.nodes.Pairwise (fun y z => Dj y.node z.node)
  u3 : r.chains.Pairwise (fun c d => c.leaf ≠ d.leaf ∨ c.kind ≠ d.kind)
  u4 : ∀ c ∈ r.chains, c.kept.Pairwise (fun x y => x.gen < y.gen) ∧ ∀ x ∈ c.kept, x.gen < c.gen

/-- A key is gone. -/
structure Gone (r : Kr) (leaf kind gen : Int) : Prop where
  g1 : ∀ y ∈ r.nodes, aboveB y.node leaf = false
  g2 : ∀ c ∈ r.chains, c.leaf = leaf → c.kind = kind → gen < c.gen ∧ ∀ x ∈ c.kept, x.gen ≠ gen

theorem pw_ins {α : Type} {R : α → α → Prop} (hs : ∀ a b, R a b → R b a) {l : List α} {o : α} (h : l.Pairwise R) (ho : ∀ y ∈ l, R o y) (i : Nat) : (l.take i ++ [o] ++ l.drop i).Pairwise R := by
  rw [← List.take_append_drop i l, List.pairwise_append] at h
  obtain ⟨h1, h2, h3⟩ := h
  rw [List.append_assoc, List.pairwise_append]
  refine ⟨h1, ?_, fun a ha b hb => ?_⟩
  · rw [List.singleton_append, List.pairwise_cons]
    exact ⟨fun y hy => ho y (List.mem_of_mem_drop hy), h2⟩
  · rw [List.singleton_append, List.mem_cons] at hb
    rcases hb with rfl | hb
    · exact hs _ _ (ho a (List.mem_of_mem_take ha))
    · exact h3 a ha b hb

theorem dj_children {x : Int} (h : childB x = true) : Dj (leftF x) (rightF x) := fun lf a b => by
  have := (above_right h b).2
  rw [a] at this; cases this

theorem dj_left {x y : Int} (h : childB x = true) (hd : Dj x y) : Dj (leftF x) y := fun lf a b => hd lf (above_left h a) b
theorem dj_right {x y : Int} (h : childB x = true) (hd : Dj x y) : Dj (rightF x) y := fun lf a b => hd lf (above_right h a).1 b

theorem child_leaf {x : Int} (h : childB x = true) : (∃ lf, aboveB (leftF x) lf = true) ∧ ∃ lf, aboveB (rightF x) lf = true := by
  obtain ⟨a1, a2, a3, a4, a5, a6, a7⟩ := tree_child x h
  exact ⟨⟨fromF (leftF x), (aboveB_iff _ _).2 ⟨a4, by omega, by omega⟩⟩, ⟨fromF (rightF x), (aboveB_iff _ _).2 ⟨a5, by omega, by omega⟩⟩⟩

/-- The way down. -/
theorem begL_ring : ∀ (n : Nat) (leaf x s : Int) (nodes : List Sec) (L : List Nd) (e : Int), aboveB x leaf = true → nodes.Pairwise (fun y z => Dj y.node z.node) → (∀ y ∈ nodes, Dj x y.node) → (∀ y ∈ nodes, ∃ lf, aboveB y.node lf = true) →
    ∀ s' nodes', (begL n leaf x s nodes L e).1 = some (s', nodes') →
      nodes'.Pairwise (fun y z => Dj y.node z.node) ∧ (∀ y ∈ nodes', aboveB y.node leaf = false) ∧ (∀ y ∈ nodes', ∃ lf, aboveB y.node lf = true) ∧
        ∀ lf, (∀ y ∈ nodes, aboveB y.node lf = false) → aboveB x lf = false → ∀ y ∈ nodes', aboveB y.node lf = false
  | 0, _, _, _, _, _, _, _, _, _, _, _, _, h => by rw [begL] at h; cases h
  | n + 1, leaf, x, s, nodes, L, e, ha, hp, hd, h0, s', nodes', h => by
    rw [begL] at h
    by_cases hx : x = 2 * leaf
    · rw [if_pos hx] at h
      simp only [Option.some.injEq, Prod.mk.injEq] at h
      obtain ⟨_, rfl⟩ := h
      refine ⟨hp, fun y hy => ?_, h0, fun lf hl _ => hl⟩
      cases hb : aboveB y.node leaf with
      | false => rfl
      | true => exact (hd y hy leaf ha hb).elim
    · rw [if_neg hx] at h
      by_cases hc : childB x = true
      · rw [if_pos hc] at h
        dsimp only at h
        by_cases hl : aboveB (leftF x) leaf = true
        · rw [if_pos hl, if_pos hl, if_pos hl] at h
          generalize bsR nodes _ 0 nodes.length = i at h
          have hmem : ∀ {o : Sec} {y : Sec}, y ∈ nodes.take i ++ [o] ++ nodes.drop i → y ∈ nodes ∨ y = o := fun {o y} hy => by
            simp only [List.mem_append, List.mem_cons, List.not_mem_nil, or_false] at hy
            rcases hy with (hy | hy) | hy
            · exact .inl (List.mem_of_mem_take hy)
            · exact .inr hy
            · exact .inl (List.mem_of_mem_drop hy)
          obtain ⟨b1, b2, b3, b4⟩ := begL_ring n leaf (leftF x) _ _ _ _ hl (pw_ins (fun a b h => h.symm) hp (fun y hy => dj_right hc (hd y hy)) i) (fun y hy => by
            rcases hmem hy with hy | rfl
            · exact dj_left hc (hd y hy)
            · exact dj_children hc) (fun y hy => by
            rcases hmem hy with hy | rfl
            · exact h0 y hy
            · exact (child_leaf hc).2) s' nodes' h
          refine ⟨b1, b2, b3, fun lf h1 h2 => b4 lf (fun y hy => ?_) ?_⟩
          · rcases hmem hy with hy | rfl
            · exact h1 y hy
            · cases hb : aboveB (rightF x) lf with
              | false => rfl
              | true => rw [(above_right hc hb).1] at h2; cases h2
          · cases hb : aboveB (leftF x) lf with
            | false => rfl
            | true => rw [above_left hc hb] at h2; cases h2
        · rw [if_neg hl, if_neg hl, if_neg hl] at h
          generalize bsR nodes _ 0 nodes.length = i at h
          have hmem : ∀ {o : Sec} {y : Sec}, y ∈ nodes.take i ++ [o] ++ nodes.drop i → y ∈ nodes ∨ y = o := fun {o y} hy => by
            simp only [List.mem_append, List.mem_cons, List.not_mem_nil, or_false] at hy
            rcases hy with (hy | hy) | hy
            · exact .inl (List.mem_of_mem_take hy)
            · exact .inr hy
            · exact .inl (List.mem_of_mem_drop hy)
          obtain ⟨b1, b2, b3, b4⟩ := begL_ring n leaf (rightF x) _ _ _ _ (above_other hc ha hl) (pw_ins (fun a b h => h.symm) hp (fun y hy => dj_left hc (hd y hy)) i) (fun y hy => by
            rcases hmem hy with hy | rfl
            · exact dj_right hc (hd y hy)
            · exact (dj_children hc).symm) (fun y hy => by
            rcases hmem hy with hy | rfl
            · exact h0 y hy
            · exact (child_leaf hc).1) s' nodes' h
          refine ⟨b1, b2, b3, fun lf h1 h2 => b4 lf (fun y hy => ?_) ?_⟩
          · rcases hmem hy with hy | rfl
            · exact h1 y hy
            · cases hb : aboveB (leftF x) lf with
              | false => rfl
              | true => rw [above_left hc hb] at h2; cases h2
          · cases hb : aboveB (rightF x) lf with
            | false => rfl
            | true => rw [(above_right hc hb).1] at h2; cases h2
      · rw [if_neg hc] at h
        cases h

theorem pw_del {α : Type} {R : α → α → Prop} {l : List α} (h : l.Pairwise R) (i : Nat) : (l.take i ++ l.drop (i + 1)).Pairwise R := by
  refine h.sublist ?_
  conv => rhs; rw [← List.take_append_drop i l]
  refine List.Sublist.append (List.Sublist.refl _) ?_
  rw [← List.drop_drop]
  exact List.drop_sublist 1 _

theorem pw_at {α : Type} {R : α → α → Prop} (hs : ∀ a b, R a b → R b a) {l : List α} (h : l.Pairwise R) {i : Nat} {x : α} (hi : l[i]? = some x) : ∀ y ∈ l.take i ++ l.drop (i + 1), R x y := by
  intro y hy
  have hl := getElem?_lt hi
  have e : l = l.take i ++ ([x] ++ l.drop (i + 1)) := by
    conv => lhs; rw [← List.take_append_drop i l]
    rw [List.drop_eq_getElem_cons hl]
    have := List.getElem?_eq_getElem hl
    rw [hi] at this
    rw [← Option.some.inj this]; rfl
  rw [e, List.pairwise_append] at h
  obtain ⟨_, h2, h3⟩ := h
  rw [List.singleton_append, List.pairwise_cons] at h2
  rw [List.mem_append] at hy
  rcases hy with hy | hy
  · exact hs _ _ (h3 y hy x (by simp))
  · exact h2.1 y hy

theorem begin_ring {L : List Nd} {e : Int} {r : Kr} {leaf : Int} (hr : RU r) (h : (beginR L e r leaf).1 = 0) :
    (∃ y ∈ r.nodes, aboveB y.node leaf = true) ∧ (beginR L e r leaf).2.1.nodes.Pairwise (fun y z => Dj y.node z.node) ∧ (∀ y ∈ (beginR L e r leaf).2.1.nodes, aboveB y.node leaf = false) ∧ (∀ y ∈ (beginR L e r leaf).2.1.nodes, ∃ lf, aboveB y.node lf = true) ∧
      (∀ lf, (∀ y ∈ r.nodes, aboveB y.node lf = false) → ∀ y ∈ (beginR L e r leaf).2.1.nodes, aboveB y.node lf = false) ∧
      ∃ i a b, (beginR L e r leaf).2.1.chains = r.chains.take i ++ [⟨leaf, 0, 0, a, []⟩, ⟨leaf, 1, 0, b, []⟩] ++ r.chains.drop i := by
  unfold beginR at h ⊢
  dsimp only at h ⊢
  rcases lastF_at (fun x => aboveB x.node leaf) r.nodes r.nodes.length with hat | ⟨i, y, hi, hat, hiy, hqy⟩
  · rw [hat, if_pos (by decide)] at h
    exact absurd h (by show ¬ (4 : Int) = 0; decide)
  · rw [hat, if_neg (by omega)] at h ⊢
    rw [Int.toNat_natCast] at h ⊢
    have hgd : r.nodes.getD i default = y := by rw [List.getD_eq_getElem?_getD, hiy]; rfl
    rw [hgd] at h ⊢
    have hmem : ∀ z ∈ r.nodes.take i ++ r.nodes.drop (i + 1), z ∈ r.nodes := fun z hz => by
      rw [List.mem_append] at hz
      exact hz.elim List.mem_of_mem_take List.mem_of_mem_drop
    have hb := begL_ring 10 leaf y.node y.sk (r.nodes.take i ++ r.nodes.drop (i + 1)) L e hqy (pw_del hr.u2 i) (pw_at (fun a b h => h.symm) hr.u2 hiy) (fun z hz => hr.u0 z (hmem z hz))
    generalize begL 10 leaf y.node y.sk (r.nodes.take i ++ r.nodes.drop (i + 1)) L e = z at h hb ⊢
    split
    · rename_i hz
      rw [hz] at h
      exact absurd h (by show ¬ (4 : Int) = 0; decide)
    · rename_i s nodes hz
      obtain ⟨b1, b2, b3, b4⟩ := hb s nodes hz
      exact ⟨⟨y, List.mem_of_getElem? hiy, hqy⟩, b1, b2, b3, fun lf hl => b4 lf (fun z hz => hl z (hmem z hz)) (hl y (List.mem_of_getElem? hiy)), _, _, _, rfl⟩

/-! ### A chain -/

def ChOk (c : Ch) : Prop := c.kept.Pairwise (fun x y => x.gen < y.gen) ∧ ∀ x ∈ c.kept, x.gen < c.gen

theorem run_ring : ∀ (n : Nat) (L : List Nd) (e : Int) (c : Ch), ChOk c → ChOk (runR n L e c).1 ∧ (runR n L e c).1.gen = c.gen + n ∧ ∀ x ∈ (runR n L e c).1.kept, x ∈ c.kept ∨ c.gen ≤ x.gen
  | 0, _, _, c, h => ⟨h, by simp [runR], fun x hx => .inl hx⟩
  | n + 1, L, e, c, h => by
    rw [runR]
    have hg : (fwdR L e c.gen c.secret).1.gen = c.gen := (fwdR_spec L e c.gen c.secret).2.1
    generalize fwdR L e c.gen c.secret = f at hg ⊢
    have hc : ChOk ⟨c.leaf, c.kind, c.gen + 1, f.2.1, c.kept ++ [f.1]⟩ := by
      refine ⟨?_, fun x hx => ?_⟩
      · show (c.kept ++ [f.1]).Pairwise _
        rw [List.pairwise_append]
        refine ⟨h.1, by simp, fun a ha b hb => ?_⟩
        rw [List.mem_singleton] at hb
        rw [hb, hg]; exact h.2 a ha
      · have hx' : x ∈ c.kept ++ [f.1] := hx
        rw [List.mem_append, List.mem_singleton] at hx'
        show x.gen < c.gen + 1
        rcases hx' with hx' | rfl
        · have := h.2 x hx'; omega
        · omega
    obtain ⟨a1, a2, a3⟩ := run_ring n f.2.2.1 f.2.2.2 _ hc
    refine ⟨a1, by rw [a2]; show c.gen + 1 + (n : Int) = _; omega, fun x hx => ?_⟩
    rcases a3 x hx with h' | h'
    · have hx' : x ∈ c.kept ++ [f.1] := h'
      rw [List.mem_append, List.mem_singleton] at hx'
      rcases hx' with hx' | rfl
      · exact .inl hx'
      · exact .inr (by omega)
    · have : c.gen + 1 ≤ x.gen := h'
      exact .inr (by omega)

theorem take_ring {L : List Nd} {e : Int} {c : Ch} {gen : Int} (hc : ChOk c) (h : (takeR L e c gen).2.1 = 0) :
    (takeR L e c gen).2.2.1.leaf = c.leaf ∧ (takeR L e c gen).2.2.1.kind = c.kind ∧ ChOk (takeR L e c gen).2.2.1 ∧ gen < (takeR L e c gen).2.2.1.gen ∧ (∀ x ∈ (takeR L e c gen).2.2.1.kept, x.gen ≠ gen) ∧
      ∀ g, g < c.gen → (∀ x ∈ c.kept, x.gen ≠ g) → g ≠ gen ∧ g < (takeR L e c gen).2.2.1.gen ∧ ∀ x ∈ (takeR L e c gen).2.2.1.kept, x.gen ≠ g := by
  unfold takeR at h ⊢
  by_cases hg : gen < c.gen
  · rw [if_pos hg] at h ⊢
    split
    · rename_i hi
      rw [hi] at h
      exact absurd h (by show ¬ (4 : Int) = 0; decide)
    · rename_i i hi
      obtain ⟨hil, hq, _⟩ := List.findIdx?_eq_some_iff_getElem.1 hi
      have hq' : c.kept[i].gen = gen := by simpa using hq
      have hne := pw_at (R := fun x y : GK => x.gen ≠ y.gen) (fun a b h e => h e.symm) (hc.1.imp (fun h e => by omega)) (List.getElem?_eq_getElem hil)
      have hmem : ∀ x ∈ c.kept.take i ++ c.kept.drop (i + 1), x ∈ c.kept := fun z hz => by
        rw [List.mem_append] at hz
        exact hz.elim List.mem_of_mem_take List.mem_of_mem_drop
      refine ⟨rfl, rfl, ⟨pw_del hc.1 i, fun x hx => hc.2 x (hmem x hx)⟩, hg, fun x hx e => ?_, fun g h1 h2 => ⟨fun e => ?_, h1, fun x hx => h2 x (hmem x hx)⟩⟩
      · exact hne x hx (by rw [hq', e])
      · exact h2 _ (List.getElem_mem hil) (by rw [hq', e])
  · rw [if_neg hg] at h ⊢
    by_cases hl : 8 < gen - c.gen
    · rw [if_pos hl] at h
      exact absurd h (by show ¬ (2 : Int) = 0; decide)
    · rw [if_neg hl] at h ⊢
      dsimp only at h ⊢
      obtain ⟨a1, a2, a3⟩ := run_ring (gen - c.gen).toNat L e c hc
      have hsm := runR_same (gen - c.gen).toNat L e c
      generalize runR (gen - c.gen).toNat L e c = q at h a1 a2 a3 hsm ⊢
      have hq : q.1.gen = gen := by rw [a2]; omega
      have hmem : ∀ x ∈ q.1.kept.drop (q.1.kept.length - 8), x ∈ q.1.kept := fun x hx => List.mem_of_mem_drop hx
      refine ⟨hsm.1, hsm.2, ⟨a1.1.sublist (List.drop_sublist _ _), fun x hx => ?_⟩, by show gen < q.1.gen + 1; omega, fun x hx e => ?_, fun g h1 h2 => ⟨by omega, by show g < q.1.gen + 1; omega, fun x hx e => ?_⟩⟩
      · have := a1.2 x (hmem x hx)
        show x.gen < q.1.gen + 1; omega
      · have := a1.2 x (hmem x hx); omega
      · rcases a3 x (hmem x hx) with h' | h'
        · exact h2 x h' e
        · omega

end Go.Proofs.YtnkndplbcbehkaaGreatDoor

/-! SecretsOnce, plain: what is told is gone; who has what is left derives none of it. -/
namespace Go.Proofs.YtnkndplbcbehkaaGreatDoor
open Go.RowKit Go.Cas
set_option maxRecDepth 20000

theorem ch_sym (a b : Ch) (h : a.leaf ≠ b.leaf ∨ a.kind ≠ b.kind) : b.leaf ≠ a.leaf ∨ b.kind ≠ a.kind := h.imp (fun h e => h e.symm) (fun h e => h e.symm)

/-- What is told by keyE of a ring in order. -/
theorem keyE_ring {b : Int × Kr × List Nd × Int} {leaf kind gen : Int} (hr : RU b.2.1) (hf : b.1 = 0 → ¬ findR b.2.1.chains leaf kind < 0) (h : (keyE b leaf kind gen).2.2.1 = 0) :
    b.1 = 0 ∧ (keyE b leaf kind gen).2.1.leaves = b.2.1.leaves ∧ RU (keyE b leaf kind gen).2.1 ∧ ((∀ y ∈ b.2.1.nodes, aboveB y.node leaf = false) → Gone (keyE b leaf kind gen).2.1 leaf kind gen) ∧
      ∀ lf kd g, Gone b.2.1 lf kd g → Gone (keyE b leaf kind gen).2.1 lf kd g ∧ ¬ (lf = leaf ∧ kd = kind ∧ g = gen) := by
  by_cases h0 : b.1 = 0
  · obtain ⟨j, c, hfj, hcj, hl, hkd⟩ := findR_at (hf h0)
    rw [keyE_at h0 hfj hcj rfl] at h ⊢
    have hcm := List.mem_of_getElem? hcj
    have ht := take_ring (L := b.2.2.1) (e := b.2.2.2) (gen := gen) (hr.u4 c hcm)
    generalize takeR b.2.2.1 b.2.2.2 c gen = t at h ht ⊢
    unfold keyT at h ⊢
    by_cases h1 : t.2.1 = 0
    · rw [if_pos h1] at h ⊢
      obtain ⟨t1, t2, t3, t4, t5, t6⟩ := ht h1
      have hmem : ∀ {x : Ch}, x ∈ b.2.1.chains.set j t.2.2.1 → x ∈ b.2.1.chains ∨ x = t.2.2.1 := fun hx => List.mem_or_eq_of_mem_set hx
      have huniq : ∀ d ∈ b.2.1.chains.take j ++ b.2.1.chains.drop (j + 1), c.leaf ≠ d.leaf ∨ c.kind ≠ d.kind := pw_at ch_sym hr.u3 hcj
      have hset : b.2.1.chains.set j t.2.2.1 = b.2.1.chains.take j ++ [t.2.2.1] ++ b.2.1.chains.drop (j + 1) := by
        rw [List.set_eq_take_append_cons_drop, if_pos (getElem?_lt hcj)]; simp
      have hmem2 : ∀ {x : Ch}, x ∈ b.2.1.chains.set j t.2.2.1 → x ∈ b.2.1.chains.take j ++ b.2.1.chains.drop (j + 1) ∨ x = t.2.2.1 := fun {x} hx => by
        rw [hset] at hx
        simp only [List.mem_append, List.mem_cons, List.not_mem_nil, or_false] at hx ⊢
        rcases hx with (hx | hx) | hx
        · exact .inl (.inl hx)
        · exact .inr hx
        · exact .inl (.inr hx)
      have hsub : ∀ {x : Ch}, x ∈ b.2.1.chains.take j ++ b.2.1.chains.drop (j + 1) → x ∈ b.2.1.chains := fun hx => by
        rw [List.mem_append] at hx
        exact hx.elim List.mem_of_mem_take List.mem_of_mem_drop
      refine ⟨h0, rfl, ⟨hr.u0, fun x hx y hy => ?_, hr.u2, ?_, fun x hx => ?_⟩, fun hn => ⟨hn, fun x hx e1 e2 => ?_⟩, fun lf kd g hg => ⟨⟨hg.g1, fun x hx e1 e2 => ?_⟩, ?_⟩⟩
      · rcases hmem hx with hx | rfl
        · exact hr.u1 x hx y hy
        · rw [t1]; exact hr.u1 c hcm y hy
      · have hp : (b.2.1.chains.take j ++ [t.2.2.1] ++ b.2.1.chains.drop (j + 1)).Pairwise (fun c d => c.leaf ≠ d.leaf ∨ c.kind ≠ d.kind) := by
          have h3 := pw_del hr.u3 j
          rw [List.pairwise_append] at h3
          rw [List.append_assoc, List.pairwise_append]
          refine ⟨h3.1, ?_, fun a ha d hd => ?_⟩
          · rw [List.singleton_append, List.pairwise_cons]
            exact ⟨fun d hd => by rw [t1, t2]; exact huniq d (List.mem_append_right _ hd), h3.2.1⟩
          · rw [List.singleton_append, List.mem_cons] at hd
            rcases hd with rfl | hd
            · rw [t1, t2]; exact ch_sym _ _ (huniq a (List.mem_append_left _ ha))
            · exact h3.2.2 a ha d hd
        show (b.2.1.chains.set j t.2.2.1).Pairwise _
        rw [hset]; exact hp
      · rcases hmem hx with hx | rfl
        · exact hr.u4 x hx
        · exact t3
      · rcases hmem2 hx with hx | rfl
        · rcases huniq x hx with h' | h'
          · exact absurd (hl.trans e1.symm) h'
          · exact absurd (hkd.trans e2.symm) h'
        · exact ⟨t4, t5⟩
      · rcases hmem2 hx with hx | rfl
        · exact hg.g2 x (hsub hx) e1 e2
        · have hgc := hg.g2 c hcm (t1.symm.trans e1) (t2.symm.trans e2)
          exact (t6 g hgc.1 hgc.2).2
      · rintro ⟨rfl, rfl, rfl⟩
        have hgc := hg.g2 c hcm hl hkd
        exact (t6 g hgc.1 hgc.2).1 rfl
    · rw [if_neg h1] at h
      exact absurd h h1
  · have hres : keyE b leaf kind gen = (⟨0, 0, 0⟩, ⟨0, [], []⟩, b.1, b.2.2.1) := by unfold keyE; rw [if_neg h0]
    rw [hres] at h
    exact absurd h h0

/-- What is told by 'Key' of a ring in order. -/
theorem keyR_ring {L : List Nd} {r : Kr} {leaf kind gen : Int} (hr : RU r) (h : (keyR L r leaf kind gen).2.2.1 = 0) :
    (0 ≤ leaf ∧ leaf < r.leaves ∧ (kind = 0 ∨ kind = 1)) ∧ (keyR L r leaf kind gen).2.1.leaves = r.leaves ∧ RU (keyR L r leaf kind gen).2.1 ∧ Gone (keyR L r leaf kind gen).2.1 leaf kind gen ∧
      ∀ lf kd g, Gone r lf kd g → Gone (keyR L r leaf kind gen).2.1 lf kd g ∧ ¬ (lf = leaf ∧ kd = kind ∧ g = gen) := by
  unfold keyR at h ⊢
  split at h
  · exact absurd h (by show ¬ (1 : Int) = 0; decide)
  · rename_i hb
    rw [if_neg hb]
    have hk : kind = 0 ∨ kind = 1 := by omega
    refine ⟨⟨by omega, by omega, hk⟩, ?_⟩
    by_cases hf : findR r.chains leaf kind < 0
    · rw [if_pos hf] at h ⊢
      have h0 : (beginR L 0 r leaf).1 = 0 := by
        by_cases h0 : (beginR L 0 r leaf).1 = 0
        · exact h0
        · unfold keyE at h; rw [if_neg h0] at h; exact absurd h h0
      obtain ⟨⟨y0, hy0, hay⟩, b1, b2, b3, b4, i, a, b, hch⟩ := begin_ring hr h0
      have hlv : (beginR L 0 r leaf).2.1.leaves = r.leaves := by obtain ⟨hl, _⟩ := beginR_chains h0; exact hl
      have hmem : ∀ {c : Ch}, c ∈ (beginR L 0 r leaf).2.1.chains → c ∈ r.chains ∨ (c.leaf = leaf ∧ c.kept = [] ∧ c.gen = 0) := fun {c} hc => by
        rw [hch] at hc
        simp only [List.mem_append, List.mem_cons, List.not_mem_nil, or_false] at hc
        rcases hc with (hc | rfl | rfl) | hc
        · exact .inl (List.mem_of_mem_take hc)
        · exact .inr ⟨rfl, rfl, rfl⟩
        · exact .inr ⟨rfl, rfl, rfl⟩
        · exact .inl (List.mem_of_mem_drop hc)
      have hno : ∀ c ∈ r.chains, c.leaf ≠ leaf := fun c hc e => by
        have := hr.u1 c hc y0 hy0
        rw [e, hay] at this; cases this
      have hr' : RU (beginR L 0 r leaf).2.1 := by
        refine ⟨b3, fun c hc y hy => ?_, b1, ?_, fun c hc => ?_⟩
        · rcases hmem hc with hc | ⟨e, _⟩
          · exact b4 c.leaf (fun z hz => hr.u1 c hc z hz) y hy
          · rw [e]; exact b2 y hy
        · rw [hch]
          have h3 := hr.u3
          rw [← List.take_append_drop i r.chains, List.pairwise_append] at h3
          rw [List.append_assoc, List.pairwise_append]
          refine ⟨h3.1, ?_, fun c hc d hd => ?_⟩
          · rw [List.cons_append, List.cons_append, List.nil_append, List.pairwise_cons, List.pairwise_cons]
            refine ⟨fun d hd => ?_, fun d hd => .inl fun e => hno d (List.mem_of_mem_drop hd) e.symm, h3.2.1⟩
            rw [List.mem_cons] at hd
            rcases hd with rfl | hd
            · exact .inr (by show ¬ (0 : Int) = 1; decide)
            · exact .inl fun e => hno d (List.mem_of_mem_drop hd) e.symm
          · simp only [List.cons_append, List.nil_append, List.mem_cons] at hd
            rcases hd with rfl | rfl | hd
            · exact .inl (hno c (List.mem_of_mem_take hc))
            · exact .inl (hno c (List.mem_of_mem_take hc))
            · exact h3.2.2 c hc d hd
        · rcases hmem hc with hc | ⟨_, e, _⟩
          · exact hr.u4 c hc
          · rw [e]; exact ⟨List.Pairwise.nil, fun x hx => by cases hx⟩
      obtain ⟨_, k2, k3, k4, k5⟩ := keyE_ring hr' (fun _ => by
        obtain ⟨_, j', a', b', _, hc⟩ := beginR_chains h0
        rw [hc]; exact findR_begin hk) h
      refine ⟨k2.trans hlv, k3, k4 b2, fun lf kd g hg => k5 lf kd g ⟨b4 lf hg.g1, fun c hc e1 e2 => ?_⟩⟩
      rcases hmem hc with hc | ⟨e, _⟩
      · exact hg.g2 c hc e1 e2
      · have := hg.g1 y0 hy0
        rw [← e1, e, hay] at this; cases this
    · rw [if_neg hf] at h ⊢
      obtain ⟨_, k2, k3, k4, k5⟩ := keyE_ring (b := (0, r, L, 0)) hr (fun _ => hf) h
      refine ⟨k2, k3, k4 (fun y hy => ?_), k5⟩
      obtain ⟨j, c, _, hcj, hl, _⟩ := findR_at hf
      rw [← hl]; exact hr.u1 c (List.mem_of_getElem? hcj) y hy

theorem ru_start {lv : Int} (h : lv = 1 ∨ lv = 2 ∨ lv = 4 ∨ lv = 8) : RU (ring0 lv) := by
  refine ⟨fun y hy => ?_, fun c hc => by simp [ring0] at hc, by simp [ring0], by simp [ring0], fun c hc => by simp [ring0] at hc⟩
  simp only [ring0, List.mem_cons, List.not_mem_nil, or_false] at hy
  subst hy
  refine ⟨0, ?_⟩
  rcases h with rfl | rfl | rfl | rfl <;> decide +kernel

end Go.Proofs.YtnkndplbcbehkaaGreatDoor

/-! SecretsOnce, plain: who has what is left derives no key that was told. -/
namespace Go.Proofs.YtnkndplbcbehkaaGreatDoor
open Go.RowKit Go.Cas
set_option maxRecDepth 20000

/-- The arena has atoms, texts and keys alone. -/
def LPl (L : List Nd) : Prop := ∀ n ∈ L, n.op = 1 ∨ n.op = 2 ∨ n.op = 6

theorem LPl.make {L : List Nd} (h : LPl L) {x : Nd} (hx : x.op = 1 ∨ x.op = 2 ∨ x.op = 6) : LPl (makeR L x).2.2 := by
  unfold makeR
  split
  · split
    · exact h
    · split
      · exact h
      · intro n hn
        have hn' : n ∈ L ++ [x] := hn
        rw [List.mem_append, List.mem_singleton] at hn'
        rcases hn' with hn' | rfl
        · exact h n hn'
        · exact hx
  · exact h

theorem LPl.dexp {L : List Nd} (h : LPl L) (e s : Int) (label ctx : ByteArray) : LPl (dexpR L e s label ctx).2.2 := by
  unfold dexpR
  split
  · dsimp only
    have h1 : LPl (textR L ctx).2.2 := h.make (.inr (.inl rfl))
    split
    · unfold expandR
      split
      · dsimp only
        have h2 : LPl (textR (textR L ctx).2.2 label).2.2 := h1.make (.inr (.inl rfl))
        split
        · exact h2.make (.inr (.inr rfl))
        · exact h2
      · exact h1
    · exact h1
  · exact h

theorem LPl.fwd {L : List Nd} (h : LPl L) (e gen s : Int) : LPl (fwdR L e gen s).2.2.1 := by
  unfold fwdR
  dsimp only
  exact ((h.dexp _ _ _ _).dexp _ _ _ _).dexp _ _ _ _

theorem LPl.run : ∀ (n : Nat) {L : List Nd} (e : Int) (c : Ch), LPl L → LPl (runR n L e c).2.1
  | 0, _, _, _, h => h
  | n + 1, L, e, c, h => by
    rw [runR]
    exact LPl.run n _ _ (h.fwd _ _ _)

theorem LPl.take {L : List Nd} (h : LPl L) (e : Int) (c : Ch) (gen : Int) : LPl (takeR L e c gen).2.2.2.1 := by
  unfold takeR
  split
  · split
    · exact h
    · exact h
  · split
    · exact h
    · dsimp only
      exact (LPl.run _ _ _ h).fwd _ _ _

theorem LPl.begL : ∀ (n : Nat) (leaf x s : Int) (nodes : List Sec) {L : List Nd} (e : Int), LPl L → LPl (begL n leaf x s nodes L e).2.1
  | 0, _, _, _, _, _, _, h => h
  | n + 1, leaf, x, s, nodes, L, e, h => by
    rw [Go.Proofs.YtnkndplbcbehkaaGreatDoor.begL]
    split
    · exact h
    · split
      · dsimp only
        exact LPl.begL n _ _ _ _ _ ((h.dexp _ _ _ _).dexp _ _ _ _)
      · exact h

theorem LPl.begin {L : List Nd} (h : LPl L) (e : Int) (r : Kr) (leaf : Int) : LPl (beginR L e r leaf).2.2.1 := by
  unfold beginR
  dsimp only
  split
  · exact h
  · have hb := LPl.begL 10 leaf (r.nodes.getD (lastF (fun x => aboveB x.node leaf) r.nodes r.nodes.length).toNat default).node (r.nodes.getD (lastF (fun x => aboveB x.node leaf) r.nodes r.nodes.length).toNat default).sk
      (r.nodes.take (lastF (fun x => aboveB x.node leaf) r.nodes r.nodes.length).toNat ++ r.nodes.drop ((lastF (fun x => aboveB x.node leaf) r.nodes r.nodes.length).toNat + 1)) e h
    split
    · exact hb
    · dsimp only
      exact (hb.dexp _ _ _ _).dexp _ _ _ _

theorem LPl.key {L : List Nd} (h : LPl L) (r : Kr) (leaf kind gen : Int) : LPl (keyR L r leaf kind gen).2.2.2 := by
  unfold keyR
  split
  · exact h
  · have hb : LPl (if findR r.chains leaf kind < 0 then beginR L 0 r leaf else (0, r, L, 0)).2.2.1 := by
      split
      · exact h.begin _ _ _
      · exact h
    generalize (if findR r.chains leaf kind < 0 then beginR L 0 r leaf else (0, r, L, 0)) = b at hb ⊢
    unfold keyE
    split
    · dsimp only
      have ht := hb.take b.2.2.2 (b.2.1.chains.getD (findR b.2.1.chains leaf kind).toNat default) gen
      split
      · exact ht
      · exact ht
    · exact hb

theorem lpl_atoms : LPl (atoms 3) := by
  intro n hn
  have : n = atomN 0 ∨ n = atomN 1 ∨ n = atomN 2 := by
    have : n ∈ [atomN 0, atomN 1, atomN 2] := hn
    simpa using this
  rcases this with rfl | rfl | rfl <;> exact .inl rfl

/-! ### What derives what -/

theorem At.nd {L : List Nd} {i : Int} {x : Nd} (h : At L i x) : ndF L i = x ∧ (0 ≤ i ∧ i < L.length) := by
  have hl := getElem?_lt h.2
  refine ⟨?_, h.1, by have := h.1; omega⟩
  unfold ndF; rw [List.getD_eq_getElem?_getD, h.2]; rfl

theorem LPl.op {L : List Nd} (h : LPl L) (t : Int) : (ndF L t).op = 0 ∨ (ndF L t).op = 1 ∨ (ndF L t).op = 2 ∨ (ndF L t).op = 6 := by
  unfold ndF
  rw [List.getD_eq_getElem?_getD]
  cases hx : L[t.toNat]? with
  | none => exact .inl rfl
  | some x => exact .inr (h x (List.mem_of_getElem? hx))

/-- A derived key is had, or its secret can be derived. -/
theorem der_key {L : List Nd} (h : LPl L) {H : List Int} {t : Int} (hd : Der L H t) {s lb c : Int} (ha : At L t ⟨6, 0, ⟨#[]⟩, [s, lb, c]⟩) : t ∈ H ∨ Der L H s := by
  obtain ⟨e, _⟩ := ha.nd
  have no : ∀ u k, (k = 3 ∨ k = 8 ∨ k = 9 ∨ k = 10 ∨ k = 12) → (ndF L u).op ≠ k := fun u k hk e' => by
    have := h.op u
    omega
  cases hd with
  | given h' => exact .inl h'
  | pub _ h2 _ => rw [e] at h2; cases h2
  | comp _ _ h3 => exact .inr (h3 s (by rw [e]; simp))
  | list _ h2 _ => exact absurd h2 (no _ _ (by omega))
  | seal1 _ h2 _ _ => exact absurd h2 (no _ _ (by omega))
  | seal2 _ h2 _ _ => exact absurd h2 (no _ _ (by omega))
  | enc _ h2 _ _ => exact absurd h2 (no _ _ (by omega))
  | sig _ h2 => exact absurd h2 (no _ _ (by omega))
  | unblind _ h2 _ _ _ _ _ _ => exact absurd h2 (no _ _ (by omega))
  | blind _ h2 _ => exact absurd h2 (no _ _ (by omega))

/-- A derived atom is had. -/
theorem der_atom {L : List Nd} (h : LPl L) {H : List Int} {t : Int} (hd : Der L H t) {n : Int} (ha : At L t ⟨1, n, ⟨#[]⟩, []⟩) : t ∈ H := by
  obtain ⟨e, _⟩ := ha.nd
  have no : ∀ u k, (k = 3 ∨ k = 8 ∨ k = 9 ∨ k = 10 ∨ k = 12) → (ndF L u).op ≠ k := fun u k hk e' => by
    have := h.op u
    omega
  cases hd with
  | given h' => exact h'
  | pub h1 _ _ => rw [e] at h1; exact absurd rfl h1
  | comp h1 _ _ => rw [e] at h1; exact absurd rfl h1
  | list _ h2 _ => exact absurd h2 (no _ _ (by omega))
  | seal1 _ h2 _ _ => exact absurd h2 (no _ _ (by omega))
  | seal2 _ h2 _ _ => exact absurd h2 (no _ _ (by omega))
  | enc _ h2 _ _ => exact absurd h2 (no _ _ (by omega))
  | sig _ h2 => exact absurd h2 (no _ _ (by omega))
  | unblind _ h2 _ _ _ _ _ _ => exact absurd h2 (no _ _ (by omega))
  | blind _ h2 _ => exact absurd h2 (no _ _ (by omega))

theorem der_exp {L : List Nd} (h : LPl L) {H : List Int} {s t : Int} {label ctx : ByteArray} (ht : expT L s label ctx t) (hd : Der L H t) : t ∈ H ∨ Der L H s := by
  obtain ⟨c, lb, _, _, h3⟩ := ht
  exact der_key h hd h3

/-! ### What is left holds nothing of a key that is gone -/

theorem lbKind_ne (k : Int) : lbKind k ≠ lbSecret ∧ lbKind k ≠ lbTree ∧ lbKind k ≠ lbKey ∧ lbKind k ≠ lbNonce := by
  unfold lbKind
  split <;> exact ⟨by decide, by decide, by decide, by decide⟩

/-- What is derived, by which labels. -/
def Lab (L : List Nd) (t : Int) (p : ByteArray → Prop) : Prop := ∃ s label ctx, p label ∧ expT L s label ctx t

theorem Lab.no {L : List Nd} {t : Int} {p q : ByteArray → Prop} (h : Lab L t p) (k : Lab L t q) (hpq : ∀ b, p b → ¬ q b) : False := by
  obtain ⟨s, l, c, h1, h2⟩ := h
  obtain ⟨s', l', c', k1, k2⟩ := k
  obtain ⟨_, e, _⟩ := h2.inj k2
  exact hpq l h1 (e ▸ k1)

theorem exp_atom {L : List Nd} {s t : Int} {label ctx : ByteArray} (h : expT L s label ctx t) {n : Int} (ha : At L t ⟨1, n, ⟨#[]⟩, []⟩) : False := by
  obtain ⟨c, lb, _, _, h3⟩ := h
  have := congrArg Nd.op (ha.fn h3)
  exact absurd this (by show ¬ (1 : Int) = 6; decide)

theorem NS.lab {L : List Nd} {lv leaf : Int} : ∀ {n : Nat} {x s : Int}, NS L lv leaf n x s → s = 0 ∨ Lab L s (fun b => b = lbTree)
  | 0, _, _, h => .inl h.2
  | _ + 1, _, _, ⟨_, t, _, _, h3⟩ => .inr (by
    rcases h3 with ⟨_, _, h⟩ | ⟨_, _, h⟩
    · exact ⟨t, _, _, rfl, h⟩
    · exact ⟨t, _, _, rfl, h⟩)

theorem CS.lab {L : List Nd} {lv leaf kind : Int} : ∀ {g : Nat} {s : Int}, CS L lv leaf kind g s → Lab L s (fun b => b = lbSecret ∨ b = lbKind kind)
  | 0, _, ⟨_, t, _, h⟩ => ⟨t, _, _, .inr rfl, h⟩
  | _ + 1, _, ⟨t, _, h⟩ => ⟨t, _, _, .inl rfl, h⟩

theorem CS.inj2 {L : List Nd} {lv : Int} (h0 : ∃ n, At L 0 ⟨1, n, ⟨#[]⟩, []⟩) {leaf leaf' kind kind' : Int} (hk : kind = 0 ∨ kind = 1) (hk' : kind' = 0 ∨ kind' = 1) {g g' : Nat} {s : Int} (h : CS L lv leaf kind g s) (k : CS L lv leaf' kind' g' s) : leaf = leaf' ∧ kind = kind' ∧ g = g' := by
  cases g with
  | zero =>
    cases g' with
    | zero => obtain ⟨a, b⟩ := CS.inj h0 hk hk' h k; exact ⟨a, b, rfl⟩
    | succ g' =>
      obtain ⟨_, t, _, h2⟩ := h
      obtain ⟨t', _, k2⟩ := k
      exact absurd (h2.inj k2).2.1 (lbKind_ne _).1
  | succ g =>
    cases g' with
    | zero =>
      obtain ⟨t, _, h2⟩ := h
      obtain ⟨_, t', _, k2⟩ := k
      exact absurd (h2.inj k2).2.1.symm (lbKind_ne _).1
    | succ g' =>
      obtain ⟨t, h1, h2⟩ := h
      obtain ⟨t', k1, k2⟩ := k
      obtain ⟨rfl, _, e⟩ := h2.inj k2
      have := numeral_inj (by omega) (by omega) e
      have e2 : g = g' := by omega
      subst e2
      obtain ⟨a, b⟩ := CS.inj h0 hk hk' h1 k1
      exact ⟨a, b, rfl⟩

theorem even_above {x leaf : Int} (h : aboveB x leaf = true) (he : x % 2 = 0) : x = 2 * leaf := by
  rw [aboveB_iff] at h
  obtain ⟨ha, h1, h2⟩ := h
  have hx : 0 ≤ x ∧ x ≤ 510 := by simpa [any1B] using ha
  have := small_ind (p := fun x => x % 2 = 0 → fromF x = x / 2 ∧ toF x = x / 2 + 1) (by decide +kernel) x hx.1 hx.2 he
  omega

theorem above_child {x leaf : Int} (h : aboveB x leaf = true) (hn : x ≠ 2 * leaf) : childB x = true := by
  have ha := ((aboveB_iff _ _).1 h).1
  have : ¬ x % 2 = 0 := fun e => hn (even_above h e)
  unfold childB
  rw [ha, Bool.true_and, beq_iff_eq]
  omega

theorem NS.above {L : List Nd} {lv leaf : Int} (hr : aboveB (lv - 1) leaf = true) : ∀ {n : Nat} {x s : Int}, NS L lv leaf n x s → aboveB x leaf = true
  | 0, _, _, h => by rw [h.1]; exact hr
  | _ + 1, _, _, ⟨y, t, h1, h2, h3⟩ => by
    have hy := NS.above hr h1
    rcases h3 with ⟨a1, a2, _⟩ | ⟨a1, a2, _⟩
    · rw [a2]; exact a1
    · rw [a2]; exact above_other (above_child hy h2) hy (by rw [a1]; decide)

/-- What holds of a key ring, an arena, and a key that is gone. -/
structure Tg (L : List Nd) (lv : Int) (r : Kr) (leaf kind gen : Int) (x : GK) : Prop where
  pl : LPl L
  nd : L.Nodup
  h0 : ∃ n, At L 0 ⟨1, n, ⟨#[]⟩, []⟩
  ri : RI L lv r
  ru : RU r
  kd : kind = 0 ∨ kind = 1
  ab : aboveB (lv - 1) leaf = true
  gone : Gone r leaf kind gen
  key : KS L lv leaf kind gen x

theorem has_cases {r : Kr} {t : Int} (h : t ∈ hasR r) : (∃ y ∈ r.nodes, t = y.sk) ∨ (∃ c ∈ r.chains, t = c.secret) ∨ ∃ c ∈ r.chains, ∃ x ∈ c.kept, t = x.key ∨ t = x.nonce := by
  unfold hasR at h
  rw [List.mem_append, List.mem_map, List.mem_flatMap] at h
  rcases h with ⟨y, hy, rfl⟩ | ⟨c, hc, ht⟩
  · exact .inl ⟨y, hy, rfl⟩
  · unfold Ch.has at ht
    rw [List.mem_cons, List.mem_flatMap] at ht
    rcases ht with rfl | ⟨x, hx, ht⟩
    · exact .inr (.inl ⟨c, hc, rfl⟩)
    · refine .inr (.inr ⟨c, hc, x, hx, ?_⟩)
      simpa using ht

/-- What is had, and how it was derived. -/
theorem has_lab {L : List Nd} {lv : Int} {r : Kr} (hi : RI L lv r) (hu : RU r) {t : Int} (h : t ∈ hasR r) :
    (∃ y ∈ r.nodes, ∃ lf n, aboveB y.node lf = true ∧ NS L lv lf n y.node t) ∨ (∃ c ∈ r.chains, 0 ≤ c.gen ∧ (c.kind = 0 ∨ c.kind = 1) ∧ CS L lv c.leaf c.kind c.gen.toNat t) ∨
      ∃ c ∈ r.chains, ∃ x ∈ c.kept, (c.kind = 0 ∨ c.kind = 1) ∧ KS L lv c.leaf c.kind x.gen x ∧ (t = x.key ∨ t = x.nonce) := by
  rcases has_cases h with ⟨y, hy, rfl⟩ | ⟨c, hc, rfl⟩ | ⟨c, hc, x, hx, ht⟩
  · obtain ⟨lf, hlf⟩ := hu.u0 y hy
    obtain ⟨n, hn⟩ := hi.nodes y hy lf hlf
    exact .inl ⟨y, hy, lf, n, hlf, hn⟩
  · have := hi.chains c hc
    exact .inr (.inl ⟨c, hc, this.gen, this.kind, this.secret⟩)
  · have := hi.chains c hc
    exact .inr (.inr ⟨c, hc, x, hx, this.kind, this.kept x hx, ht⟩)

theorem KS.lab {L : List Nd} {lv leaf kind gen : Int} {x : GK} (h : KS L lv leaf kind gen x) {t : Int} (ht : t = x.key ∨ t = x.nonce) : Lab L t (fun b => b = lbKey ∨ b = lbNonce) := by
  obtain ⟨_, _, s, _, h1, h2⟩ := h
  rcases ht with rfl | rfl
  · exact ⟨s, _, _, .inl rfl, h1⟩
  · exact ⟨s, _, _, .inr rfl, h2⟩

theorem NS.not_lab {L : List Nd} {lv leaf : Int} (h0 : ∃ n, At L 0 ⟨1, n, ⟨#[]⟩, []⟩) {n : Nat} {x s : Int} (h : NS L lv leaf n x s) {p : ByteArray → Prop} (hl : Lab L s p) (hp : ∀ b, p b → b ≠ lbTree) : False := by
  rcases h.lab with rfl | h'
  · obtain ⟨a, ha⟩ := h0
    obtain ⟨_, _, _, _, he⟩ := hl
    exact exp_atom he ha
  · exact hl.no h' (fun b hb e => hp b hb e)

/-- No secret on the leaf's way is left. -/
theorem Tg.ns {L : List Nd} {lv : Int} {r : Kr} {leaf kind gen : Int} {x : GK} (h : Tg L lv r leaf kind gen x) {n : Nat} {z s : Int} (hs : NS L lv leaf n z s) : s ∉ hasR r := by
  intro hm
  rcases has_lab h.ri h.ru hm with ⟨y, hy, lf, m, hlf, hn⟩ | ⟨c, hc, _, _, hn⟩ | ⟨c, hc, k, hk, _, hn, ht⟩
  · have e := NS.inj h.h0 hn hs
    have h1 := h.gone.g1 y hy
    rw [e, hs.above h.ab] at h1; cases h1
  · exact hs.not_lab h.h0 hn.lab (fun b hb => by
      rcases hb with rfl | rfl
      · decide
      · exact (lbKind_ne _).2.1)
  · exact hs.not_lab h.h0 (hn.lab ht) (fun b hb => by rcases hb with rfl | rfl <;> decide)

/-- Nor can one be derived. -/
theorem Tg.ns_der {L : List Nd} {lv : Int} {r : Kr} {leaf kind gen : Int} {x : GK} (h : Tg L lv r leaf kind gen x) : ∀ {n : Nat} {z s : Int}, NS L lv leaf n z s → ¬ Der L (hasR r) s
  | 0, z, s, hs => fun hd => by
    obtain ⟨a, ha⟩ := h.h0
    have e : s = 0 := hs.2
    subst e
    exact h.ns hs (der_atom h.pl hd ha)
  | n + 1, z, s, hs => fun hd => by
    have hs' := hs
    obtain ⟨y, t, h1, _, h3⟩ := hs
    have key : ∀ {ctx : ByteArray}, expT L t lbTree ctx s → False := fun he => by
      rcases der_exp h.pl he hd with hm | hd'
      · exact h.ns hs' hm
      · exact h.ns_der h1 hd'
    rcases h3 with ⟨_, _, he⟩ | ⟨_, _, he⟩
    · exact key he
    · exact key he

theorem Tg.cs {L : List Nd} {lv : Int} {r : Kr} {leaf kind gen : Int} {x : GK} (h : Tg L lv r leaf kind gen x) {g : Nat} (hg : (g : Int) ≤ gen) {s : Int} (hs : CS L lv leaf kind g s) : s ∉ hasR r := by
  intro hm
  rcases has_lab h.ri h.ru hm with ⟨y, hy, lf, m, hlf, hn⟩ | ⟨c, hc, hc0, hck, hn⟩ | ⟨c, hc, k, hk, _, hn, ht⟩
  · exact hn.not_lab h.h0 hs.lab (fun b hb => by
      rcases hb with rfl | rfl
      · decide
      · exact (lbKind_ne _).2.1)
  · obtain ⟨e1, e2, e3⟩ := CS.inj2 h.h0 hck h.kd hn hs
    have := (h.gone.g2 c hc e1 e2).1
    omega
  · exact hs.lab.no (hn.lab ht) (fun b hb hk' => by
      rcases hb with rfl | rfl
      · rcases hk' with h' | h'
        · exact absurd h' (by decide)
        · exact absurd h' (by decide)
      · rcases hk' with h' | h'
        · exact (lbKind_ne _).2.2.1 h'
        · exact (lbKind_ne _).2.2.2 h')

theorem Tg.cs_der {L : List Nd} {lv : Int} {r : Kr} {leaf kind gen : Int} {x : GK} (h : Tg L lv r leaf kind gen x) : ∀ {g : Nat} {s : Int}, (g : Int) ≤ gen → CS L lv leaf kind g s → ¬ Der L (hasR r) s
  | 0, s, hg, hs => fun hd => by
    have hs' := hs
    obtain ⟨n, t, h1, h2⟩ := hs
    rcases der_exp h.pl h2 hd with hm | hd'
    · exact h.cs hg hs' hm
    · exact h.ns_der h1 hd'
  | g + 1, s, hg, hs => fun hd => by
    have hs' := hs
    obtain ⟨t, h1, h2⟩ := hs
    rcases der_exp h.pl h2 hd with hm | hd'
    · exact h.cs hg hs' hm
    · exact h.cs_der (by omega) h1 hd'

/-- A key that is gone is neither had nor derived. -/
theorem Tg.safe {L : List Nd} {lv : Int} {r : Kr} {leaf kind gen : Int} {x : GK} (h : Tg L lv r leaf kind gen x) {t : Int} (ht : t = x.key ∨ t = x.nonce) : ¬ Der L (hasR r) t := by
  intro hd
  have hlab := h.key.lab ht
  have hkey := h.key
  obtain ⟨g0, g1, s, h1, h2, h3⟩ := hkey
  have hno : t ∉ hasR r := fun hm => by
    rcases has_lab h.ri h.ru hm with ⟨y, hy, lf, m, hlf, hn⟩ | ⟨c, hc, hc0, hck, hn⟩ | ⟨c, hc, k, hk, hck, hn, ht'⟩
    · exact hn.not_lab h.h0 hlab (fun b hb => by rcases hb with rfl | rfl <;> decide)
    · exact hn.lab.no hlab (fun b hb hk' => by
        rcases hb with rfl | rfl
        · rcases hk' with h' | h'
          · exact absurd h' (by decide)
          · exact absurd h' (by decide)
        · rcases hk' with h' | h'
          · exact (lbKind_ne _).2.2.1 h'
          · exact (lbKind_ne _).2.2.2 h')
    · obtain ⟨k0, k1, s', k2, k3, k4⟩ := hn
      have fin : s = s' → numeral gen = numeral k.gen → False := fun e1 e2 => by
        subst e1
        obtain ⟨a, b, _⟩ := CS.inj2 h.h0 hck h.kd k2 h1
        have e := numeral_inj g0 k0 e2
        exact (h.gone.g2 c hc a b).2 k hk e.symm
      rcases ht with rfl | rfl
      · rcases ht' with e | e
        · rw [e] at h2
          obtain ⟨a, _, b⟩ := h2.inj k3
          exact fin a b
        · rw [e] at h2
          exact absurd (h2.inj k4).2.1 (by decide)
      · rcases ht' with e | e
        · rw [e] at h3
          exact absurd (h3.inj k3).2.1 (by decide)
        · rw [e] at h3
          obtain ⟨a, _, b⟩ := h3.inj k4
          exact fin a b
  have hds : Der L (hasR r) s := by
    rcases ht with rfl | rfl
    · exact (der_exp h.pl h2 hd).resolve_left hno
    · exact (der_exp h.pl h3 hd).resolve_left hno
  exact h.cs_der (by omega) h1 hds

end Go.Proofs.YtnkndplbcbehkaaGreatDoor
