/-
  Plain laws: what begin, take and Key tell are the keys of the epoch's secret.
-/
import Derived.Test.YtnkndplbcbehkaaGreatDoorRel
import Derived.Test.YtnkndplbcbehkaaGreatDoorSecM
set_option linter.unusedVariables false
set_option linter.unusedSimpArgs false
namespace Go.Proofs.YtnkndplbcbehkaaGreatDoor
open Go.RowKit Go.Cas
set_option maxRecDepth 20000

theorem tree_child (x : Int) (h : childB x = true) : fromF (leftF x) = fromF x ∧ toF (leftF x) = fromF (rightF x) ∧ toF (rightF x) = toF x ∧ any1B (leftF x) = true ∧ any1B (rightF x) = true ∧
    fromF (leftF x) < toF (leftF x) ∧ fromF (rightF x) < toF (rightF x) := by
  have hx : (0 ≤ x ∧ x ≤ 510) ∧ x % 2 = 1 := by simpa [childB, any1B] using h
  exact small_ind (p := fun x => x % 2 = 1 → fromF (leftF x) = fromF x ∧ toF (leftF x) = fromF (rightF x) ∧ toF (rightF x) = toF x ∧ any1B (leftF x) = true ∧ any1B (rightF x) = true ∧ fromF (leftF x) < toF (leftF x) ∧ fromF (rightF x) < toF (rightF x)) (by decide +kernel) x hx.1.1 hx.1.2 hx.2

theorem aboveB_iff (x leaf : Int) : aboveB x leaf = true ↔ any1B x = true ∧ fromF x ≤ leaf ∧ leaf < toF x := by simp [aboveB]

theorem child_any {x : Int} (h : childB x = true) : any1B x = true := by
  unfold childB at h
  rw [Bool.and_eq_true] at h; exact h.1

theorem above_left {x leaf : Int} (h : childB x = true) (h1 : aboveB (leftF x) leaf = true) : aboveB x leaf = true := by
  obtain ⟨a1, a2, a3, a4, a5, a6, a7⟩ := tree_child x h
  rw [aboveB_iff] at h1 ⊢
  exact ⟨child_any h, by omega, by omega⟩
theorem above_right {x leaf : Int} (h : childB x = true) (h1 : aboveB (rightF x) leaf = true) : aboveB x leaf = true ∧ aboveB (leftF x) leaf = false := by
  obtain ⟨a1, a2, a3, a4, a5, a6, a7⟩ := tree_child x h
  rw [aboveB_iff] at h1
  refine ⟨(aboveB_iff _ _).2 ⟨child_any h, by omega, by omega⟩, ?_⟩
  cases hb : aboveB (leftF x) leaf with
  | false => rfl
  | true => rw [aboveB_iff] at hb; omega
theorem above_other {x leaf : Int} (h : childB x = true) (h0 : aboveB x leaf = true) (h1 : ¬ aboveB (leftF x) leaf = true) : aboveB (rightF x) leaf = true := by
  obtain ⟨a1, a2, a3, a4, a5, a6, a7⟩ := tree_child x h
  rw [aboveB_iff] at h0 h1 ⊢
  refine ⟨a5, ?_, by omega⟩
  rcases Int.lt_or_le leaf (fromF (rightF x)) with h2 | h2
  · exact absurd ⟨a4, by omega, by omega⟩ h1
  · exact h2

/-- A node's secret, for all leaves under it. -/
def NSx (L : List Nd) (lv x s : Int) : Prop := ∀ leaf, aboveB x leaf = true → ∃ n, NS L lv leaf n x s

theorem NSx.mono {L L' : List Nd} {lv x s : Int} (h : NSx L lv x s) (hp : L <+: L') : NSx L' lv x s := fun leaf hl => by
  obtain ⟨n, hn⟩ := h leaf hl
  exact ⟨n, hn.mono hp⟩

theorem odd_ne {x leaf : Int} (h : childB x = true) : x ≠ 2 * leaf := by
  have hx : (0 ≤ x ∧ x ≤ 510) ∧ x % 2 = 1 := by simpa [childB, any1B] using h
  omega

theorem NSx.left {L : List Nd} {lv x s t : Int} (h : NSx L lv x s) (hc : childB x = true) (ht : expT L s lbTree lbLeft t) : NSx L lv (leftF x) t := fun leaf hl => by
  obtain ⟨n, hn⟩ := h leaf (above_left hc hl)
  exact ⟨n + 1, x, s, hn, odd_ne hc, .inl ⟨hl, rfl, ht⟩⟩
theorem NSx.right {L : List Nd} {lv x s t : Int} (h : NSx L lv x s) (hc : childB x = true) (ht : expT L s lbTree lbRight t) : NSx L lv (rightF x) t := fun leaf hl => by
  obtain ⟨h1, h2⟩ := above_right hc hl
  obtain ⟨n, hn⟩ := h leaf h1
  exact ⟨n + 1, x, s, hn, odd_ne hc, .inr ⟨h2, rfl, ht⟩⟩

theorem begL_pre : ∀ (n : Nat) (leaf x s : Int) (nodes : List Sec) (L : List Nd) (e : Int), L <+: (begL n leaf x s nodes L e).2.1 ∧ ((begL n leaf x s nodes L e).2.2 = 0 → e = 0)
  | 0, _, _, _, _, L, e => ⟨List.prefix_refl _, fun h => h⟩
  | n + 1, leaf, x, s, nodes, L, e => by
    rw [begL]
    split
    · exact ⟨List.prefix_refl _, fun h => h⟩
    · split
      · dsimp only
        obtain ⟨a1, a2⟩ := dexpR_spec L e s lbTree lbLeft
        obtain ⟨b1, b2⟩ := dexpR_spec (dexpR L e s lbTree lbLeft).2.2 (dexpR L e s lbTree lbLeft).2.1 s lbTree lbRight
        obtain ⟨c1, c2⟩ := begL_pre n leaf (if aboveB (leftF x) leaf = true then leftF x else rightF x) (if aboveB (leftF x) leaf = true then (dexpR L e s lbTree lbLeft).1 else (dexpR (dexpR L e s lbTree lbLeft).2.2 (dexpR L e s lbTree lbLeft).2.1 s lbTree lbRight).1)
          (nodes.take (bsR nodes (if aboveB (leftF x) leaf = true then (⟨rightF x, (dexpR (dexpR L e s lbTree lbLeft).2.2 (dexpR L e s lbTree lbLeft).2.1 s lbTree lbRight).1⟩ : Sec) else ⟨leftF x, (dexpR L e s lbTree lbLeft).1⟩).node 0 nodes.length) ++
            [if aboveB (leftF x) leaf = true then (⟨rightF x, (dexpR (dexpR L e s lbTree lbLeft).2.2 (dexpR L e s lbTree lbLeft).2.1 s lbTree lbRight).1⟩ : Sec) else ⟨leftF x, (dexpR L e s lbTree lbLeft).1⟩] ++
            nodes.drop (bsR nodes (if aboveB (leftF x) leaf = true then (⟨rightF x, (dexpR (dexpR L e s lbTree lbLeft).2.2 (dexpR L e s lbTree lbLeft).2.1 s lbTree lbRight).1⟩ : Sec) else ⟨leftF x, (dexpR L e s lbTree lbLeft).1⟩).node 0 nodes.length))
          (dexpR (dexpR L e s lbTree lbLeft).2.2 (dexpR L e s lbTree lbLeft).2.1 s lbTree lbRight).2.2 (dexpR (dexpR L e s lbTree lbLeft).2.2 (dexpR L e s lbTree lbLeft).2.1 s lbTree lbRight).2.1
        exact ⟨(a1.trans b1).trans c1, fun h => (a2 (b2 (c2 h)).1).1⟩
      · exact ⟨List.prefix_refl _, fun h => h⟩

theorem begL_spec {lv : Int} : ∀ (n : Nat) (leaf x s : Int) (nodes : List Sec) (L : List Nd) (e : Int), aboveB x leaf = true → NSx L lv x s → (∀ y ∈ nodes, NSx L lv y.node y.sk) →
    ∀ s' nodes', (begL n leaf x s nodes L e).1 = some (s', nodes') → (begL n leaf x s nodes L e).2.2 = 0 →
      (∃ m, NS (begL n leaf x s nodes L e).2.1 lv leaf m (2 * leaf) s') ∧ ∀ y ∈ nodes', NSx (begL n leaf x s nodes L e).2.1 lv y.node y.sk
  | 0, _, _, _, _, _, _, _, _, _, _, _, h, _ => by cases h
  | n + 1, leaf, x, s, nodes, L, e, ha, hx, hn, s', nodes', h1, h2 => by
    rw [begL] at h1 h2 ⊢
    by_cases e1 : x = 2 * leaf
    · rw [if_pos e1] at h1 h2 ⊢
      simp only [Option.some.injEq, Prod.mk.injEq] at h1
      obtain ⟨rfl, rfl⟩ := h1
      obtain ⟨m, hm⟩ := hx leaf ha
      exact ⟨⟨m, e1 ▸ hm⟩, hn⟩
    · rw [if_neg e1] at h1 h2 ⊢
      by_cases hc : childB x = true
      · rw [if_pos hc] at h1 h2 ⊢
        dsimp only at h1 h2 ⊢
        have a := dexpR_spec L e s lbTree lbLeft
        change L <+: (dexpR L e s ⟨#[116, 114, 101, 101]⟩ ⟨#[108, 101, 102, 116]⟩).2.2 ∧ ((dexpR L e s ⟨#[116, 114, 101, 101]⟩ ⟨#[108, 101, 102, 116]⟩).2.1 = 0 → e = 0 ∧ expT (dexpR L e s ⟨#[116, 114, 101, 101]⟩ ⟨#[108, 101, 102, 116]⟩).2.2 s lbTree lbLeft (dexpR L e s ⟨#[116, 114, 101, 101]⟩ ⟨#[108, 101, 102, 116]⟩).1) at a
        generalize dexpR L e s ⟨#[116, 114, 101, 101]⟩ ⟨#[108, 101, 102, 116]⟩ = p at a h1 h2 ⊢
        have b := dexpR_spec p.2.2 p.2.1 s lbTree lbRight
        change p.2.2 <+: (dexpR p.2.2 p.2.1 s ⟨#[116, 114, 101, 101]⟩ ⟨#[114, 105, 103, 104, 116]⟩).2.2 ∧ ((dexpR p.2.2 p.2.1 s ⟨#[116, 114, 101, 101]⟩ ⟨#[114, 105, 103, 104, 116]⟩).2.1 = 0 → p.2.1 = 0 ∧ expT (dexpR p.2.2 p.2.1 s ⟨#[116, 114, 101, 101]⟩ ⟨#[114, 105, 103, 104, 116]⟩).2.2 s lbTree lbRight (dexpR p.2.2 p.2.1 s ⟨#[116, 114, 101, 101]⟩ ⟨#[114, 105, 103, 104, 116]⟩).1) at b
        generalize dexpR p.2.2 p.2.1 s ⟨#[116, 114, 101, 101]⟩ ⟨#[114, 105, 103, 104, 116]⟩ = q at b h1 h2 ⊢
        have hq := (begL_pre _ _ _ _ _ _ _).2 h2
        obtain ⟨hp, hr⟩ := b.2 hq
        obtain ⟨_, hl⟩ := a.2 hp
        have hxq := hx.mono (a.1.trans b.1)
        have nl := hxq.left hc (hl.mono b.1)
        have nr := hxq.right hc hr
        have hn' : ∀ y ∈ nodes, NSx q.2.2 lv y.node y.sk := fun y hy => (hn y hy).mono (a.1.trans b.1)
        refine begL_spec n leaf _ _ _ q.2.2 q.2.1 ?_ ?_ ?_ s' nodes' h1 h2
        · split
          · assumption
          · rename_i h3; exact above_other hc ha h3
        · split
          · exact nl
          · exact nr
        · intro y hy
          simp only [List.mem_append, List.mem_cons, List.not_mem_nil, or_false] at hy
          rcases hy with (hy | hy) | hy
          · exact hn' y (List.mem_of_mem_take hy)
          · subst hy
            split
            · exact nr
            · exact nl
          · exact hn' y (List.mem_of_mem_drop hy)
      · rw [if_neg hc] at h1
        cases h1

/-- A chain is as it should be. -/
structure CI (L : List Nd) (lv : Int) (c : Ch) : Prop where
  gen : 0 ≤ c.gen
  kind : c.kind = 0 ∨ c.kind = 1
  secret : CS L lv c.leaf c.kind c.gen.toNat c.secret
  kept : ∀ g ∈ c.kept, KS L lv c.leaf c.kind g.gen g

theorem CI.mono {L L' : List Nd} {lv : Int} {c : Ch} (h : CI L lv c) (hp : L <+: L') : CI L' lv c := ⟨h.gen, h.kind, h.secret.mono hp, fun g hg => (h.kept g hg).mono hp⟩

/-- A key ring is as it should be. -/
structure RI (L : List Nd) (lv : Int) (r : Kr) : Prop where
  nodes : ∀ y ∈ r.nodes, NSx L lv y.node y.sk
  chains : ∀ c ∈ r.chains, CI L lv c

theorem RI.mono {L L' : List Nd} {lv : Int} {r : Kr} (h : RI L lv r) (hp : L <+: L') : RI L' lv r := ⟨fun y hy => (h.nodes y hy).mono hp, fun c hc => (h.chains c hc).mono hp⟩

theorem beginR_spec {lv : Int} (L : List Nd) (r : Kr) (leaf : Int) : L <+: (beginR L 0 r leaf).2.2.1 ∧ (RI L lv r → (beginR L 0 r leaf).1 = 0 → RI (beginR L 0 r leaf).2.2.1 lv (beginR L 0 r leaf).2.1 ∧ (beginR L 0 r leaf).2.2.2 = 0) := by
  unfold beginR
  dsimp only
  split
  · exact ⟨List.prefix_refl _, fun _ h => absurd h (by show ¬ (4 : Int) = 0; decide)⟩
  · rename_i hat
    have hpre := (begL_pre 10 leaf (r.nodes.getD (lastF (fun x => aboveB x.node leaf) r.nodes r.nodes.length).toNat default).node (r.nodes.getD (lastF (fun x => aboveB x.node leaf) r.nodes r.nodes.length).toNat default).sk
      (r.nodes.take (lastF (fun x => aboveB x.node leaf) r.nodes r.nodes.length).toNat ++ r.nodes.drop ((lastF (fun x => aboveB x.node leaf) r.nodes r.nodes.length).toNat + 1)) L 0).1
    split
    · exact ⟨hpre, fun _ h => absurd h (by show ¬ (4 : Int) = 0; decide)⟩
    · rename_i s nodes hz
      have hsp := fun hri h0 => begL_spec (lv := lv) 10 leaf (r.nodes.getD (lastF (fun x => aboveB x.node leaf) r.nodes r.nodes.length).toNat default).node (r.nodes.getD (lastF (fun x => aboveB x.node leaf) r.nodes r.nodes.length).toNat default).sk
        (r.nodes.take (lastF (fun x => aboveB x.node leaf) r.nodes r.nodes.length).toNat ++ r.nodes.drop ((lastF (fun x => aboveB x.node leaf) r.nodes r.nodes.length).toNat + 1)) L 0 hri h0
      generalize begL 10 leaf (r.nodes.getD (lastF (fun x => aboveB x.node leaf) r.nodes r.nodes.length).toNat default).node (r.nodes.getD (lastF (fun x => aboveB x.node leaf) r.nodes r.nodes.length).toNat default).sk
        (r.nodes.take (lastF (fun x => aboveB x.node leaf) r.nodes r.nodes.length).toNat ++ r.nodes.drop ((lastF (fun x => aboveB x.node leaf) r.nodes r.nodes.length).toNat + 1)) L 0 = z at hpre hz hsp ⊢
      dsimp only
      have a := dexpR_spec z.2.1 z.2.2 s (lbKind 0) ⟨#[]⟩
      change z.2.1 <+: (dexpR z.2.1 z.2.2 s ⟨#[104, 97, 110, 100, 115, 104, 97, 107, 101]⟩ ⟨#[]⟩).2.2 ∧ ((dexpR z.2.1 z.2.2 s ⟨#[104, 97, 110, 100, 115, 104, 97, 107, 101]⟩ ⟨#[]⟩).2.1 = 0 → z.2.2 = 0 ∧ expT (dexpR z.2.1 z.2.2 s ⟨#[104, 97, 110, 100, 115, 104, 97, 107, 101]⟩ ⟨#[]⟩).2.2 s (lbKind 0) ⟨#[]⟩ (dexpR z.2.1 z.2.2 s ⟨#[104, 97, 110, 100, 115, 104, 97, 107, 101]⟩ ⟨#[]⟩).1) at a
      generalize dexpR z.2.1 z.2.2 s ⟨#[104, 97, 110, 100, 115, 104, 97, 107, 101]⟩ ⟨#[]⟩ = p at a ⊢
      have b := dexpR_spec p.2.2 p.2.1 s (lbKind 1) ⟨#[]⟩
      change p.2.2 <+: (dexpR p.2.2 p.2.1 s ⟨#[97, 112, 112, 108, 105, 99, 97, 116, 105, 111, 110]⟩ ⟨#[]⟩).2.2 ∧ ((dexpR p.2.2 p.2.1 s ⟨#[97, 112, 112, 108, 105, 99, 97, 116, 105, 111, 110]⟩ ⟨#[]⟩).2.1 = 0 → p.2.1 = 0 ∧ expT (dexpR p.2.2 p.2.1 s ⟨#[97, 112, 112, 108, 105, 99, 97, 116, 105, 111, 110]⟩ ⟨#[]⟩).2.2 s (lbKind 1) ⟨#[]⟩ (dexpR p.2.2 p.2.1 s ⟨#[97, 112, 112, 108, 105, 99, 97, 116, 105, 111, 110]⟩ ⟨#[]⟩).1) at b
      generalize dexpR p.2.2 p.2.1 s ⟨#[97, 112, 112, 108, 105, 99, 97, 116, 105, 111, 110]⟩ ⟨#[]⟩ = q at b ⊢
      have hall : L <+: q.2.2 := (hpre.trans a.1).trans b.1
      refine ⟨hall, fun hri h0 => ?_⟩
      obtain ⟨hp, hb⟩ := b.2 h0
      obtain ⟨hz0, ha⟩ := a.2 hp
      rcases lastF_at (fun x => aboveB x.node leaf) r.nodes r.nodes.length with h' | ⟨i, y, hi, hat', hiy, hqy⟩
      · rw [h'] at hat; exact absurd (by decide : (-1 : Int) < 0) hat
      · rw [hat', Int.toNat_natCast] at hsp
        have hgd : r.nodes.getD i default = y := by rw [List.getD_eq_getElem?_getD, hiy]; rfl
        rw [hgd] at hsp
        obtain ⟨⟨m, hm⟩, hnn⟩ := hsp hqy (hri.nodes y (List.mem_of_getElem? hiy)) (fun w hw => by
          rw [List.mem_append] at hw
          rcases hw with hw | hw
          · exact hri.nodes w (List.mem_of_mem_take hw)
          · exact hri.nodes w (List.mem_of_mem_drop hw)) s nodes hz hz0
        refine ⟨⟨fun w hw => (hnn w hw).mono (a.1.trans b.1), fun c hc => ?_⟩, h0⟩
        simp only [List.mem_append, List.mem_cons, List.not_mem_nil, or_false] at hc
        rcases hc with (hc | rfl | rfl) | hc
        · exact (hri.chains c (List.mem_of_mem_take hc)).mono hall
        · exact ⟨Int.le_refl 0, .inl rfl, ⟨m, s, hm.mono (a.1.trans b.1), ha.mono b.1⟩, fun g hg => by simp at hg⟩
        · exact ⟨Int.le_refl 0, .inr rfl, ⟨m, s, hm.mono (a.1.trans b.1), hb⟩, fun g hg => by simp at hg⟩
        · exact (hri.chains c (List.mem_of_mem_drop hc)).mono hall

/-- One step of a chain. -/
theorem fwd_ci {lv : Int} {L : List Nd} {e : Int} {c : Ch} (h : CI L lv c) (h0 : (fwdR L e c.gen c.secret).2.2.2 = 0) : KS (fwdR L e c.gen c.secret).2.2.1 lv c.leaf c.kind c.gen (fwdR L e c.gen c.secret).1 ∧
    CS (fwdR L e c.gen c.secret).2.2.1 lv c.leaf c.kind (c.gen + 1).toNat (fwdR L e c.gen c.secret).2.1 := by
  obtain ⟨a1, a2, a3⟩ := fwdR_spec L e c.gen c.secret
  obtain ⟨_, a4, a5, a6⟩ := a3 h0
  have hg := h.gen
  refine ⟨⟨hg, a2, c.secret, h.secret.mono a1, a4, a5⟩, ?_⟩
  have e1 : (c.gen + 1).toNat = c.gen.toNat + 1 := by omega
  have e2 : ((c.gen.toNat : Nat) : Int) = c.gen := by omega
  rw [e1]
  exact ⟨c.secret, h.secret.mono a1, by rw [e2]; exact a6⟩

theorem runR_pre : ∀ (n : Nat) (L : List Nd) (e : Int) (c : Ch), L <+: (runR n L e c).2.1 ∧ ((runR n L e c).2.2 = 0 → e = 0) ∧ (runR n L e c).1.gen = c.gen + n
  | 0, L, e, c => ⟨List.prefix_refl _, fun h => h, by simp [runR]⟩
  | n + 1, L, e, c => by
    rw [runR]
    obtain ⟨a1, _, a3⟩ := fwdR_spec L e c.gen c.secret
    obtain ⟨b1, b2, b3⟩ := runR_pre n (fwdR L e c.gen c.secret).2.2.1 (fwdR L e c.gen c.secret).2.2.2 ⟨c.leaf, c.kind, c.gen + 1, (fwdR L e c.gen c.secret).2.1, c.kept ++ [(fwdR L e c.gen c.secret).1]⟩
    refine ⟨a1.trans b1, fun h => (a3 (b2 h)).1, ?_⟩
    rw [b3]; show c.gen + 1 + (n : Int) = _; omega

theorem runR_spec {lv : Int} : ∀ (n : Nat) (L : List Nd) (e : Int) (c : Ch), CI L lv c → (runR n L e c).2.2 = 0 → CI (runR n L e c).2.1 lv (runR n L e c).1
  | 0, _, _, _, h, _ => h
  | n + 1, L, e, c, h, h0 => by
    rw [runR] at h0 ⊢
    have hf := (runR_pre n _ _ _).2.1 h0
    obtain ⟨a1, a2, _⟩ := fwdR_spec L e c.gen c.secret
    obtain ⟨b1, b2⟩ := fwd_ci h hf
    refine runR_spec n _ _ _ ⟨by show 0 ≤ c.gen + 1; have := h.gen; omega, h.kind, b2, fun g hg => ?_⟩ h0
    rw [List.mem_append] at hg
    rcases hg with hg | hg
    · exact (h.kept g hg).mono a1
    · rw [List.mem_singleton] at hg
      rw [hg]
      have hb := b1
      show KS _ lv c.leaf c.kind (fwdR L e c.gen c.secret).1.gen _
      rw [a2]; exact hb

theorem takeR_spec {lv : Int} (L : List Nd) (e : Int) (c : Ch) (gen : Int) : L <+: (takeR L e c gen).2.2.2.1 ∧ (CI L lv c → (takeR L e c gen).2.1 = 0 →
    KS (takeR L e c gen).2.2.2.1 lv c.leaf c.kind gen (takeR L e c gen).1 ∧ CI (takeR L e c gen).2.2.2.1 lv (takeR L e c gen).2.2.1) := by
  unfold takeR
  split
  · split
    · exact ⟨List.prefix_refl _, fun _ h => absurd h (by show ¬ (4 : Int) = 0; decide)⟩
    · rename_i i hi
      obtain ⟨hil, hq, _⟩ := List.findIdx?_eq_some_iff_getElem.1 hi
      have hq' : c.kept[i].gen = gen := by simpa using hq
      have hx : c.kept.getD i ⟨0, 0, 0⟩ = c.kept[i] := by rw [List.getD_eq_getElem?_getD, List.getElem?_eq_getElem hil]; rfl
      refine ⟨List.prefix_refl _, fun h _ => ⟨?_, h.gen, h.kind, h.secret, fun g hg => ?_⟩⟩
      · show KS L lv c.leaf c.kind gen (c.kept.getD i ⟨0, 0, 0⟩)
        rw [hx]
        have := h.kept _ (List.getElem_mem hil)
        rw [hq'] at this; exact this
      · have hg' : g ∈ c.kept.take i ++ c.kept.drop (i + 1) := hg
        rw [List.mem_append] at hg'
        rcases hg' with hg' | hg'
        · exact h.kept g (List.mem_of_mem_take hg')
        · exact h.kept g (List.mem_of_mem_drop hg')
  · split
    · exact ⟨List.prefix_refl _, fun _ h => absurd h (by show ¬ (2 : Int) = 0; decide)⟩
    · rename_i h1 h2
      dsimp only
      obtain ⟨a1, a2, a3⟩ := runR_pre (gen - c.gen).toNat L e c
      have hsm := runR_same (gen - c.gen).toNat L e c
      have ar := runR_spec (lv := lv) (gen - c.gen).toNat L e c
      generalize runR (gen - c.gen).toNat L e c = q at a1 a2 a3 hsm ar ⊢
      obtain ⟨b1, b2, b3⟩ := fwdR_spec q.2.1 q.2.2 q.1.gen q.1.secret
      refine ⟨a1.trans b1, fun h h0 => ?_⟩
      have hq := (b3 h0).1
      have hci := ar h hq
      obtain ⟨c1, c2⟩ := fwd_ci hci h0
      have hgen : q.1.gen = gen := by rw [a3]; omega
      refine ⟨?_, by show 0 ≤ q.1.gen + 1; have := hci.gen; omega, hci.kind, c2, fun g hg => ?_⟩
      · rw [hsm.1, hsm.2, hgen] at c1
        rw [hgen]; exact c1
      · have hg' : g ∈ q.1.kept.drop (q.1.kept.length - 8) := hg
        exact (hci.kept g (List.mem_of_mem_drop hg')).mono b1

theorem keyE_spec {lv : Int} {L : List Nd} (b : Int × Kr × List Nd × Int) (leaf kind gen : Int) (hk : kind = 0 ∨ kind = 1) (hp : L <+: b.2.2.1) (hri : b.1 = 0 → RI b.2.2.1 lv b.2.1) (hf : b.1 = 0 → ¬ findR b.2.1.chains leaf kind < 0) :
    L <+: (keyE b leaf kind gen).2.2.2 ∧ ((keyE b leaf kind gen).2.2.1 = 0 → KS (keyE b leaf kind gen).2.2.2 lv leaf kind gen (keyE b leaf kind gen).1 ∧ RI (keyE b leaf kind gen).2.2.2 lv (keyE b leaf kind gen).2.1) := by
  by_cases h0 : b.1 = 0
  · obtain ⟨j, c, hfj, hcj, hl, hkd⟩ := findR_at (hf h0)
    rw [keyE_at h0 hfj hcj rfl]
    obtain ⟨a1, a2⟩ := takeR_spec (lv := lv) b.2.2.1 b.2.2.2 c gen
    have hsm := takeR_same b.2.2.1 b.2.2.2 c gen
    generalize takeR b.2.2.1 b.2.2.2 c gen = t at a1 a2 hsm ⊢
    unfold keyT
    split
    · rename_i h1
      have hr := hri h0
      obtain ⟨c1, c2⟩ := a2 (hr.chains c (List.mem_of_getElem? hcj)) h1
      refine ⟨hp.trans a1, fun _ => ⟨?_, fun y hy => (hr.nodes y hy).mono a1, fun x hx => ?_⟩⟩
      · rw [← hl, ← hkd]; exact c1
      · have hx' : x ∈ b.2.1.chains.set j t.2.2.1 := hx
        rcases List.mem_or_eq_of_mem_set hx' with hx' | hx'
        · exact (hr.chains x hx').mono a1
        · rw [hx']; exact c2
    · rename_i h1
      exact ⟨hp.trans a1, fun h => absurd h h1⟩
  · have hres : keyE b leaf kind gen = (⟨0, 0, 0⟩, ⟨0, [], []⟩, b.1, b.2.2.1) := by unfold keyE; rw [if_neg h0]
    rw [hres]
    exact ⟨hp, fun h => absurd h h0⟩

/-- What 'Key' tells. -/
theorem keyR_spec {lv : Int} (L : List Nd) (r : Kr) (leaf kind gen : Int) (h : RI L lv r) :
    L <+: (keyR L r leaf kind gen).2.2.2 ∧ ((keyR L r leaf kind gen).2.2.1 = 0 → (kind = 0 ∨ kind = 1) ∧ KS (keyR L r leaf kind gen).2.2.2 lv leaf kind gen (keyR L r leaf kind gen).1 ∧ RI (keyR L r leaf kind gen).2.2.2 lv (keyR L r leaf kind gen).2.1) := by
  unfold keyR
  split
  · exact ⟨List.prefix_refl _, fun h => absurd h (by show ¬ (1 : Int) = 0; decide)⟩
  · rename_i hb
    have hk : kind = 0 ∨ kind = 1 := by omega
    have key : L <+: (keyE (if findR r.chains leaf kind < 0 then beginR L 0 r leaf else (0, r, L, 0)) leaf kind gen).2.2.2 ∧ ((keyE (if findR r.chains leaf kind < 0 then beginR L 0 r leaf else (0, r, L, 0)) leaf kind gen).2.2.1 = 0 →
        KS (keyE (if findR r.chains leaf kind < 0 then beginR L 0 r leaf else (0, r, L, 0)) leaf kind gen).2.2.2 lv leaf kind gen (keyE (if findR r.chains leaf kind < 0 then beginR L 0 r leaf else (0, r, L, 0)) leaf kind gen).1 ∧ RI (keyE (if findR r.chains leaf kind < 0 then beginR L 0 r leaf else (0, r, L, 0)) leaf kind gen).2.2.2 lv (keyE (if findR r.chains leaf kind < 0 then beginR L 0 r leaf else (0, r, L, 0)) leaf kind gen).2.1) := by
      refine keyE_spec _ leaf kind gen hk ?_ ?_ ?_
      · split
        · exact (beginR_spec (lv := lv) L r leaf).1
        · exact List.prefix_refl _
      · split
        · exact fun h0 => ((beginR_spec (lv := lv) L r leaf).2 h h0).1
        · exact fun _ => h
      · split
        · intro h0
          obtain ⟨_, j, a, b, _, hc⟩ := beginR_chains h0
          rw [hc]; exact findR_begin hk
        · exact fun _ => by assumption
    exact ⟨key.1, fun h0 => ⟨hk, key.2 h0⟩⟩

/-- The beginning: the root's secret is the first atom. -/
theorem ri_start (L : List Nd) (lv : Int) : RI L lv ⟨lv, [⟨lv - 1, 0⟩], []⟩ := by
  refine ⟨fun y hy => ?_, fun c hc => by simp at hc⟩
  simp only [List.mem_cons, List.not_mem_nil, or_false] at hy
  subst hy
  exact fun leaf _ => ⟨0, rfl, rfl⟩

end Go.Proofs.YtnkndplbcbehkaaGreatDoor
