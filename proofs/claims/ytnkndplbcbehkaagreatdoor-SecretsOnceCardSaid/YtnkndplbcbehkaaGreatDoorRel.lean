/-
  Plain laws: what secrets and keys are, in an arena; each is one; others are others.
-/
import Derived.Test.YtnkndplbcbehkaaGreatDoorSecD
set_option linter.unusedVariables false
set_option linter.unusedSimpArgs false
namespace Go.Proofs.YtnkndplbcbehkaaGreatDoor
open Go.RowKit Go.Cas
set_option maxRecDepth 20000

/-- Number i of an arena is this node. -/
def At (L : List Nd) (i : Int) (x : Nd) : Prop := 0 ≤ i ∧ L[i.toNat]? = some x

theorem At.mono {L L' : List Nd} {i : Int} {x : Nd} (h : At L i x) (hp : L <+: L') : At L' i x := by
  obtain ⟨t, rfl⟩ := hp
  refine ⟨h.1, ?_⟩
  rw [List.getElem?_append_left (getElem?_lt h.2)]; exact h.2
theorem At.fn {L : List Nd} {i : Int} {x y : Nd} (h : At L i x) (k : At L i y) : x = y := Option.some.inj (h.2.symm.trans k.2)
theorem At.inj {L : List Nd} (hn : L.Nodup) {i j : Int} {x : Nd} (h : At L i x) (k : At L j x) : i = j := by
  have h1 := getElem?_lt h.2
  have h2 := getElem?_lt k.2
  have e1 : L[i.toNat] = x := Option.some.inj ((List.getElem?_eq_getElem h1).symm.trans h.2)
  have e2 : L[j.toNat] = x := Option.some.inj ((List.getElem?_eq_getElem h2).symm.trans k.2)
  have h3 := h.1
  have h4 := k.1
  have hp := List.pairwise_iff_getElem.1 hn
  rcases Nat.lt_trichotomy i.toNat j.toNat with h | h | h
  · exact absurd (e1.trans e2.symm) (hp _ _ h1 h2 h)
  · omega
  · exact absurd (e2.trans e1.symm) (hp _ _ h2 h1 h)

theorem makeR_spec (L : List Nd) (x : Nd) : L <+: (makeR L x).2.2 ∧ ((makeR L x).2.1 = 0 → At (makeR L x).2.2 (makeR L x).1 x) := by
  unfold makeR
  split
  · split
    · rename_i i hi
      exact ⟨List.prefix_refl _, fun _ => ⟨by simp, by simpa using idx_get hi⟩⟩
    · split
      · exact ⟨List.prefix_refl _, fun h => absurd h (by show ¬ (2 : Int) = 0; decide)⟩
      · exact ⟨List.prefix_append _ _, fun _ => ⟨by simp, by simp⟩⟩
  · exact ⟨List.prefix_refl _, fun h => absurd h (by show ¬ (1 : Int) = 0; decide)⟩

def txt (s : ByteArray) : Nd := ⟨2, 0, s, []⟩

/-- Term t is what is derived from s, by a label, in a context. -/
def expT (L : List Nd) (s : Int) (label ctx : ByteArray) (t : Int) : Prop := ∃ c lb, At L c (txt ctx) ∧ At L lb (txt label) ∧ At L t ⟨6, 0, ⟨#[]⟩, [s, lb, c]⟩

theorem expT.mono {L L' : List Nd} {s t : Int} {label ctx : ByteArray} (h : expT L s label ctx t) (hp : L <+: L') : expT L' s label ctx t := by
  obtain ⟨c, lb, h1, h2, h3⟩ := h
  exact ⟨c, lb, h1.mono hp, h2.mono hp, h3.mono hp⟩
theorem expT.fn {L : List Nd} (hn : L.Nodup) {s t t' : Int} {label ctx : ByteArray} (h : expT L s label ctx t) (k : expT L s label ctx t') : t = t' := by
  obtain ⟨c, lb, h1, h2, h3⟩ := h
  obtain ⟨c', lb', k1, k2, k3⟩ := k
  obtain rfl := h1.inj hn k1
  obtain rfl := h2.inj hn k2
  exact h3.inj hn k3
theorem expT.inj {L : List Nd} {s s' t : Int} {label label' ctx ctx' : ByteArray} (h : expT L s label ctx t) (k : expT L s' label' ctx' t) : s = s' ∧ label = label' ∧ ctx = ctx' := by
  obtain ⟨c, lb, h1, h2, h3⟩ := h
  obtain ⟨c', lb', k1, k2, k3⟩ := k
  have e := congrArg Nd.l (h3.fn k3)
  simp only [List.cons.injEq, and_true] at e
  obtain ⟨rfl, rfl, rfl⟩ := e
  exact ⟨rfl, congrArg Nd.s (h2.fn k2), congrArg Nd.s (h1.fn k1)⟩

theorem dexpR_spec (L : List Nd) (e s : Int) (label ctx : ByteArray) :
    L <+: (dexpR L e s label ctx).2.2 ∧ ((dexpR L e s label ctx).2.1 = 0 → e = 0 ∧ expT (dexpR L e s label ctx).2.2 s label ctx (dexpR L e s label ctx).1) := by
  unfold dexpR
  split
  · rename_i he
    dsimp only
    obtain ⟨a1, a2⟩ := makeR_spec L (txt ctx)
    change L <+: (textR L ctx).2.2 at a1
    change (textR L ctx).2.1 = 0 → At (textR L ctx).2.2 (textR L ctx).1 (txt ctx) at a2
    split
    · rename_i h1
      have hc := a2 h1
      unfold expandR
      split
      · dsimp only
        obtain ⟨b1, b2⟩ := makeR_spec (textR L ctx).2.2 (txt label)
        change (textR L ctx).2.2 <+: (textR (textR L ctx).2.2 label).2.2 at b1
        change (textR (textR L ctx).2.2 label).2.1 = 0 → At (textR (textR L ctx).2.2 label).2.2 (textR (textR L ctx).2.2 label).1 (txt label) at b2
        split
        · rename_i h2
          have hl := b2 h2
          obtain ⟨c1, c2⟩ := makeR_spec (textR (textR L ctx).2.2 label).2.2 ⟨6, 0, ⟨#[]⟩, [s, (textR (textR L ctx).2.2 label).1, (textR L ctx).1]⟩
          refine ⟨(a1.trans b1).trans c1, fun h3 => ⟨he, _, _, hc.mono (b1.trans c1), hl.mono c1, c2 h3⟩⟩
        · rename_i h2
          exact ⟨a1.trans b1, fun h3 => absurd h3 h2⟩
      · exact ⟨a1, fun h3 => absurd h3 (by show ¬ (1 : Int) = 0; decide)⟩
    · rename_i h1
      exact ⟨a1, fun h3 => absurd h3 h1⟩
  · rename_i he
    exact ⟨List.prefix_refl _, fun h => absurd h he⟩

def lbKey : ByteArray := ⟨#[107, 101, 121]⟩
def lbNonce : ByteArray := ⟨#[110, 111, 110, 99, 101]⟩
def lbSecret : ByteArray := ⟨#[115, 101, 99, 114, 101, 116]⟩
def lbTree : ByteArray := ⟨#[116, 114, 101, 101]⟩
def lbLeft : ByteArray := ⟨#[108, 101, 102, 116]⟩
def lbRight : ByteArray := ⟨#[114, 105, 103, 104, 116]⟩
def lbKind (kind : Int) : ByteArray := if kind = 0 then ⟨#[104, 97, 110, 100, 115, 104, 97, 107, 101]⟩ else ⟨#[97, 112, 112, 108, 105, 99, 97, 116, 105, 111, 110]⟩

theorem fwdR_spec (L : List Nd) (e gen secret : Int) :
    L <+: (fwdR L e gen secret).2.2.1 ∧ (fwdR L e gen secret).1.gen = gen ∧ ((fwdR L e gen secret).2.2.2 = 0 → e = 0 ∧ expT (fwdR L e gen secret).2.2.1 secret lbKey (numeral gen) (fwdR L e gen secret).1.key ∧
      expT (fwdR L e gen secret).2.2.1 secret lbNonce (numeral gen) (fwdR L e gen secret).1.nonce ∧ expT (fwdR L e gen secret).2.2.1 secret lbSecret (numeral gen) (fwdR L e gen secret).2.1) := by
  unfold fwdR
  dsimp only
  obtain ⟨a1, a2⟩ := dexpR_spec L e secret lbKey (numeral gen)
  change L <+: (dexpR L e secret ⟨#[107, 101, 121]⟩ (numeral gen)).2.2 at a1
  change (dexpR L e secret ⟨#[107, 101, 121]⟩ (numeral gen)).2.1 = 0 → e = 0 ∧ expT (dexpR L e secret ⟨#[107, 101, 121]⟩ (numeral gen)).2.2 secret lbKey (numeral gen) (dexpR L e secret ⟨#[107, 101, 121]⟩ (numeral gen)).1 at a2
  generalize dexpR L e secret ⟨#[107, 101, 121]⟩ (numeral gen) = k at a1 a2 ⊢
  obtain ⟨b1, b2⟩ := dexpR_spec k.2.2 k.2.1 secret lbNonce (numeral gen)
  change k.2.2 <+: (dexpR k.2.2 k.2.1 secret ⟨#[110, 111, 110, 99, 101]⟩ (numeral gen)).2.2 at b1
  change (dexpR k.2.2 k.2.1 secret ⟨#[110, 111, 110, 99, 101]⟩ (numeral gen)).2.1 = 0 → k.2.1 = 0 ∧ expT (dexpR k.2.2 k.2.1 secret ⟨#[110, 111, 110, 99, 101]⟩ (numeral gen)).2.2 secret lbNonce (numeral gen) (dexpR k.2.2 k.2.1 secret ⟨#[110, 111, 110, 99, 101]⟩ (numeral gen)).1 at b2
  generalize dexpR k.2.2 k.2.1 secret ⟨#[110, 111, 110, 99, 101]⟩ (numeral gen) = n at b1 b2 ⊢
  obtain ⟨c1, c2⟩ := dexpR_spec n.2.2 n.2.1 secret lbSecret (numeral gen)
  change n.2.2 <+: (dexpR n.2.2 n.2.1 secret ⟨#[115, 101, 99, 114, 101, 116]⟩ (numeral gen)).2.2 at c1
  change (dexpR n.2.2 n.2.1 secret ⟨#[115, 101, 99, 114, 101, 116]⟩ (numeral gen)).2.1 = 0 → n.2.1 = 0 ∧ expT (dexpR n.2.2 n.2.1 secret ⟨#[115, 101, 99, 114, 101, 116]⟩ (numeral gen)).2.2 secret lbSecret (numeral gen) (dexpR n.2.2 n.2.1 secret ⟨#[115, 101, 99, 114, 101, 116]⟩ (numeral gen)).1 at c2
  generalize dexpR n.2.2 n.2.1 secret ⟨#[115, 101, 99, 114, 101, 116]⟩ (numeral gen) = s at c1 c2 ⊢
  refine ⟨(a1.trans b1).trans c1, rfl, fun h => ?_⟩
  obtain ⟨h1, h2⟩ := c2 h
  obtain ⟨h3, h4⟩ := b2 h1
  obtain ⟨h5, h6⟩ := a2 h3
  exact ⟨h5, h6.mono (b1.trans c1), h4.mono c1, h2⟩

/-! ### What secrets are -/

/-- The n-th node on the way from the root to a leaf, and its secret. -/
def NS (L : List Nd) (lv leaf : Int) : Nat → Int → Int → Prop
  | 0, x, s => x = lv - 1 ∧ s = 0
  | n + 1, x, s => ∃ y t, NS L lv leaf n y t ∧ y ≠ 2 * leaf ∧
      ((aboveB (leftF y) leaf = true ∧ x = leftF y ∧ expT L t lbTree lbLeft s) ∨ (aboveB (leftF y) leaf = false ∧ x = rightF y ∧ expT L t lbTree lbRight s))

theorem NS.mono {L L' : List Nd} {lv leaf : Int} (hp : L <+: L') : ∀ {n : Nat} {x s : Int}, NS L lv leaf n x s → NS L' lv leaf n x s
  | 0, _, _, h => h
  | _ + 1, _, _, ⟨y, t, h1, h2, h3⟩ => ⟨y, t, NS.mono hp h1, h2, h3.imp (fun h => ⟨h.1, h.2.1, h.2.2.mono hp⟩) (fun h => ⟨h.1, h.2.1, h.2.2.mono hp⟩)⟩

theorem NS.fn {L : List Nd} (hn : L.Nodup) {lv leaf : Int} : ∀ {n : Nat} {x x' s s' : Int}, NS L lv leaf n x s → NS L lv leaf n x' s' → x = x' ∧ s = s'
  | 0, _, _, _, _, h, k => ⟨h.1.trans k.1.symm, h.2.trans k.2.symm⟩
  | n + 1, _, _, _, _, ⟨y, t, h1, _, h3⟩, ⟨y', t', k1, _, k3⟩ => by
    obtain ⟨rfl, rfl⟩ := NS.fn hn h1 k1
    rcases h3 with ⟨a1, a2, a3⟩ | ⟨a1, a2, a3⟩
    · rcases k3 with ⟨b1, b2, b3⟩ | ⟨b1, b2, b3⟩
      · exact ⟨a2.trans b2.symm, a3.fn hn b3⟩
      · rw [a1] at b1; cases b1
    · rcases k3 with ⟨b1, b2, b3⟩ | ⟨b1, b2, b3⟩
      · rw [a1] at b1; cases b1
      · exact ⟨a2.trans b2.symm, a3.fn hn b3⟩

/-- Earlier nodes of a way. -/
theorem NS.pre {L : List Nd} {lv leaf : Int} : ∀ {n : Nat} {x s : Int}, NS L lv leaf n x s → ∀ m, m < n → ∃ y t, NS L lv leaf m y t ∧ y ≠ 2 * leaf
  | 0, _, _, _, m, hm => by omega
  | n + 1, _, _, ⟨y, t, h1, h2, _⟩, m, hm => by
    by_cases e : m = n
    · subst e; exact ⟨y, t, h1, h2⟩
    · exact NS.pre h1 m (by omega)

/-- At the leaf: one length, one secret. -/
theorem NS.leaf {L : List Nd} (hn : L.Nodup) {lv leaf : Int} {n n' : Nat} {s s' : Int} (h : NS L lv leaf n (2 * leaf) s) (k : NS L lv leaf n' (2 * leaf) s') : n = n' ∧ s = s' := by
  have key : ∀ {a b : Nat} {x y : Int}, NS L lv leaf a (2 * leaf) x → NS L lv leaf b (2 * leaf) y → ¬ a < b := fun {a b x y} h1 h2 hl => by
    obtain ⟨z, t, h3, h4⟩ := h2.pre a hl
    exact h4 (NS.fn hn h3 h1).1
  have e : n = n' := by
    have h1 := key h k
    have h2 := key k h
    omega
  subst e
  exact ⟨rfl, (NS.fn hn h k).2⟩

/-- A chain's secret at a number. -/
def CS (L : List Nd) (lv leaf kind : Int) : Nat → Int → Prop
  | 0, s => ∃ n t, NS L lv leaf n (2 * leaf) t ∧ expT L t (lbKind kind) ⟨#[]⟩ s
  | g + 1, s => ∃ t, CS L lv leaf kind g t ∧ expT L t lbSecret (numeral (g : Int)) s

theorem CS.mono {L L' : List Nd} {lv leaf kind : Int} (hp : L <+: L') : ∀ {g : Nat} {s : Int}, CS L lv leaf kind g s → CS L' lv leaf kind g s
  | 0, _, ⟨n, t, h1, h2⟩ => ⟨n, t, h1.mono hp, h2.mono hp⟩
  | _ + 1, _, ⟨t, h1, h2⟩ => ⟨t, CS.mono hp h1, h2.mono hp⟩

theorem CS.fn {L : List Nd} (hn : L.Nodup) {lv leaf kind : Int} : ∀ {g : Nat} {s s' : Int}, CS L lv leaf kind g s → CS L lv leaf kind g s' → s = s'
  | 0, _, _, ⟨n, t, h1, h2⟩, ⟨n', t', k1, k2⟩ => by
    obtain ⟨rfl, rfl⟩ := NS.leaf hn h1 k1
    exact h2.fn hn k2
  | g + 1, _, _, ⟨t, h1, h2⟩, ⟨t', k1, k2⟩ => by
    obtain rfl := CS.fn hn h1 k1
    exact h2.fn hn k2

/-- A key. -/
def KS (L : List Nd) (lv leaf kind gen : Int) (x : GK) : Prop :=
  0 ≤ gen ∧ x.gen = gen ∧ ∃ s, CS L lv leaf kind gen.toNat s ∧ expT L s lbKey (numeral gen) x.key ∧ expT L s lbNonce (numeral gen) x.nonce

theorem KS.mono {L L' : List Nd} {lv leaf kind gen : Int} {x : GK} (h : KS L lv leaf kind gen x) (hp : L <+: L') : KS L' lv leaf kind gen x := by
  obtain ⟨h0, h1, s, h2, h3, h4⟩ := h
  exact ⟨h0, h1, s, h2.mono hp, h3.mono hp, h4.mono hp⟩

/-- Each key is one. -/
theorem KS.fn {L : List Nd} (hn : L.Nodup) {lv leaf kind gen : Int} {x y : GK} (h : KS L lv leaf kind gen x) (k : KS L lv leaf kind gen y) : x = y := by
  obtain ⟨_, h1, s, h2, h3, h4⟩ := h
  obtain ⟨_, k1, s', k2, k3, k4⟩ := k
  obtain rfl := h2.fn hn k2
  cases x; cases y
  simp only [GK.mk.injEq]
  exact ⟨h1.trans k1.symm, h3.fn hn k3, h4.fn hn k4⟩

/-- The root's secret is an atom. -/
theorem NS.inj {L : List Nd} {lv : Int} (h0 : ∃ n, At L 0 ⟨1, n, ⟨#[]⟩, []⟩) {leaf leaf' : Int} : ∀ {n n' : Nat} {x x' s : Int}, NS L lv leaf n x s → NS L lv leaf' n' x' s → x = x'
  | 0, 0, _, _, _, h, k => h.1.trans k.1.symm
  | 0, n' + 1, _, _, _, h, ⟨y, t, _, _, k3⟩ => by
    obtain ⟨a, ha⟩ := h0
    rw [h.2] at k3
    rcases k3 with ⟨_, _, c, lb, _, _, hx⟩ | ⟨_, _, c, lb, _, _, hx⟩
    · have := congrArg Nd.op (ha.fn hx); exact absurd this (by show ¬ (1 : Int) = 6; decide)
    · have := congrArg Nd.op (ha.fn hx); exact absurd this (by show ¬ (1 : Int) = 6; decide)
  | n + 1, 0, _, _, _, ⟨y, t, _, _, k3⟩, h => by
    obtain ⟨a, ha⟩ := h0
    rw [h.2] at k3
    rcases k3 with ⟨_, _, c, lb, _, _, hx⟩ | ⟨_, _, c, lb, _, _, hx⟩
    · have := congrArg Nd.op (ha.fn hx); exact absurd this (by show ¬ (1 : Int) = 6; decide)
    · have := congrArg Nd.op (ha.fn hx); exact absurd this (by show ¬ (1 : Int) = 6; decide)
  | n + 1, n' + 1, _, _, _, ⟨y, t, h1, _, h3⟩, ⟨y', t', k1, _, k3⟩ => by
    have lr : lbLeft ≠ lbRight := by decide
    rcases h3 with ⟨_, a2, a3⟩ | ⟨_, a2, a3⟩
    · rcases k3 with ⟨_, b2, b3⟩ | ⟨_, b2, b3⟩
      · obtain ⟨rfl, _, _⟩ := a3.inj b3
        rw [a2, b2, NS.inj h0 h1 k1]
      · exact absurd (a3.inj b3).2.2 lr
    · rcases k3 with ⟨_, b2, b3⟩ | ⟨_, b2, b3⟩
      · exact absurd (a3.inj b3).2.2.symm lr
      · obtain ⟨rfl, _, _⟩ := a3.inj b3
        rw [a2, b2, NS.inj h0 h1 k1]

theorem numeral_inj {n m : Int} (hn : 0 ≤ n) (hm : 0 ≤ m) (h : numeral n = numeral m) : n = m := by
  refine itoa_inj hn hm ?_
  have := congrArg (fun b : ByteArray => b.data.toList) h
  simpa [numeral] using this

theorem lbKind_inj {k k' : Int} (h1 : k = 0 ∨ k = 1) (h2 : k' = 0 ∨ k' = 1) (h : lbKind k = lbKind k') : k = k' := by
  rcases h1 with rfl | rfl <;> rcases h2 with rfl | rfl
  · rfl
  · exact absurd h (by decide)
  · exact absurd h (by decide)
  · rfl

theorem CS.inj {L : List Nd} {lv : Int} (h0 : ∃ n, At L 0 ⟨1, n, ⟨#[]⟩, []⟩) {leaf leaf' kind kind' : Int} (hk : kind = 0 ∨ kind = 1) (hk' : kind' = 0 ∨ kind' = 1) : ∀ {g : Nat} {s : Int}, CS L lv leaf kind g s → CS L lv leaf' kind' g s → leaf = leaf' ∧ kind = kind'
  | 0, _, ⟨n, t, h1, h2⟩, ⟨n', t', k1, k2⟩ => by
    obtain ⟨rfl, e, _⟩ := h2.inj k2
    have := NS.inj h0 h1 k1
    exact ⟨by omega, lbKind_inj hk hk' e⟩
  | g + 1, _, ⟨t, h1, h2⟩, ⟨t', k1, k2⟩ => by
    obtain ⟨rfl, _, _⟩ := h2.inj k2
    exact CS.inj h0 hk hk' h1 k1

/-- Other keys are others. -/
theorem KS.inj {L : List Nd} {lv : Int} (h0 : ∃ n, At L 0 ⟨1, n, ⟨#[]⟩, []⟩) {leaf leaf' kind kind' gen gen' : Int} (hk : kind = 0 ∨ kind = 1) (hk' : kind' = 0 ∨ kind' = 1) {x y : GK} (h : KS L lv leaf kind gen x) (k : KS L lv leaf' kind' gen' y) (e : x.key = y.key) :
    leaf = leaf' ∧ kind = kind' ∧ gen = gen' := by
  obtain ⟨g1, _, s, h2, h3, _⟩ := h
  obtain ⟨g2, _, s', k2, k3, _⟩ := k
  rw [e] at h3
  obtain ⟨rfl, _, e2⟩ := h3.inj k3
  obtain rfl := numeral_inj g1 g2 e2
  obtain ⟨a, b⟩ := CS.inj h0 hk hk' h2 k2
  exact ⟨a, b, rfl⟩

theorem KS.apart {L : List Nd} {lv leaf kind gen : Int} {x : GK} (h : KS L lv leaf kind gen x) : x.key ≠ x.nonce := by
  obtain ⟨_, _, s, _, h3, h4⟩ := h
  intro e
  rw [e] at h3
  exact absurd (h3.inj h4).2.1 (by decide)

end Go.Proofs.YtnkndplbcbehkaaGreatDoor
