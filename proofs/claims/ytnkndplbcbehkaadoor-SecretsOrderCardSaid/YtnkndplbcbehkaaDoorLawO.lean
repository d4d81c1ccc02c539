/-
  SecretsOrder: parts of its walk: the map of what was told, and what stands in the rounds.
-/
import Derived.Test.YtnkndplbcbehkaaDoorLawA
import Derived.Test.YtnkndplbcbehkaaDoorBd
import Derived.DeepKeys4
import Derived.MapViews
set_option linter.unusedVariables false
set_option linter.unusedSimpArgs false
namespace Go.Proofs.YtnkndplbcbehkaaDoor
open Go.RowKit Go.Cas Go.ChangeShapes Go.WideShapes
set_option maxHeartbeats 16000000
set_option maxRecDepth 100000

theorem op_wide : (match Tryd.prog.underlying 38 with | some (.array _ _) | some (.struct _) => true | _ => false) = true := by kernel_rfl
theorem op_law : Maps.Keyed Tryd.prog 38 := Maps.Keyed.of_law (deep_law_laid (by kernel_rfl) (m := 2) (by omega) (of_decide_eq_true (by kernel_rfl)) (by kernel_rfl) op_wide)
theorem op_cells : Tryd.prog.cellsOf 38 = 4 := by kernel_rfl

/-- Whole numbers of a word. -/
def In64 (x : Int) : Prop := -9223372036854775808 ≤ x ∧ x ≤ 9223372036854775807

theorem In64.wf {x : Int} (h : In64 x) : (Lit.int .i64 x).wf = true := by
  obtain ⟨h0, h1⟩ := h
  simp [Lit.wf, IntKind.min, IntKind.max, IntKind.signed, IntKind.bits]; omega

theorem op_trod {w : World} (a b c : Int) (d : Bool) (ha : In64 a) (hb : In64 b) (hc : In64 c) :
    DataW.Trod (H := Unit) (fun _ => ()) Tryd.prog w 0 (fun _ => true) true 38 (.agg #[.int .i64 a, .int .i64 b, .int .i64 c, .bool d]) (opD a b c d) [] := by
  have c3 : Tryd.prog.cellsOf 3 = 1 := by kernel_rfl
  have c4 : Tryd.prog.cellsOf 4 = 1 := by kernel_rfl
  refine ⟨2, ?_⟩
  simp [DataW.trod, Value.cells, Tryd.underlying38, op_cells, c3, c4, Tryd.underlying3, Tryd.underlying4, ha.wf, hb.wf, hc.wf, opD]

/-- What is asked for, as a key. -/
theorem op_key (a b c : Int) (d : Bool) (ha : In64 a) (hb : In64 b) (hc : In64 c) : ∃ l, keyOf Tryd.prog 38 (.agg #[.int .i64 a, .int .i64 b, .int .i64 c, .bool d]) = some l :=
  ⟨_, (keyOf_asKey (by kernel_rfl) op_wide (by simp [Value.formed, Tryd.underlying38, op_cells]) (op_trod (w := default) a b c d ha hb hc)).1⟩

def gkD (a b c : Int) : DataW Unit := .agg [.lit (.int .i64 a), .lit (.int .i64 b), .lit (.int .i64 c)]

/-- How the map's elements read. -/
def gkRd : Value → Option (DataW Unit × List MemPlace)
  | .agg a => (match a.toList with
    | [.int .i64 x, .int .i64 y, .int .i64 z] => some (gkD x y z, [])
    | _ => none)
  | _ => none

theorem gkRd_inv {v : Value} {q : DataW Unit × List MemPlace} (h : gkRd v = some q) : ∃ a b c, v = .agg #[.int .i64 a, .int .i64 b, .int .i64 c] ∧ q = (gkD a b c, []) := by
  unfold gkRd at h
  split at h
  · rename_i a
    split at h
    · rename_i x y z e
      cases h
      refine ⟨x, y, z, ?_, rfl⟩
      congr 1
      apply Array.ext'
      simpa using e
    · cases h
  · cases h

theorem gkRd_mk (a b c : Int) : gkRd (.agg #[.int .i64 a, .int .i64 b, .int .i64 c]) = some (gkD a b c, []) := rfl

theorem gk_zero (w : World) : (zeroValue 40).run Tryd.prog w = .ok (.agg #[.int .i64 0, .int .i64 0, .int .i64 0]) w := by kernel_rfl

/-- 'y, is := told[o]', where it is known what is told. -/
theorem look_gk {w : World} {ops : Array Oper} {rest : List Oper} {o : Oper} {a : Act} {Q : Exit → Act → World → Prop} (hg : o.guard = none) (m x : Operand) (hop : o.op = Op.lookup 36 m x true)
    (b n : Nat) (D : DataW Unit) (hm : a.eval m = .map (some b)) (hown : w.ownsMap Tryd.prog 38 gkRd b n D) (key : Value) (kl : Lit) (hx : a.eval x = key) (hkey : keyOf Tryd.prog 38 key = some kl)
    (q r s : Int) (hat : D.atKey kl (gkD 0 0 0) = gkD q r s) (bb : Bool) (hbb : Maps.has D kl = bb)
    (hK : wpList Tryd.prog ops Q rest (a.put o.dst (.tuple #[.agg #[.int .i64 q, .int .i64 r, .int .i64 s], .bool bb])) w) :
    wpList Tryd.prog ops Q (o :: rest) a w :=
  wpList_lookup_own_ok w hg m x 36 hop 38 40 op_law Tryd.underlying36 gkRd (gk_zero w) (gkD 0 0 0) [] (gkRd_mk 0 0 0) b n D hm hown key kl hx hkey (fun v ps hv => by
    rw [hat] at hv
    obtain ⟨a1, b1, c1, rfl, e⟩ := gkRd_inv hv
    simp only [Prod.mk.injEq, gkD, DataW.agg.injEq, List.cons.injEq, DataW.lit.injEq, Lit.int.injEq, true_and, and_true] at e
    obtain ⟨⟨rfl, rfl, rfl⟩, _⟩ := e
    rw [hbb]
    exact hK)

/-- What the map says. -/
def Ti (lv : Int) (D : DataW Unit) (L : List Nd) : Prop := ∀ kl : Lit, Maps.has D kl = true → ∃ a b c x, keyOf Tryd.prog 38 (.agg #[.int .i64 a, .int .i64 b, .int .i64 c, .bool false]) = some kl ∧ (∀ z, D.atKey kl z = gkD x.gen x.key x.nonce) ∧ KS L lv a b c x

theorem Ti.mono {lv : Int} {D : DataW Unit} {L L' : List Nd} (h : Ti lv D L) (hp : L <+: L') : Ti lv D L' := fun kl hk => by
  obtain ⟨a, b, c, x, h1, h2, h3⟩ := h kl hk
  exact ⟨a, b, c, x, h1, h2, h3.mono hp⟩

theorem Ti.put {lv : Int} {D : DataW Unit} {L : List Nd} (h : Ti lv D L) (hm : Maps.IsMap D) {a b c : Int} {x : GK} {kl : Lit} (hk : keyOf Tryd.prog 38 (.agg #[.int .i64 a, .int .i64 b, .int .i64 c, .bool false]) = some kl) (hx : KS L lv a b c x) :
    Ti lv (D.put kl (gkD x.gen x.key x.nonce)) L := fun kl' hk' => by
  have hkl : WideAt.IsKeyLit kl := op_law.key hk
  by_cases e : kl' = kl
  · subst e
    exact ⟨a, b, c, x, hk, fun z => Maps.atKey_put_same hm hkl _ z, hx⟩
  · rw [Maps.has_put_other e] at hk'
    obtain ⟨a', b', c', x', h1, h2, h3⟩ := h kl' hk'
    exact ⟨a', b', c', x', h1, fun z => by rw [Maps.atKey_put_other e]; exact h2 z, h3⟩

/-- What was told is the same. -/
theorem Ti.same {lv : Int} {D : DataW Unit} {L : List Nd} (h : Ti lv D L) (hn : L.Nodup) {a b c : Int} {x : GK} {kl : Lit} (hk : keyOf Tryd.prog 38 (.agg #[.int .i64 a, .int .i64 b, .int .i64 c, .bool false]) = some kl) (hx : KS L lv a b c x) (hh : Maps.has D kl = true) (z : DataW Unit) :
    D.atKey kl z = gkD x.gen x.key x.nonce := by
  obtain ⟨a', b', c', x', h1, h2, h3⟩ := h kl hh
  have e := op_law.inj hk h1
  simp only [Value.agg.injEq, Array.mk.injEq, List.cons.injEq, Value.int.injEq, true_and, and_true] at e
  obtain ⟨rfl, rfl, rfl⟩ := e
  rw [h2 z, h3.fn hn hx]

/-- What stands in the rounds. -/
structure Od (w0 : World) (N : Nat → Prop) (w : World) (p m s t : Nat) (lv : Int) (k : Nat) (L : List Nd) (D : DataW Unit) (r1 r2 : Kr) (v1 u1 v2 u2 : Value) : Prop where
  ls : Ls w0 N w p L
  one : Rb N w p s r1 v1 u1
  two : Rb N w p t r2 v2 u2
  map : w.ownsMap Tryd.prog 38 gkRd m k D
  far : ¬ ArB w p m
  old : w0.heap.size ≤ m
  ti : Ti lv D L
  atoms : atoms 3 <+: L
  ri1 : RI L lv r1
  ri2 : RI L lv r2

section
variable {w0 w w' : World} {N : Nat → Prop} {p m s t : Nat} {lv : Int} {k : Nat} {L L' : List Nd} {D : DataW Unit} {r1 r2 : Kr} {v1 u1 v2 u2 : Value}

theorem Od.nodup (h : Od w0 N w p m s t lv k L D r1 r2 v1 u1 v2 u2) : L.Nodup := by
  obtain ⟨_, _, _, _, _, _, _, _, _, _, _, _, h⟩ := h.ls.ar
  exact h.1

theorem Od.notN (h : Od w0 N w p m s t lv k L D r1 r2 v1 u1 v2 u2) : ¬ N m := fun hn => by
  obtain ⟨cs, T, h1, _⟩ := h.ls.nw.typed m hn
  obtain ⟨es, ck, h2, _⟩ := h.map
  rw [h1] at h2; cases h2

theorem Od.more (h : Od w0 N w p m s t lv k L D r1 r2 v1 u1 v2 u2) : Od w0 N w p m s t lv (k + 1) L D r1 r2 v1 u1 v2 u2 :=
  ⟨h.ls, h.one, h.two, h.map.mono (Nat.le_succ _), h.far, h.old, h.ti, h.atoms, h.ri1, h.ri2⟩

theorem Od.bl (h : Od w0 N w p m s t lv k L D r1 r2 v1 u1 v2 u2) (hb : Below w.heap.size w w') : Od w0 N w' p m s t lv k L D r1 r2 v1 u1 v2 u2 := by
  obtain ⟨h1, h2⟩ := h.ls.bl hb
  exact ⟨h1, h.one.bl h.ls hb, h.two.bl h.ls hb, ownsMap_block h.map (fun o ho => heap_bl hb ho), h2.out m _ (Array.getElem?_eq_getElem h.map.lt) h.far, h.old, h.ti, h.atoms, h.ri1, h.ri2⟩

/-- Behind 'Key'. -/
theorem Od.key (h : Od w0 N w p m s t lv k L D r1 r2 v1 u1 v2 u2) (hs : N s) (ht : N t) (hl : Ls w0 N w' p L') (hk : Kl N p w w') (hn : ∀ b o, w.heap[b]? = some o → N b → w'.heap[b]? = some o) (hp : L <+: L') : Od w0 N w' p m s t lv k L' D r1 r2 v1 u1 v2 u2 :=
  ⟨hl, h.one.step hk hn hs, h.two.step hk hn ht, ownsMap_block h.map (fun o ho => hk.heap m o ho h.far h.notN), hk.out m _ (Array.getElem?_eq_getElem h.map.lt) h.far, h.old, h.ti.mono hp, h.atoms.trans hp, h.ri1.mono hp, h.ri2.mono hp⟩

/-- The map is changed. -/
theorem Od.put {D' : DataW Unit} (h : Od w0 N w p m s t lv k L D r1 r2 v1 u1 v2 u2) (ho : w'.ownsMap Tryd.prog 38 gkRd m (k + 1) D') (hg : w.grownBy w' (some m)) (hti : Ti lv D' L) : Od w0 N w' p m s t lv (k + 1) L D' r1 r2 v1 u1 v2 u2 := by
  obtain ⟨es, ck, hm, _⟩ := h.map
  obtain ⟨h1, h2, h3, h4⟩ := h.ls.mapchg hm h.old h.far hg
  exact ⟨h1, ⟨h4 _ _ _ h.one.ring, h2 _ _ _ _ h.one.at_⟩, ⟨h4 _ _ _ h.two.ring, h2 _ _ _ _ h.two.at_⟩, ho, by rw [h3]; exact h.far, h.old, hti, h.atoms, h.ri1, h.ri2⟩

/-- A key ring is laid into the first cell. -/
theorem Od.set1 {r : Kr} {v u : Value} (h : Od w0 N w p m s t lv k L D r1 r2 v1 u1 v2 u2) (hs : N s) (ht : N t) (hst : s ≠ t) (hr : Ring N w p r v u) (hi : RI L lv r) :
    Od w0 N (((w.setCell ⟨s, 0, none⟩ (.int .i64 r.leaves)).setCell ⟨s, 1, none⟩ v).setCell ⟨s, 2, none⟩ u) p m s t lv k L D r r2 v u v2 u2 := by
  obtain ⟨l1, k1⟩ := h.ls.set3 hs (.int .i64 r.leaves) v u
  refine ⟨l1, ⟨hr.kl k1, same_set3 h.one.at_ _ _ _⟩, ⟨h.two.ring.kl k1, by rw [heap_set3 (Ne.symm hst)]; exact h.two.at_⟩, ownsMap_block h.map (fun o ho => k1.heap m o ho h.far h.notN), k1.out m _ (Array.getElem?_eq_getElem h.map.lt) h.far, h.old, h.ti, h.atoms, hi, h.ri2⟩

theorem Od.set2 {r : Kr} {v u : Value} (h : Od w0 N w p m s t lv k L D r1 r2 v1 u1 v2 u2) (hs : N s) (ht : N t) (hst : s ≠ t) (hr : Ring N w p r v u) (hi : RI L lv r) :
    Od w0 N (((w.setCell ⟨t, 0, none⟩ (.int .i64 r.leaves)).setCell ⟨t, 1, none⟩ v).setCell ⟨t, 2, none⟩ u) p m s t lv k L D r1 r v1 u1 v u := by
  obtain ⟨l1, k1⟩ := h.ls.set3 ht (.int .i64 r.leaves) v u
  refine ⟨l1, ⟨h.one.ring.kl k1, by rw [heap_set3 hst]; exact h.one.at_⟩, ⟨hr.kl k1, same_set3 h.two.at_ _ _ _⟩, ownsMap_block h.map (fun o ho => k1.heap m o ho h.far h.notN), k1.out m _ (Array.getElem?_eq_getElem h.map.lt) h.far, h.old, h.ti, h.atoms, h.ri1, hi⟩
end

/-- One more cell of the law's own. -/
theorem own_one {w0 w : World} {N : Nat → Prop} {p : Nat} {L : List Nd} {lv : Int} {v : Value} (h : Ls w0 N w p L) (hr : Ring N w p (ring0 lv) v (.slice none 0 0)) :
    ∃ N' : Nat → Prop, N' w.heap.size ∧ (∀ b, N b → N' b) ∧ Ls w0 N' (w.alloc (.cells #[.int .i64 lv, v, .slice none 0 0] 32)) p L ∧ Rb N' (w.alloc (.cells #[.int .i64 lv, v, .slice none 0 0] 32)) p w.heap.size (ring0 lv) v (.slice none 0 0) ∧
      ∀ b r v' u, Rb N w p b r v' u → Rb N' (w.alloc (.cells #[.int .i64 lv, v, .slice none 0 0] 32)) p b r v' u := by
  obtain ⟨h1, _, r1⟩ := h.more #[.int .i64 lv, v, .slice none 0 0] (T := 32) (by decide)
  exact ⟨_, .inr rfl, fun _ h => .inl h, h1, ⟨r1 _ _ _ hr, heap_new _ _⟩, fun b r v' u hb => ⟨r1 _ _ _ hb.ring, heap_al _ hb.at_⟩⟩

theorem od_start {w w4 : World} {N : Nat → Prop} {p s t : Nat} {lv : Int} {v1 u1 v2 u2 : Value} (h : Ls w N w4 p (atoms 3)) (h1 : Rb N w4 p s (ring0 lv) v1 u1) (h2 : Rb N w4 p t (ring0 lv) v2 u2) :
    Od w N (w4.alloc (.map #[] 0)) p w4.heap.size s t lv 0 (Go.Proofs.YtnkndplbcbehkaaDoor.atoms 3) (.map []) (ring0 lv) (ring0 lv) v1 u1 v2 u2 := by
  have hb : Below w4.heap.size w4 (w4.alloc (.map #[] 0)) := (Below.refl _ _).alloc (Nat.le_refl _) _
  obtain ⟨l1, k1⟩ := h.bl hb
  have hp : ArB (w4.alloc (.map #[] 0)) p = ArB w4 p := by
    obtain ⟨v, m, xs, h0, _⟩ := h.ar
    exact arB_lt (hb.block p (heap_lt h0))
  refine ⟨l1, h1.bl h hb, h2.bl h hb, World.ownsMap_made _ _ _ _, ?_, h.below.size, fun key hk => (by cases hk), List.prefix_refl _, ri_start _ _, ri_start _ _⟩
  rw [hp]
  intro hx
  have := h.ar.lt (.inl hx)
  omega

theorem bd_start {lv : Int} (h : lv = 1 ∨ lv = 2 ∨ lv = 4 ∨ lv = 8) : Bd 0 (ring0 lv) :=
  ⟨by show lv ≤ 100000; omega, by simp [ring0], by simp [ring0], fun c hc => by simp [ring0] at hc⟩

theorem back_idx {n k : Nat} (h : k < n) (hn : n ≤ 25) : wrap64 (wrap64 ((n : Int) - 1) - (k : Int)) = ((n - 1 - k : Nat) : Int) := by
  unfold wrap64; omega

end Go.Proofs.YtnkndplbcbehkaaDoor
