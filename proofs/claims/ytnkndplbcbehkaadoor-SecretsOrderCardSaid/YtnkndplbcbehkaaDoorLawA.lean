/-
  SecretsApart: its walk.
-/
import Derived.Test.YtnkndplbcbehkaaDoorLawM
import Derived.Test.YtnkndplbcbehkaaDoorLawP
set_option linter.unusedVariables false
set_option linter.unusedSimpArgs false
namespace Go.Proofs.YtnkndplbcbehkaaDoor
open Go.RowKit Go.Cas
set_option maxHeartbeats 16000000
set_option maxRecDepth 20000

def opD (a b c : Int) (d : Bool) : DataW Unit := .agg [.lit (.int .i64 a), .lit (.int .i64 b), .lit (.int .i64 c), .lit (.bool d)]

/-- How the map's elements read. -/
def opRd : Value → Option (DataW Unit × List MemPlace)
  | .agg a => (match a.toList with
    | [.int .i64 x, .int .i64 y, .int .i64 z, .bool d] => some (opD x y z d, [])
    | _ => none)
  | _ => none

theorem opRd_inv {v : Value} {q : DataW Unit × List MemPlace} (h : opRd v = some q) : ∃ a b c d, v = .agg #[.int .i64 a, .int .i64 b, .int .i64 c, .bool d] ∧ q = (opD a b c d, []) := by
  unfold opRd at h
  split at h
  · rename_i a
    split at h
    · rename_i x y z d e
      cases h
      refine ⟨x, y, z, d, ?_, rfl⟩
      congr 1
      apply Array.ext'
      simpa using e
    · cases h
  · cases h

theorem opRd_mk (a b c : Int) (d : Bool) : opRd (.agg #[.int .i64 a, .int .i64 b, .int .i64 c, .bool d]) = some (opD a b c d, []) := rfl

/-- What the map says. -/
def Mi (lv : Int) (D : DataW Unit) (L : List Nd) : Prop := ∀ key : Int, Maps.has D (.int .i64 key) = true → ∃ a b c x, (∀ z, D.atKey (.int .i64 key) z = opD a b c false) ∧ (b = 0 ∨ b = 1) ∧ KS L lv a b c x ∧ x.key = key

theorem Mi.mono {lv : Int} {D : DataW Unit} {L L' : List Nd} (h : Mi lv D L) (hp : L <+: L') : Mi lv D L' := fun key hk => by
  obtain ⟨a, b, c, x, h1, h2, h3, h4⟩ := h key hk
  exact ⟨a, b, c, x, h1, h2, h3.mono hp, h4⟩

theorem Mi.put {lv : Int} {D : DataW Unit} {L : List Nd} (h : Mi lv D L) (hm : Maps.IsMap D) {a b c : Int} {x : GK} (hb : b = 0 ∨ b = 1) (hx : KS L lv a b c x) : Mi lv (D.put (.int .i64 x.key) (opD a b c false)) L := fun key hk => by
  have hkl : WideAt.IsKeyLit (.int .i64 x.key) := by simp [WideAt.IsKeyLit]
  by_cases e : key = x.key
  · subst e
    exact ⟨a, b, c, x, fun z => Maps.atKey_put_same hm hkl _ z, hb, hx, rfl⟩
  · have hne : (Lit.int .i64 key) ≠ (Lit.int .i64 x.key) := fun h => by simp only [Lit.int.injEq, true_and] at h; exact e h
    rw [Maps.has_put_other hne] at hk
    obtain ⟨a', b', c', x', h1, h2⟩ := h key hk
    exact ⟨a', b', c', x', fun z => by rw [Maps.atKey_put_other hne]; exact h1 z, h2⟩

theorem ownsMap_block {w w' : World} {k : TypeId} {R : Value → Option (DataW Unit × List MemPlace)} {m n : Nat} {D : DataW Unit} (h : w.ownsMap Tryd.prog k R m n D) (e : ∀ o, w.heap[m]? = some o → w'.heap[m]? = some o) : w'.ownsMap Tryd.prog k R m n D := by
  obtain ⟨es, ck, h1, h2⟩ := h
  exact ⟨es, ck, e _ h1, h2⟩

theorem int_law : Maps.Keyed Tryd.prog 3 := Maps.int_keyed Tryd.underlying3
theorem op_zero (w : World) : (zeroValue 38).run Tryd.prog w = .ok (.agg #[.int .i64 0, .int .i64 0, .int .i64 0, .bool false]) w := by kernel_rfl

theorem int_key (x : Int) (h0 : -9223372036854775808 ≤ x) (h1 : x ≤ 9223372036854775807) : keyOf Tryd.prog 3 (.int .i64 x) = some (.int .i64 x) :=
  Maps.keyOf_int_mk Tryd.underlying3 (by simp [Lit.wf, IntKind.min, IntKind.max, IntKind.signed, IntKind.bits]; omega)

/-- 'p, had := of[k]', where it is known what is told. -/
theorem look_op {w : World} {ops : Array Oper} {rest : List Oper} {o : Oper} {a : Act} {Q : Exit → Act → World → Prop} (hg : o.guard = none) (m x : Operand) (hop : o.op = Op.lookup 45 m x true)
    (b n : Nat) (D : DataW Unit) (hm : a.eval m = .map (some b)) (hown : w.ownsMap Tryd.prog 3 opRd b n D) (key : Value) (kl : Lit) (hx : a.eval x = key) (hkey : keyOf Tryd.prog 3 key = some kl)
    (q r s : Int) (d : Bool) (hat : D.atKey kl (opD 0 0 0 false) = opD q r s d) (bb : Bool) (hbb : Maps.has D kl = bb)
    (hK : wpList Tryd.prog ops Q rest (a.put o.dst (.tuple #[.agg #[.int .i64 q, .int .i64 r, .int .i64 s, .bool d], .bool bb])) w) :
    wpList Tryd.prog ops Q (o :: rest) a w :=
  wpList_lookup_own_ok w hg m x 45 hop 3 38 int_law Tryd.underlying45 opRd (op_zero w) (opD 0 0 0 false) [] (opRd_mk 0 0 0 false) b n D hm hown key kl hx hkey (fun v ps hv => by
    rw [hat] at hv
    obtain ⟨a1, b1, c1, d1, rfl, e⟩ := opRd_inv hv
    simp only [Prod.mk.injEq, opD, DataW.agg.injEq, List.cons.injEq, DataW.lit.injEq, Lit.int.injEq, Lit.bool.injEq, true_and, and_true] at e
    obtain ⟨⟨rfl, rfl, rfl, rfl⟩, _⟩ := e
    rw [hbb]
    exact hK)

/-- What stands in the rounds. -/
structure Ap (w0 w : World) (p m t : Nat) (lv : Int) (v : Value) (k : Nat) (L : List Nd) (D : DataW Unit) : Prop where
  ls : Ls w0 (fun _ => False) w p L
  ring : Ring (fun _ => False) w p (ring0 lv) v (.slice none 0 0)
  box : w.heap[t]? = some (.cells #[.int .i64 lv, v, .slice none 0 0] 32 (0, 0))
  map : w.ownsMap Tryd.prog 3 opRd m k D
  far : ¬ ArB w p m
  old : w0.heap.size ≤ m
  mi : Mi lv D L
  atoms : atoms 3 <+: L

theorem Ap.nodup {w0 w : World} {p m t : Nat} {lv : Int} {v : Value} {k : Nat} {L : List Nd} {D : DataW Unit} (h : Ap w0 w p m t lv v k L D) : L.Nodup := by
  obtain ⟨_, _, _, _, _, _, _, _, _, _, _, _, h⟩ := h.ls.ar
  exact h.1

theorem Ap.zero {w0 w : World} {p m t : Nat} {lv : Int} {v : Value} {k : Nat} {L : List Nd} {D : DataW Unit} (h : Ap w0 w p m t lv v k L D) : ∃ n, At L 0 ⟨1, n, ⟨#[]⟩, []⟩ := by
  obtain ⟨z, hz⟩ := h.atoms
  refine ⟨0, by decide, ?_⟩
  rw [← hz]; rfl

theorem Ap.bl {w0 w w' : World} {p m t : Nat} {lv : Int} {v : Value} {k : Nat} {L : List Nd} {D : DataW Unit} (h : Ap w0 w p m t lv v k L D) (hb : Below w.heap.size w w') : Ap w0 w' p m t lv v k L D := by
  obtain ⟨h1, h2⟩ := h.ls.bl hb
  have hm := h.map.lt
  exact ⟨h1, h.ring.kl h2, heap_bl hb h.box, ownsMap_block h.map (fun o ho => heap_bl hb ho), h2.out m _ (Array.getElem?_eq_getElem hm) h.far, h.old, h.mi, h.atoms⟩

/-- Behind 'Key'. -/
theorem Ap.key {w0 w w' : World} {p m t : Nat} {lv : Int} {v : Value} {k : Nat} {L L' : List Nd} {D : DataW Unit} (h : Ap w0 w p m t lv v k L D) (hl : Ls w0 (fun _ => False) w' p L') (hk : Kl (fun _ => False) p w w') (hp : L <+: L') : Ap w0 w' p m t lv v k L' D := by
  have hm := h.map.lt
  exact ⟨hl, h.ring.kl hk, h.ls.keepc hk h.box (by decide) (by decide) (fun h => h), ownsMap_block h.map (fun o ho => hk.heap m o ho h.far (fun h => h)), hk.out m _ (Array.getElem?_eq_getElem hm) h.far, h.old, h.mi.mono hp, h.atoms.trans hp⟩

theorem KS.range {w0 w : World} {N : Nat → Prop} {p : Nat} {L : List Nd} {lv a b c : Int} {x : GK} (h : Ls w0 N w p L) (hx : KS L lv a b c x) : keyOf Tryd.prog 3 (.int .i64 x.key) = some (.int .i64 x.key) := by
  obtain ⟨_, _, _, _, _, _, _, _, _, _, _, hL, _⟩ := h.ar
  obtain ⟨_, _, s, _, ⟨_, _, _, _, h0, h1⟩, _⟩ := hx
  have := getElem?_lt h1
  exact int_key _ (by omega) (by omega)

/-- The map is changed. -/
theorem Ap.put {w0 w w' : World} {p m t : Nat} {lv : Int} {v : Value} {k : Nat} {L : List Nd} {D D' : DataW Unit} (h : Ap w0 w p m t lv v k L D) (ho : w'.ownsMap Tryd.prog 3 opRd m (k + 1) D') (hg : w.grownBy w' (some m)) (hmi : Mi lv D' L) : Ap w0 w' p m t lv v (k + 1) L D' := by
  obtain ⟨es, ck, hm, _⟩ := h.map
  obtain ⟨h1, h2, h3, h4⟩ := h.ls.mapchg hm h.old h.far hg
  exact ⟨h1, h4 _ _ _ h.ring, h2 _ _ _ _ h.box, ho, by rw [h3]; exact h.far, h.old, hmi, h.atoms⟩

theorem ap_start {w w3 : World} {p : Nat} {lv : Int} {v : Value} (h : Ls w (fun _ => False) w3 p (atoms 3)) (hr : Ring (fun _ => False) w3 p (ring0 lv) v (.slice none 0 0)) :
    Ap w ((w3.alloc (.cells #[.int .i64 lv, v, .slice none 0 0] 32)).alloc (.map #[] 0)) p (w3.heap.size + 1) w3.heap.size lv v 0 (atoms 3) (.map []) := by
  have hb : Below w3.heap.size w3 ((w3.alloc (.cells #[.int .i64 lv, v, .slice none 0 0] 32)).alloc (.map #[] 0)) := ((Below.refl _ _).alloc (Nat.le_refl _) _).alloc (by simp) _
  obtain ⟨h1, h2⟩ := h.bl hb
  have hp : ArB ((w3.alloc (.cells #[.int .i64 lv, v, .slice none 0 0] 32)).alloc (.map #[] 0)) p = ArB w3 p := by
    obtain ⟨v, m, xs, h0, _⟩ := h.ar
    exact arB_lt (hb.block p (heap_lt h0))
  have hm := World.ownsMap_made (w3.alloc (.cells #[.int .i64 lv, v, .slice none 0 0] 32)) Tryd.prog 3 opRd
  rw [World.alloc_size] at hm
  refine ⟨h1, hr.kl h2, heap_al _ (heap_new _ _), hm, ?_, ?_, fun key hk => (by cases hk), List.prefix_refl _⟩
  · rw [hp]
    intro hx
    have := h.ar.lt (.inl hx)
    omega
  · have := h.below.size; omega

theorem Ap.more {w0 w : World} {p m t : Nat} {lv : Int} {v : Value} {k : Nat} {L : List Nd} {D : DataW Unit} (h : Ap w0 w p m t lv v k L D) : Ap w0 w p m t lv v (k + 1) L D :=
  ⟨h.ls, h.ring, h.box, h.map.mono (Nat.le_succ _), h.far, h.old, h.mi, h.atoms⟩

end Go.Proofs.YtnkndplbcbehkaaDoor
