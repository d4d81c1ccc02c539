/-
  secrets: take.
-/
import Derived.Test.YtnkndplbcbehkaaGreatDoorSecC
import Derived.Test.YtnkndplbcbehkaaGreatDoorSecD
import Derived.Test.YtnkndplbcbehkaaGreatDoorSlGenKey
import Derived.Deep.RegionHeld3
import Derived.Deep.QuietTactic
import Derived.BigQuiet
import Derived.StillTailTactics
set_option linter.unusedVariables false
set_option linter.unusedSimpArgs false
namespace Go.Proofs.YtnkndplbcbehkaaGreatDoor
open Go.RowKit Go.Cas
set_option maxHeartbeats 400000
set_option maxRecDepth 20000

/-- Keys that are passed over. -/
def runR : Nat → List Nd → Int → Ch → Ch × List Nd × Int
  | 0, L, e, c => (c, L, e)
  | n + 1, L, e, c => runR n (fwdR L e c.gen c.secret).2.2.1 (fwdR L e c.gen c.secret).2.2.2 ⟨c.leaf, c.kind, c.gen + 1, (fwdR L e c.gen c.secret).2.1, c.kept ++ [(fwdR L e c.gen c.secret).1]⟩

/-- What 'take' tells: the key, its error, the chain, the arena, the deriver's error. -/
def takeR (L : List Nd) (e : Int) (c : Ch) (gen : Int) : GK × Int × Ch × List Nd × Int :=
  if gen < c.gen then
    (match c.kept.findIdx? (fun x => x.gen == gen) with
     | none => (⟨0, 0, 0⟩, 4, c, L, e)
     | some i => (c.kept.getD i ⟨0, 0, 0⟩, 0, ⟨c.leaf, c.kind, c.gen, c.secret, c.kept.take i ++ c.kept.drop (i + 1)⟩, L, e))
  else if 8 < gen - c.gen then (⟨0, 0, 0⟩, 2, c, L, e)
  else
    (let r := runR (gen - c.gen).toNat L e c
     let f := fwdR r.2.1 r.2.2 r.1.gen r.1.secret
     (f.1, f.2.2.2, ⟨r.1.leaf, r.1.kind, r.1.gen + 1, f.2.1, r.1.kept.drop (r.1.kept.length - 8)⟩, f.2.2.1, f.2.2.2))

/-- The chain's cells, and no others, are others. -/
structure Row3 (cur cur' : Array Value) (o : Nat) (gen secret : Int) (k : Value) : Prop where
  size : cur'.size = cur.size
  same : ∀ j, j ≠ o + 2 → j ≠ o + 3 → j ≠ o + 4 → cur'[j]? = cur[j]?
  c2 : cur'[o + 2]? = some (.int .i64 gen)
  c3 : cur'[o + 3]? = some (.int .i64 secret)
  c4 : cur'[o + 4]? = some k

/-- What stands between 'take's steps. -/
structure Tk (w : World) (F : Nat → Prop) (d p g o : Nat) (cur : Array Value) (k0 : Value) (gen : Int) (F' : Nat → Prop) (wr : World) (L : List Nd) (e : Int) (c : Ch) (k : Value) (cur' : Array Value) : Prop where
  isd : IsD d p F' wr L e
  dg : Dg (fun b => b = d ∨ b = g ∨ k0.ownBlock = some b) p F w F' wr
  row : wr.heap[g]? = some (.cells cur' 71 (0, 0))
  row3 : Row3 cur cur' o c.gen c.secret k
  kept : wr.ownsRow 0 39 3 k c.kept.length (c.kept.flatMap GK.cs)
  kf : ∀ b, k.ownBlock = some b → F' b ∧ (k0.ownBlock = some b ∨ w.heap.size ≤ b)
  box : wr.heap[w.heap.size]? = some (.cells #[.int .i64 gen] 3 (0, 0))
  res : wr.heap[w.heap.size + 1]? = some (.cells #[.int .i64 0, .int .i64 0, .int .i64 0] 39 (0, 0))
  resF : F' (w.heap.size + 1)
  kn : k.ownBlock ≠ some (w.heap.size + 1)
  gd : g ≠ d
  fg : F g

theorem Row3.set {cur cur' : Array Value} {o : Nat} {gen secret : Int} {k : Value} (h : Row3 cur cur' o gen secret k) (gen' secret' : Int) :
    Row3 cur ((cur'.setIfInBounds (o + 2) (.int .i64 gen')).setIfInBounds (o + 3) (.int .i64 secret')) o gen' secret' k := by
  obtain ⟨h1, h2, h3, h4, h5⟩ := h
  have l3 := getElem?_lt' h4
  have l2 := getElem?_lt' h3
  refine ⟨by simpa using h1, fun j j2 j3 j4 => ?_, ?_, ?_, ?_⟩
  · rw [Array.getElem?_setIfInBounds_ne (by omega), Array.getElem?_setIfInBounds_ne (by omega)]; exact h2 j j2 j3 j4
  · rw [Array.getElem?_setIfInBounds_ne (by omega), Array.getElem?_setIfInBounds_self_of_lt l2]
  · rw [Array.getElem?_setIfInBounds_self_of_lt (by simpa using l3)]
  · rw [Array.getElem?_setIfInBounds_ne (by omega), Array.getElem?_setIfInBounds_ne (by omega)]; exact h5
theorem Row3.set4 {cur cur' : Array Value} {o : Nat} {gen secret : Int} {k : Value} (h : Row3 cur cur' o gen secret k) (k' : Value) : Row3 cur (cur'.setIfInBounds (o + 4) k') o gen secret k' := by
  obtain ⟨h1, h2, h3, h4, h5⟩ := h
  have l4 := getElem?_lt' h5
  refine ⟨by simpa using h1, fun j j2 j3 j4 => ?_, ?_, ?_, ?_⟩
  · rw [Array.getElem?_setIfInBounds_ne (by omega)]; exact h2 j j2 j3 j4
  · rw [Array.getElem?_setIfInBounds_ne (by omega)]; exact h3
  · rw [Array.getElem?_setIfInBounds_ne (by omega)]; exact h4
  · rw [Array.getElem?_setIfInBounds_self_of_lt l4]

theorem gks_one (l : List GK) : ∀ u ∈ l.flatMap GK.cs, u.oneCell' = true := by
  intro u hu
  obtain ⟨x, _, hx⟩ := List.mem_flatMap.1 hu
  simp only [GK.cs, List.mem_cons, List.not_mem_nil, or_false] at hx
  rcases hx with rfl | rfl | rfl <;> rfl

/-- 'forward' between 'take's steps. -/
theorem tk_forward {w : World} {F : Nat → Prop} {d p g o : Nat} {cur : Array Value} {k0 : Value} {gen : Int} {F' : Nat → Prop} {wr : World} {L : List Nd} {e : Int} {c : Ch} {k : Value} {cur' : Array Value}
    (h : Tk w F d p g o cur k0 gen F' wr L e c k cur') (h0 : 0 ≤ c.gen) (hm : c.gen ≤ 1000000) :
    Calls Tryz.prog 48 #[.pointer (some ⟨d, 0, none⟩), .pointer (some ⟨g, o, none⟩)] wr fun en w' =>
      en = .returned (.agg #[.int .i64 (fwdR L e c.gen c.secret).1.gen, .int .i64 (fwdR L e c.gen c.secret).1.key, .int .i64 (fwdR L e c.gen c.secret).1.nonce]) ∧
      ∃ F'' cur'', Tk w F d p g o cur k0 gen F'' w' (fwdR L e c.gen c.secret).2.2.1 (fwdR L e c.gen c.secret).2.2.2 ⟨c.leaf, c.kind, c.gen + 1, (fwdR L e c.gen c.secret).2.1, c.kept⟩ k cur'' ∧ Kp (fun b => b = w.heap.size) wr w' := by
  refine (sForward_any d p F' L e wr g o cur' c.gen c.secret h.isd h.row h.row3.c2 h.row3.c3 (h.dg.old _ h.fg) h0 hm).mono ?_
  rintro en w' ⟨rfl, F'', q1, q2, q3⟩
  have hgd := h.gd
  have hkeep : ∀ b cs T fr, wr.heap[b]? = some (.cells cs T fr) → T ≠ 82 → T ≠ 54 → b ≠ d → b ≠ g → w'.heap[b]? = some (.cells cs T fr) := fun b cs T fr hb t1 t2 n1 n2 =>
    (q2.heap hb (h.isd.ar.notB hb t1 t2) (fun hx => hx.elim n1 n2)).1
  have nd : ∀ b cs T fr, wr.heap[b]? = some (.cells cs T fr) → T ≠ 61 → b ≠ d := fun b cs T fr hb ht e => by rw [e, h.isd.at_] at hb; cases hb; exact ht rfl
  have ng : ∀ b cs T fr, wr.heap[b]? = some (.cells cs T fr) → T ≠ 71 → b ≠ g := fun b cs T fr hb ht e => by rw [e, h.row] at hb; cases hb; exact ht rfl
  refine ⟨rfl, F'', _, ⟨q1, h.dg.trans (q2.mono fun b hb => hb.elim .inl fun h => .inr (.inl h)), q3, h.row3.set _ _, ?_, fun b hb => ⟨q2.old _ (h.kf b hb).1, (h.kf b hb).2⟩, ?_, ?_, q2.old _ h.resF, h.kn, h.gd, h.fg⟩, ?_⟩
  · refine own_block h.kept fun b hb => ?_
    rcases h.kept.2 with ⟨rfl, _⟩ | ⟨g', cap, cu, rfl, _, hg', _⟩
    · cases hb
    · simp only [Value.ownBlock, Option.some.injEq] at hb
      subst hb
      rw [hg', hkeep _ _ _ _ hg' (by decide) (by decide) (nd _ _ _ _ hg' (by decide)) (ng _ _ _ _ hg' (by decide))]
  · exact hkeep _ _ _ _ h.box (by decide) (by decide) (nd _ _ _ _ h.box (by decide)) (ng _ _ _ _ h.box (by decide))
  · exact hkeep _ _ _ _ h.res (by decide) (by decide) (nd _ _ _ _ h.res (by decide)) (ng _ _ _ _ h.res (by decide))
  · exact q2.ar.kp.mono fun i hi hb hf => by
      subst hb
      rcases hf with hf | hf | hf
      · exact h.isd.ar.notB h.box (by decide) (by decide) hf
      · exact nd _ _ _ _ h.box (by decide) hf
      · exact ng _ _ _ _ h.box (by decide) hf

/-- A new row of kept keys is laid into the chain. -/
theorem tk_store {w : World} {F : Nat → Prop} {d p g o : Nat} {cur : Array Value} {k0 : Value} {gen : Int} {F' : Nat → Prop} {w1 w2 : World} {L : List Nd} {e : Int} {c : Ch} {k : Value} {cur' : Array Value}
    (h : Tk w F d p g o cur k0 gen F' w1 L e c k cur') {v2 : Value} {l : List GK} (hk : Kp (fun b => k.ownBlock ≠ some b) w1 w2) (ho2 : w2.ownsRow 0 39 3 v2 l.length (l.flatMap GK.cs))
    (hat : v2.ownBlock = k.ownBlock ∨ ∃ b, v2.ownBlock = some b ∧ w1.heap.size ≤ b) :
    ∃ F'', Tk w F d p g o cur k0 gen F'' (w2.setCell ⟨g, o + 4, none⟩ v2) L e ⟨c.leaf, c.kind, c.gen, c.secret, l⟩ v2 (cur'.setIfInBounds (o + 4) v2) := by
  have own_ty : ∀ (v : Value) (n : Nat) (xs : List Value) (W : World), W.ownsRow 0 39 3 v n xs → ∀ b, v.ownBlock = some b → ∃ cu, W.heap[b]? = some (.cells cu 39 (0, 0)) := fun v n xs W ho b hb => by
    rcases ho.2 with ⟨rfl, _⟩ | ⟨g', cap, cu, rfl, _, hg', _⟩
    · cases hb
    · simp only [Value.ownBlock, Option.some.injEq] at hb
      subst hb; exact ⟨cu, hg'⟩
  have hg2 : w2.heap[g]? = some (.cells cur' 71 (0, 0)) := hk.heap (K := fun b => k.ownBlock ≠ some b) (fun hb => by
    obtain ⟨cu, hc⟩ := own_ty _ _ _ _ h.kept g hb
    rw [h.row] at hc; cases hc) h.row
  have hgl : g < w2.heap.size := heap_lt hg2
  have hne2 : v2.ownBlock ≠ some g := fun hb => by
    obtain ⟨cu, hc⟩ := own_ty _ _ _ _ ho2 g hb
    rw [hg2] at hc; cases hc
  have hkall : Kp (fun b => ¬ (b = g ∨ k.ownBlock = some b)) w1 (w2.setCell ⟨g, o + 4, none⟩ v2) := (hk.mono fun i _ hi hf => hi (.inr hf)).setCell (fun _ hf => hf (.inl rfl)) _
  have hs12 : w1.heap.size ≤ w2.heap.size := hk.size
  have hww : w.heap.size ≤ w1.heap.size := h.dg.st.size
  obtain ⟨q1, q2⟩ := h.isd.upd (F' := fun b => F' b ∨ v2.ownBlock = some b) hkall (fun b hb => by
    rcases hb with rfl | hb
    · exact ⟨h.dg.old _ h.fg, h.isd.ar.notB h.row (by decide) (by decide), h.gd⟩
    · obtain ⟨cu, hc⟩ := own_ty _ _ _ _ h.kept b hb
      exact ⟨(h.kf b hb).1, h.isd.ar.notB hc (by decide) (by decide), fun e => by rw [e, h.isd.at_] at hc; cases hc⟩) (fun b hb => .inl hb) (fun b hb => by
    rcases hb with hb | hb
    · exact .inl hb
    · rcases hat with ha | ⟨b', ha, hl⟩
      · exact .inl (h.kf b (ha ▸ hb)).1
      · rw [ha] at hb; cases hb; exact .inr hl) (fun b hb => by
    rcases hb with hb | hb
    · exact Nat.lt_of_lt_of_le (h.isd.ar.lt hb) (by simpa using hs12)
    · have := (ho2.lt b hb).2; simpa using this)
  have hown : ∀ b, k.ownBlock = some b → k0.ownBlock = some b ∨ w.heap.size ≤ b := fun b hb => (h.kf b hb).2
  have hd2 : Dg (fun b => b = d ∨ b = g ∨ k0.ownBlock = some b) p F w (fun b => F' b ∨ v2.ownBlock = some b) (w2.setCell ⟨g, o + 4, none⟩ v2) := by
    refine Dg.fresh (Y := fun b => w.heap.size ≤ b) ?_ (fun b h => h)
    refine (h.dg.mono (fun b hb => .inl hb)).trans (q2.mono fun b hb => ?_)
    rcases hb with rfl | hb
    · exact .inl (.inr (.inl rfl))
    · rcases hown b hb with h' | h'
      · exact .inl (.inr (.inr h'))
      · exact .inr h'
  have hbk : ∀ b cs T, w1.heap[b]? = some (.cells cs T (0, 0)) → T ≠ 39 → b ≠ g → (w2.setCell ⟨g, o + 4, none⟩ v2).heap[b]? = some (.cells cs T (0, 0)) := fun b cs T hb ht hbg =>
    hkall.heap (K := fun b => ¬ (b = g ∨ k.ownBlock = some b)) (fun hf => hf.elim hbg fun hf => by
      obtain ⟨cu, hc⟩ := own_ty _ _ _ _ h.kept b hf
      rw [hb] at hc; cases hc; exact ht rfl) hb
  refine ⟨_, q1, hd2, Lib.heap_setCell_same hg2 v2, h.row3.set4 v2, ?_, fun b hb => ⟨.inr hb, ?_⟩, ?_, ?_, .inl h.resF, ?_, h.gd, h.fg⟩
  · refine own_block ho2 fun b hb => ?_
    have hbg : b ≠ g := fun e => hne2 (e ▸ hb)
    exact ((Kp.refl (fun k => k ≠ g) w2).setCell (p := ⟨g, o + 4, none⟩) (fun _ h => h rfl) v2).block b (ho2.lt b hb).2 hbg
  · rcases hat with ha | ⟨b', ha, hl⟩
    · exact hown b (ha ▸ hb)
    · rw [ha] at hb; cases hb; exact .inr (Nat.le_trans hww hl)
  · exact hbk _ _ _ h.box (by decide) (fun e => by have h1 := h.box; rw [e, h.row] at h1; cases h1)
  · exact hkall.heap (K := fun b => ¬ (b = g ∨ k.ownBlock = some b)) (fun hf => hf.elim (fun e => by have h1 := h.res; rw [e, h.row] at h1; cases h1) fun hf => h.kn hf) h.res
  · rcases hat with ha | ⟨b', ha, hl⟩
    · rw [ha]; exact h.kn
    · rw [ha]; intro e; simp only [Option.some.injEq] at e; have := heap_lt h.res; omega

theorem tk_append {w : World} {F : Nat → Prop} {d p g o : Nat} {cur : Array Value} {k0 : Value} {gen : Int} {F' : Nat → Prop} {w1 w2 : World} {L : List Nd} {e : Int} {c : Ch} {k : Value} {cur' : Array Value}
    (h : Tk w F d p g o cur k0 gen F' w1 L e c k cur') {v2 : Value} {x : GK} {X : Obj} (hg : (w1.alloc X).grownBy w2 k.ownBlock) (ho2 : w2.ownsRow 0 39 3 v2 (c.kept.length + 1) (c.kept.flatMap GK.cs ++ x.cs))
    (hat : v2.ownBlock = k.ownBlock ∨ v2.ownBlock = some (w1.alloc X).heap.size) :
    ∃ F'', Tk w F d p g o cur k0 gen F'' (w2.setCell ⟨g, o + 4, none⟩ v2) L e ⟨c.leaf, c.kind, c.gen, c.secret, c.kept ++ [x]⟩ v2 (cur'.setIfInBounds (o + 4) v2) := by
  refine tk_store h (l := c.kept ++ [x]) ?_ ?_ (hat.imp id fun h => ⟨_, h, by simp⟩)
  · exact ((Kp.refl _ _).alloc X).trans' (Kp.of_grown (K := fun b => k.ownBlock ≠ some b) hg fun _ _ h e => h e.symm) fun _ _ h => h
  · simpa using ho2

theorem tk_cells {w : World} {F : Nat → Prop} {d p g o : Nat} {cur : Array Value} {k0 : Value} {gen : Int} {F' : Nat → Prop} {wr : World} {L : List Nd} {e : Int} {c : Ch} {k : Value} {cur' : Array Value}
    (h : Tk w F d p g o cur k0 gen F' wr L e c k cur') : wr.cell? ⟨g, o + 2, none⟩ = some (.int .i64 c.gen) ∧ wr.cell? ⟨g, o + 3, none⟩ = some (.int .i64 c.secret) ∧ wr.cell? ⟨g, o + 4, none⟩ = some k ∧
      wr.cell? ⟨w.heap.size, 0, none⟩ = some (.int .i64 gen) ∧ wr.frozen? ⟨g, o + 4, none⟩ = false := by
  refine ⟨?_, ?_, ?_, ?_, frozen_of_row _ _ _ _ _ h.row⟩
  · rw [cell_of_row _ _ _ _ _ _ h.row]; exact h.row3.c2
  · rw [cell_of_row _ _ _ _ _ _ h.row]; exact h.row3.c3
  · rw [cell_of_row _ _ _ _ _ _ h.row]; exact h.row3.c4
  · rw [cell_of_row _ _ _ _ _ _ h.box]; rfl

theorem tk_drewN (n : Nat) {w : World} {F : Nat → Prop} {d p g o : Nat} {cur : Array Value} {k0 : Value} {gen : Int} {F' : Nat → Prop} {wr : World} {L : List Nd} {e : Int} {c : Ch} {k : Value} {cur' : Array Value}
    (h : Tk w F d p g o cur k0 gen F' wr L e c k cur') : Tk w F d p g o cur k0 gen F' (wr.drewN n) L e c k cur' := by
  obtain ⟨q1, q2⟩ := h.isd.upd (X := fun _ => False) (w' := wr.drewN n) ((Kp.refl _ _).drewN n) (fun _ h => h.elim) (fun _ h => h) (fun b h => .inl h) (fun b hb => h.isd.ar.lt hb)
  exact ⟨q1, h.dg.trans (q2.mono (fun _ h => h.elim)), h.row, h.row3, own_block h.kept (fun _ _ => rfl), h.kf, h.box, h.res, h.resF, h.kn, h.gd, h.fg⟩

/-- The entry. -/
theorem tk_entry {w : World} {F : Nat → Prop} {d p g o : Nat} {cur : Array Value} {k : Value} {gen : Int} {L : List Nd} {e : Int} {c : Ch} (hd : IsD d p F w L e) (hg : w.heap[g]? = some (.cells cur 71 (0, 0))) (hF : F g)
    (h2 : cur[o + 2]? = some (.int .i64 c.gen)) (h3 : cur[o + 3]? = some (.int .i64 c.secret)) (h4 : cur[o + 4]? = some k) (hk : w.ownsRow 0 39 3 k c.kept.length (c.kept.flatMap GK.cs)) (hkf : ∀ b, k.ownBlock = some b → F b) :
    Tk w F d p g o cur k gen (fun b => F b ∨ b = w.heap.size + 1) ((w.alloc (.cells #[.int .i64 gen] 3)).alloc (.cells #[.int .i64 0, .int .i64 0, .int .i64 0] 39)) L e c k cur := by
  have hB : Below w.heap.size w ((w.alloc (.cells #[.int .i64 gen] 3)).alloc (.cells #[.int .i64 0, .int .i64 0, .int .i64 0] 39)) := ((Below.refl _ _).alloc (Nat.le_refl _) _).alloc (by simp) _
  obtain ⟨q1, q2⟩ := hd.upd (X := fun _ => False) (F' := fun b => F b ∨ b = w.heap.size + 1) (Kp.of_all hB) (fun _ h => h.elim) (fun _ h => .inl h) (fun b h => h.imp id (fun h => by omega)) (fun b h => h.elim (fun h => Nat.lt_of_lt_of_le (hd.ar.lt h) hB.size) (fun h => by simp; omega))
  have hz := heap_new (w.alloc (.cells #[.int .i64 gen] 3)) (.cells #[.int .i64 0, .int .i64 0, .int .i64 0] 39)
  rw [World.alloc_size] at hz
  refine ⟨q1, q2.mono (fun _ h => h.elim), heap_bl hB hg, ⟨rfl, fun _ _ _ _ => rfl, h2, h3, h4⟩, own_below hk hB, fun b hb => ⟨.inl (hkf b hb), .inl hb⟩, heap_al _ (heap_new w _), hz, .inr rfl, fun e => ?_, fun e => (by rw [e, hd.at_] at hg; cases hg), hF⟩
  have := (hk.lt _ e).2; omega

/-- A row of keys that may be cut. -/
def KR (wr : World) (Q : Nat → Prop) (k : Value) (l : List GK) : Prop :=
  (k = .slice none 0 0 ∧ l = []) ∨ ∃ kb off cap cu, k = .slice (some ⟨kb, off, none⟩) l.length cap ∧ l.length ≤ cap ∧ l.length ≤ maxLen ∧ wr.heap[kb]? = some (.cells cu 39 (0, 0)) ∧ Q kb ∧ ∀ j u, (l.flatMap GK.cs)[j]? = some u → cu[off + j]? = some u

/-- What stands behind the cut. -/
structure Tl (w : World) (F : Nat → Prop) (d p g o : Nat) (cur : Array Value) (k0 : Value) (F' : Nat → Prop) (wr : World) (L : List Nd) (e : Int) (c : Ch) (k : Value) (cur' : Array Value) : Prop where
  isd : IsD d p F' wr L e
  dg : Dg (fun b => b = d ∨ b = g ∨ k0.ownBlock = some b) p F w F' wr
  row : wr.heap[g]? = some (.cells cur' 71 (0, 0))
  row3 : Row3 cur cur' o c.gen c.secret k
  kept : KR wr (fun b => b ≠ w.heap.size + 1 ∧ (k0.ownBlock = some b ∨ w.heap.size ≤ b)) k c.kept
  res : wr.heap[w.heap.size + 1]? = some (.cells #[.int .i64 0, .int .i64 0, .int .i64 0] 39 (0, 0))
  resF : F' (w.heap.size + 1)
  gd : g ≠ d
  fg : F g

theorem gks_drop (l : List GK) (m : Nat) : (l.drop m).flatMap GK.cs = (l.flatMap GK.cs).drop (m * 3) := by
  induction l generalizing m with
  | nil => simp
  | cons x l ih =>
    cases m with
    | zero => simp
    | succ m =>
      rw [List.drop_succ_cons, ih, show (m + 1) * 3 = m * 3 + 1 + 1 + 1 by omega]
      rfl

/-- The cut. -/
theorem tk_cut {w : World} {F : Nat → Prop} {d p g o : Nat} {cur : Array Value} {k0 : Value} {gen : Int} {F' : Nat → Prop} {w1 : World} {L : List Nd} {e : Int} {c : Ch} {cur' : Array Value} {a : Option Addr} {kc m : Nat} {a2 : Option Addr}
    (h : Tk w F d p g o cur k0 gen F' w1 L e c (.slice a c.kept.length kc) cur') (hm : m ≤ c.kept.length) (ha : (if kc = m then a else Option.map (fun x => x.add (m * 3)) a) = a2) :
    Tl w F d p g o cur k0 F' (w1.setCell ⟨g, o + 4, none⟩ (.slice a2 (c.kept.length - m) (kc - m))) L e ⟨c.leaf, c.kind, c.gen, c.secret, c.kept.drop m⟩ (.slice a2 (c.kept.length - m) (kc - m)) (cur'.setIfInBounds (o + 4) (.slice a2 (c.kept.length - m) (kc - m))) := by
  have hk : Kp (fun b => ¬ (b = g)) w1 (w1.setCell ⟨g, o + 4, none⟩ (.slice a2 (c.kept.length - m) (kc - m))) := (Kp.refl _ _).setCell (fun _ h => h rfl) _
  obtain ⟨q1, q2⟩ := h.isd.upd (F' := F') hk (fun b hb => by subst hb; exact ⟨h.dg.old _ h.fg, h.isd.ar.notB h.row (by decide) (by decide), h.gd⟩) (fun _ h => h) (fun _ h => .inl h) (fun b hb => by simpa using h.isd.ar.lt hb)
  refine ⟨q1, h.dg.trans (q2.mono fun b hb => .inr (.inl hb)), Lib.heap_setCell_same h.row _, h.row3.set4 _, ?_, ?_, h.resF, h.gd, h.fg⟩
  · rcases h.kept.2 with ⟨h1, h2⟩ | ⟨kb, cap, cu, h1, _, h3, h4, h5, h6, h7⟩
    · simp only [Value.slice.injEq] at h1
      obtain ⟨rfl, _, rfl⟩ := h1
      refine .inl ⟨?_, List.length_eq_zero_iff.1 (by simp [h2])⟩
      rw [← ha, h2]; simp
    · simp only [Value.slice.injEq] at h1
      obtain ⟨rfl, _, rfl⟩ := h1
      have hkn : kb ≠ w.heap.size + 1 := fun e => h.kn (by rw [e]; rfl)
      have hkb : kb ≠ g := fun e => by rw [e, h.row] at h3; cases h3
      have hall : ∀ j u, ((c.kept.drop m).flatMap GK.cs)[j]? = some u → cu[m * 3 + j]? = some u := fun j u hj => by
        rw [gks_drop, List.getElem?_drop, ← h7, List.getElem?_take] at hj
        split at hj
        · rw [← Array.getElem?_toList]; exact hj
        · cases hj
      have hlen : (c.kept.drop m).length = c.kept.length - m := List.length_drop
      by_cases hc : kc = m
      · rw [if_pos hc] at ha
        subst ha
        have h0 : c.kept.drop m = [] := List.drop_eq_nil_of_le (by omega)
        refine .inr ⟨kb, 0, kc - m, cu, by rw [hlen], (show (c.kept.drop m).length ≤ kc - m by omega), (show (c.kept.drop m).length ≤ maxLen by unfold maxLen at *; omega), hk.heap (K := fun b => ¬ b = g) hkb h3, ⟨hkn, (h.kf kb rfl).2⟩, ?_⟩
        rw [h0]; intro j u hj; simp at hj
      · rw [if_neg hc] at ha
        subst ha
        refine .inr ⟨kb, m * 3, kc - m, cu, by rw [hlen]; simp [add_lit], (show (c.kept.drop m).length ≤ kc - m by omega), (show (c.kept.drop m).length ≤ maxLen by unfold maxLen at *; omega), hk.heap (K := fun b => ¬ b = g) hkb h3, ⟨hkn, (h.kf kb rfl).2⟩, hall⟩
  · exact hk.heap (K := fun b => ¬ b = g) (fun e => by have h1 := h.res; rw [e, h.row] at h1; cases h1) h.res

theorem tl_forward {w : World} {F : Nat → Prop} {d p g o : Nat} {cur : Array Value} {k0 : Value} {F' : Nat → Prop} {wr : World} {L : List Nd} {e : Int} {c : Ch} {k : Value} {cur' : Array Value}
    (h : Tl w F d p g o cur k0 F' wr L e c k cur') (h0 : 0 ≤ c.gen) (hm : c.gen ≤ 1000000) :
    Calls Tryz.prog 48 #[.pointer (some ⟨d, 0, none⟩), .pointer (some ⟨g, o, none⟩)] wr fun en w' =>
      en = .returned (.agg #[.int .i64 (fwdR L e c.gen c.secret).1.gen, .int .i64 (fwdR L e c.gen c.secret).1.key, .int .i64 (fwdR L e c.gen c.secret).1.nonce]) ∧
      ∃ F'' cur'', Tl w F d p g o cur k0 F'' w' (fwdR L e c.gen c.secret).2.2.1 (fwdR L e c.gen c.secret).2.2.2 ⟨c.leaf, c.kind, c.gen + 1, (fwdR L e c.gen c.secret).2.1, c.kept⟩ k cur'' := by
  refine (sForward_any d p F' L e wr g o cur' c.gen c.secret h.isd h.row h.row3.c2 h.row3.c3 (h.dg.old _ h.fg) h0 hm).mono ?_
  rintro en w' ⟨rfl, F'', q1, q2, q3⟩
  have hkeep : ∀ (b : Nat) (cs : Array Value), wr.heap[b]? = some (.cells cs 39 (0, 0)) → w'.heap[b]? = some (.cells cs 39 (0, 0)) := fun b cs hb =>
    (q2.heap hb (h.isd.ar.notB hb (by decide) (by decide)) (fun hx => hx.elim (fun e => by rw [e, h.isd.at_] at hb; cases hb) (fun e => by rw [e, h.row] at hb; cases hb))).1
  refine ⟨rfl, F'', _, ⟨q1, h.dg.trans (q2.mono fun b hb => hb.elim .inl fun h => .inr (.inl h)), q3, h.row3.set _ _, ?_, hkeep _ _ h.res, q2.old _ h.resF, h.gd, h.fg⟩⟩
  rcases h.kept with h1 | ⟨kb, off, cap, cu, h1, h2, h3, h4, h5⟩
  · exact .inl h1
  · exact .inr ⟨kb, off, cap, cu, h1, h2, h3, hkeep _ _ h4, h5⟩

/-- What 'take' of a chain comes to. -/
def TakePost (w : World) (F : Nat → Prop) (d p g o : Nat) (cur : Array Value) (k0 : Value) (r : GK × Int × Ch × List Nd × Int) : Ending → World → Prop := fun en w' =>
  en = .returned (.tuple #[.agg #[.int .i64 r.1.gen, .int .i64 r.1.key, .int .i64 r.1.nonce], .int .i64 r.2.1]) ∧
  ∃ F' k' cur', IsD d p F' w' r.2.2.2.1 r.2.2.2.2 ∧ Dg (fun b => b = d ∨ b = g ∨ k0.ownBlock = some b) p F w F' w' ∧ w'.heap[g]? = some (.cells cur' 71 (0, 0)) ∧ Row3 cur cur' o r.2.2.1.gen r.2.2.1.secret k' ∧
    SlRep (fun b => ¬ ArB w' p b ∧ (k0.ownBlock = some b ∨ w.heap.size ≤ b)) w' k' r.2.2.1.kept


theorem tl_facts {w : World} {F : Nat → Prop} {d p g o : Nat} {cur : Array Value} {k0 : Value} {F' : Nat → Prop} {wr : World} {L : List Nd} {e : Int} {c : Ch} {k : Value} {cur' : Array Value}
    (h : Tl w F d p g o cur k0 F' wr L e c k cur') (x y z : Value) :
    let w3 := wr.alloc (.cells #[x, y, z] 39)
    w3.cell? ⟨wr.heap.size, 0, none⟩ = some x ∧ w3.cell? ⟨wr.heap.size, 1, none⟩ = some y ∧ w3.cell? ⟨wr.heap.size, 2, none⟩ = some z ∧ w3.cell? ⟨d, 1, none⟩ = some (.int .i64 e) ∧
    w3.heap[w.heap.size + 1]? = some (.cells #[.int .i64 0, .int .i64 0, .int .i64 0] 39 (0, 0)) := by
  have h0 := heap_new wr (.cells #[x, y, z] 39)
  refine ⟨?_, ?_, ?_, ?_, heap_al _ h.res⟩
  · rw [cell_of_row _ _ _ _ _ _ h0]; rfl
  · rw [cell_of_row _ _ _ _ _ _ h0]; rfl
  · rw [cell_of_row _ _ _ _ _ _ h0]; rfl
  · rw [cell_of_row _ _ _ _ _ _ (heap_al _ h.isd.at_)]; rfl

theorem tl_fin {w : World} {F : Nat → Prop} {d p g o : Nat} {cur : Array Value} {k0 : Value} {F' : Nat → Prop} {wr W : World} {L : List Nd} {e : Int} {c : Ch} {k : Value} {cur' : Array Value}
    (h : Tl w F d p g o cur k0 F' wr L e c k cur') (hk : Kp (fun b => ¬ (b = w.heap.size + 1)) wr W) :
    ∃ F' k' cur', IsD d p F' W L e ∧ Dg (fun b => b = d ∨ b = g ∨ k0.ownBlock = some b) p F w F' W ∧ W.heap[g]? = some (.cells cur' 71 (0, 0)) ∧ Row3 cur cur' o c.gen c.secret k' ∧ SlRep (fun b => ¬ ArB W p b ∧ (k0.ownBlock = some b ∨ w.heap.size ≤ b)) W k' c.kept := by
  obtain ⟨q1, q2⟩ := h.isd.upd (F' := F') hk (fun b hb => by
    subst hb
    exact ⟨h.resF, h.isd.ar.notB h.res (by decide) (by decide), fun e => by have h1 := h.res; rw [e, h.isd.at_] at h1; cases h1⟩) (fun _ h => h) (fun _ h => .inl h) (fun b hb => Nat.lt_of_lt_of_le (h.isd.ar.lt hb) hk.size)
  refine ⟨F', k, cur', q1, ?_, hk.heap (K := fun b => ¬ (b = w.heap.size + 1)) (fun e => by have h1 := h.res; rw [← e, h.row] at h1; cases h1) h.row, h.row3, ?_⟩
  · exact Dg.fresh (Y := fun b => b = w.heap.size + 1) ((h.dg.mono (fun b hb => .inl hb)).trans (q2.mono fun b hb => .inr hb)) (fun b hb => by omega)
  · rcases h.kept with ⟨rfl, h2⟩ | ⟨kb, off, cap, cu, rfl, h2, h3, h4, h5, h6⟩
    · rw [h2]; exact SlRep.nil _ _
    · have hb := hk.heap (K := fun b => ¬ (b = w.heap.size + 1)) h5.1 h4
      exact ⟨c.kept.flatMap GK.cs, ⟨gks_len _, h3, .inr ⟨kb, off, cap, rfl, h2, ⟨q1.ar.notB hb (by decide) (by decide), h5.2⟩, cu, _, _, hb, h6⟩⟩, Reps.gks.2 rfl⟩

end Go.Proofs.YtnkndplbcbehkaaGreatDoor
