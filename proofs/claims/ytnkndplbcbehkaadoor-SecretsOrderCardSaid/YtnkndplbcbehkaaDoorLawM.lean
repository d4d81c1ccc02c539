/-
  The laws' maps: a change of a map changes nothing that is read out of cells.
-/
import Derived.Test.YtnkndplbcbehkaaDoorLawK
import Derived.Test.YtnkndplbcbehkaaDoorRel2
set_option linter.unusedVariables false
set_option linter.unusedSimpArgs false
namespace Go.Proofs.YtnkndplbcbehkaaDoor
open Go.RowKit Go.Cas
set_option maxHeartbeats 2000000
set_option maxRecDepth 20000

/-- All blocks of cells stay. -/
def Cs (w w' : World) : Prop := ∀ (b : Nat) (cs : Array Value) (T : TypeId) (fr : Nat × Nat), w.heap[b]? = some (.cells cs T fr) → w'.heap[b]? = some (.cells cs T fr)

theorem SlR.chg {K : Nat → Prop} {w w' : World} {sz : Nat} {v : Value} {n : Nat} {xs : List Value} (h : SlR K w sz v n xs) (hc : Cs w w') : SlR K w' sz v n xs := by
  obtain ⟨h1, h2, h3⟩ := h
  refine ⟨h1, h2, h3.imp id fun ⟨b, off, cap, e, hc', hk, cs, T, fr, hb, hi⟩ => ⟨b, off, cap, e, hc', hk, cs, T, fr, hc _ _ _ _ hb, hi⟩⟩

theorem Reps.ndchg {K : Nat → Prop} {w w' : World} (hc : Cs w w') : ∀ {l : List Nd} {xs : List Value}, Reps K w xs l → Reps K w' xs l
  | [], _, h => h
  | x :: l, _, ⟨cs, rest, h1, ⟨v, h2, ys, h3, h4⟩, h5⟩ => ⟨cs, rest, h1, ⟨v, h2, ys, SlR.chg h3 hc, by rw [Reps.ints h4]; exact ints_rep K w' x.l⟩, Reps.ndchg hc h5⟩
where
  ints_rep (K : Nat → Prop) (w : World) : ∀ (l : List Int), Reps K w (l.map (Value.int .i64)) l
    | [] => rfl
    | x :: l => ⟨[.int .i64 x], _, rfl, rfl, ints_rep K w l⟩

theorem Reps.chchg {K : Nat → Prop} {w w' : World} (hc : Cs w w') : ∀ {l : List Ch} {xs : List Value}, Reps K w xs l → Reps K w' xs l
  | [], _, h => h
  | x :: l, _, ⟨cs, rest, h1, ⟨v, h2, ys, h3, h4⟩, h5⟩ => ⟨cs, rest, h1, ⟨v, h2, ys, SlR.chg h3 hc, by rw [Reps.gks] at h4 ⊢; exact h4⟩, Reps.chchg hc h5⟩

/-- The law's map is changed. -/
theorem Ls.mapchg {w0 : World} {N : Nat → Prop} {w w' : World} {p m : Nat} {L : List Nd} {es : Array MapEntry} {ck : Nat} (h : Ls w0 N w p L) (hm : w.heap[m]? = some (.map es ck)) (hf : w0.heap.size ≤ m) (hn : ¬ ArB w p m) (hg : w.grownBy w' (some m)) :
    Ls w0 N w' p L ∧ Cs w w' ∧ ArB w' p = ArB w p ∧ ∀ r v u, Ring N w p r v u → Ring N w' p r v u := by
  have hc : Cs w w' := fun b cs T fr hb => by
    rw [hg.block b (heap_lt hb) (fun e => by cases e; rw [hm] at hb; cases hb)]; exact hb
  obtain ⟨v, m', xs, h0, h1, h2, h3, h4, h5, h6, h7, h8⟩ := h.ar
  have hp : ArB w' p = ArB w p := by unfold ArB; rw [hc _ _ _ _ h0, h0]
  have hm' : m' ≠ m := fun e => hn (.inr ⟨_, _, _, _, h0, .inl e.symm⟩)
  refine ⟨⟨⟨fun b hb => ?_, fun b hb => by rw [hp]; exact h.nw.far b hb⟩, ?_, ?_, ?_, fun b hb => h.fresh b (by rwa [hp] at hb)⟩, hc, hp, fun r v u hr => ?_⟩
  · obtain ⟨cs, T, a1, a2⟩ := h.nw.typed b hb
    exact ⟨cs, T, hc _ _ _ _ a1, a2⟩
  · rw [hp]
    obtain ⟨e1, e2, e3, e4⟩ := h.env
    refine ⟨?_, e2, fun j hj => ?_, e4⟩
    · unfold Lib.TabIs World.var? at *
      cases hgn : Tryd.prog.globalNamed "internal/strconv.uint64pow10" with
      | none => simp [hgn] at e1
      | some g =>
        simp only [hgn, Option.bind_some] at e1 ⊢
        cases hb : w.heap[g]? with
        | none => simp [hb] at e1
        | some o =>
          cases o with
          | cells cs T fr => rw [hc _ _ _ _ hb]; rw [hb] at e1; exact e1
          | _ => simp [hb] at e1
    · have hj' := e3 j hj
      have hl := World.block_lt_of_cell? w _ hj'
      unfold World.cell? at hj' ⊢
      cases hb : w.heap[1]? with
      | none => simp [hb] at hj'
      | some o =>
        cases o with
        | cells cs T fr => rw [hc _ _ _ _ hb]; rw [hb] at hj'; exact hj'
        | _ => simp [hb] at hj'
  · rw [hp]
    refine ⟨v, m', xs, hc _ _ _ _ h0, own_block h1 fun k hk => ?_, Reps.ndchg hc h2, ?_, h4, h5, h6, fun b hb => Nat.lt_of_lt_of_le (h7 b hb) hg.size, h8⟩
    · obtain ⟨cu, hcu⟩ := own_type h1 hk
      rw [hcu]; exact hc _ _ _ _ hcu
    · obtain ⟨es', ck', a1, a2⟩ := h3
      exact ⟨es', ck', by rw [hg.block m' (heap_lt a1) (fun e => hm' (by cases e; rfl))]; exact a1, a2⟩
  · refine ⟨hg.os.trans h.below.os, hg.tape.trans h.below.tape, hg.output.trans h.below.output, Nat.le_trans h.below.size hg.size, fun b hb => ?_⟩
    rw [hg.block b (Nat.lt_of_lt_of_le hb h.below.size) (fun e => by cases e; omega)]
    exact h.below.block b hb
  · obtain ⟨⟨a, a1, a2⟩, b, b1, b2⟩ := hr
    exact ⟨⟨a, by rw [hp]; exact SlR.chg a1 hc, by rw [Reps.secs] at a2 ⊢; exact a2⟩, b, by rw [hp]; exact SlR.chg b1 hc, by rw [hp]; exact Reps.chchg hc b2⟩

end Go.Proofs.YtnkndplbcbehkaaDoor
