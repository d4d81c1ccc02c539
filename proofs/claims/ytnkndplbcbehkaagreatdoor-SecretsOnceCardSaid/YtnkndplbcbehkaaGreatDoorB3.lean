/-
  Layer 5 (deduce): 'look', its parts: who uses whom, in memory. Layer 5 (deduce): 'look': its first parts, in memory.
-/
import Derived.Test.YtnkndplbcbehkaaGreatDoorB2
import Derived.Test.YtnkndplbcbehkaaGreatDoorB1
set_option linter.unusedVariables false
set_option linter.unusedSimpArgs false

/-! Layer 5 (deduce): 'look', its parts: who uses whom, in memory. -/
namespace Go.Proofs.YtnkndplbcbehkaaGreatDoor
open Go.RowKit Go.Cas
set_option maxHeartbeats 8000000
set_option maxRecDepth 20000

/-- The table of uses while it is made: a row of slices, each the call's own. -/
structure UsAt (w : World) (S0 ub n : Nat) (us : List (List Int)) : Prop where
  len : us.length = n
  ex : ∃ vs : List Value, vs.length = n ∧ w.heap[ub]? = some (.cells vs.toArray 24 (0, 0)) ∧ (∀ (i : Nat) (l : List Int) (v : Value), us[i]? = some l → vs[i]? = some v → w.ownsRow S0 3 1 v l.length (l.map (Value.int .i64))) ∧
    (∀ (i j : Nat) (v u : Value), i ≠ j → vs[i]? = some v → vs[j]? = some u → v.ownBlock = none ∨ v.ownBlock ≠ u.ownBlock)

theorem UsAt.bl {w w' : World} {S0 ub n : Nat} {us : List (List Int)} (h : UsAt w S0 ub n us) (hb : Below w.heap.size w w') : UsAt w' S0 ub n us := by
  obtain ⟨h1, vs, h2, h3, h4, h5⟩ := h
  exact ⟨h1, vs, h2, heap_bl hb h3, fun i l v hl hv => own_below (h4 i l v hl hv) hb, h5⟩

/-- What stands while the uses are gathered. -/
structure LkC (w0 wr : World) (S0 sb bx ib ub : Nat) (L : List Nd) (vl : Value) (us : List (List Int)) : Prop where
  below : Below w0.heap.size w0 wr
  at_ : wr.heap[sb]? = some (.cells #[vl, .slice (some ⟨ib, 0, none⟩) L.length L.length, .slice (some ⟨ub, 0, none⟩) L.length L.length, .slice none 0 0] 79 (0, 0))
  box : wr.heap[bx]? = some (.cells #[.pointer (some ⟨sb, 0, none⟩)] 72 (0, 0))
  inn : wr.heap[ib]? = some (.cells (boolCs (List.replicate L.length false)) 4 (0, 0))
  l : SlRep (fun b => b < S0 ∧ b ≠ sb) wr vl L
  us : UsAt wr S0 ub L.length us
  lo : w0.heap.size ≤ sb ∧ w0.heap.size ≤ bx ∧ S0 ≤ ib ∧ S0 ≤ ub ∧ sb < S0 ∧ bx < S0 ∧ w0.heap.size ≤ S0

theorem LkC.bl {w0 wr w' : World} {S0 sb bx ib ub : Nat} {L : List Nd} {vl : Value} {us : List (List Int)} (h : LkC w0 wr S0 sb bx ib ub L vl us) (hb : Below wr.heap.size wr w') : LkC w0 w' S0 sb bx ib ub L vl us :=
  ⟨h.below.trans (hb.mono h.below.size), heap_bl hb h.at_, heap_bl hb h.box, heap_bl hb h.inn, h.l.step (Kp.of_all hb) (fun _ _ h => h), h.us.bl hb, h.lo⟩

theorem list_set_modify {α : Type} (l : List α) (i : Nat) (f : α → α) (x : α) (h : l[i]? = some x) : l.modify i f = l.set i (f x) := by
  obtain ⟨hi, rfl⟩ := List.getElem?_eq_some_iff.1 h
  apply List.ext_getElem?
  intro j
  rw [List.getElem?_modify, List.getElem?_set]
  by_cases e : i = j
  · subst e
    simp [hi]
  · simp [e]

theorem useR_get {us : List (List Int)} {x t : Int} {l : List Int} (h : us[x.toNat]? = some l) : useR us x t = us.set x.toNat (l ++ [t]) := list_set_modify _ _ _ _ h

/-- All blocks stay but those of whole numbers and of rows of them. -/
def Kt (w w' : World) : Prop := ∀ (b : Nat) (cs : Array Value) (T : TypeId) (fr : Nat × Nat), w.heap[b]? = some (.cells cs T fr) → T ≠ 3 → T ≠ 24 → w'.heap[b]? = some (.cells cs T fr)
theorem Kt.trans {w w' w'' : World} (h : Kt w w') (k : Kt w' w'') : Kt w w'' := fun b cs T fr hb h1 h2 => k b cs T fr (h b cs T fr hb h1 h2) h1 h2
theorem Kt.bl {w w' : World} (h : Below w.heap.size w w') : Kt w w' := fun _ _ _ _ hb _ _ => heap_bl h hb

/-- One use more. -/
theorem LkC.put {w0 wr wa w2 : World} {S0 sb bx ib ub : Nat} {L : List Nd} {vl : Value} {us : List (List Int)} (h : LkC w0 wr S0 sb bx ib ub L vl us) {x t : Int} {l : List Int} {vs : List Value} {v v' : Value}
    (hvs : vs.length = L.length ∧ wr.heap[ub]? = some (.cells vs.toArray 24 (0, 0)) ∧ (∀ (i : Nat) (l : List Int) (v : Value), us[i]? = some l → vs[i]? = some v → wr.ownsRow S0 3 1 v l.length (l.map (Value.int .i64))) ∧
      (∀ (i j : Nat) (v u : Value), i ≠ j → vs[i]? = some v → vs[j]? = some u → v.ownBlock = none ∨ v.ownBlock ≠ u.ownBlock))
    (hl : us[x.toNat]? = some l) (hv : vs[x.toNat]? = some v) (hwa : Below wr.heap.size wr wa) (hg : wa.grownBy w2 v.ownBlock)
    (ho : w2.ownsRow S0 3 1 v' (l.length + 1) (l.map (Value.int .i64) ++ [.int .i64 t])) (hb : v'.ownBlock = v.ownBlock ∨ v'.ownBlock = some wa.heap.size) :
    LkC w0 (w2.setCell ⟨ub, x.toNat, none⟩ v') S0 sb bx ib ub L vl (useR us x t) ∧ (w2.cell? ⟨ub, x.toNat, none⟩ = some v ∧ w2.frozen? ⟨ub, x.toNat, none⟩ = false) ∧ w2.heap[bx]? = wr.heap[bx]? ∧ w2.heap[sb]? = wr.heap[sb]? ∧ Kt wr (w2.setCell ⟨ub, x.toNat, none⟩ v') ∧ Kp (fun b => b < S0) wr (w2.setCell ⟨ub, x.toNat, none⟩ v') := by
  obtain ⟨a1, a2, a3, a4⟩ := hvs
  obtain ⟨l1, l2, l3, l4, l5, l6, l7⟩ := h.lo
  have hown := a3 _ _ _ hl hv
  have hvb : ∀ b, v.ownBlock = some b → S0 ≤ b ∧ b < wr.heap.size := fun b hb' => hown.lt b hb'
  have hnu : some ub ≠ v.ownBlock := own_ne hown a2 (by decide)
  have hni : some ib ≠ v.ownBlock := own_ne hown h.inn (by decide)
  have hiu : ib ≠ ub := fun e => by
    have h1 := h.inn
    rw [e, a2] at h1
    simp only [Option.some.injEq, Obj.cells.injEq] at h1
    exact absurd h1.2.1 (by decide)
  have hk : ∀ b, b < wr.heap.size → some b ≠ v.ownBlock → w2.heap[b]? = wr.heap[b]? := fun b hb' hn => by
    rw [hg.block b (Nat.lt_of_lt_of_le hb' hwa.size) hn, hwa.block b hb']
  have hk2 : ∀ b, b < wr.heap.size → some b ≠ v.ownBlock → b ≠ ub → (w2.setCell ⟨ub, x.toNat, none⟩ v').heap[b]? = wr.heap[b]? := fun b hb' hn hu => by
    rw [Below.heap_setCell _ _ _ _ hu]; exact hk b hb' hn
  have hS : ∀ b, b < S0 → some b ≠ v.ownBlock := fun b hb' e => by have := (hvb b e.symm).1; omega
  have hsz : (w2.setCell ⟨ub, x.toNat, none⟩ v').heap.size = w2.heap.size := by simp [World.setCell]
  have hub2 := hk ub (heap_lt a2) hnu
  rw [a2] at hub2
  have hxl : x.toNat < vs.length := getElem?_lt hv
  refine ⟨⟨?_, ?_, ?_, ?_, ?_, ⟨?_, vs.set x.toNat v', ?_, ?_, ?_, ?_⟩, h.lo⟩, ⟨?_, ?_⟩, hk bx (heap_lt h.box) (hS bx l6), hk sb (heap_lt h.at_) (hS sb l5), fun b cs T fr hb' h1 h2 => ?_, hg.os.trans hwa.os, hg.tape.trans hwa.tape, hg.output.trans hwa.output, by rw [hsz]; exact Nat.le_trans hwa.size hg.size, fun b hb' hk' => hk2 b hb' (hS b hk') (by omega)⟩
  · refine ⟨hg.os.trans (hwa.os.trans h.below.os), hg.tape.trans (hwa.tape.trans h.below.tape), hg.output.trans (hwa.output.trans h.below.output), by rw [hsz]; exact Nat.le_trans h.below.size (Nat.le_trans hwa.size hg.size), fun b hb' => ?_⟩
    rw [hk2 b (Nat.lt_of_lt_of_le hb' h.below.size) (hS b (by omega)) (by omega)]
    exact h.below.block b hb'
  · rw [hk2 sb (heap_lt h.at_) (hS sb l5) (by omega)]; exact h.at_
  · rw [hk2 bx (heap_lt h.box) (hS bx l6) (by omega)]; exact h.box
  · rw [hk2 ib (heap_lt h.inn) hni hiu]; exact h.inn
  · refine h.l.step (K' := fun b => b < S0 ∧ b ≠ sb) ⟨hg.os.trans hwa.os, hg.tape.trans hwa.tape, hg.output.trans hwa.output, by rw [hsz]; exact Nat.le_trans hwa.size hg.size, fun b hb' hk' => hk2 b hb' (hS b hk'.1) (by omega)⟩ (fun _ _ h => h)
  · rw [useR_get hl, List.length_set]; exact h.us.len
  · rw [List.length_set]; exact a1
  · rw [Lib.heap_setCell_same hub2]; simp
  · intro i l' u hl' hu
    rw [useR_get hl, List.getElem?_set] at hl'
    rw [List.getElem?_set] at hu
    by_cases e : x.toNat = i
    · subst e
      rw [if_pos rfl, if_pos (getElem?_lt hl)] at hl'
      rw [if_pos rfl, if_pos hxl] at hu
      cases hl'; cases hu
      refine ownsRow_setCell_other ?_ (fun e => ?_) _
      · rw [List.length_append, List.length_singleton, List.map_append]; exact ho
      · rcases hb with e' | e'
        · rw [e'] at e; exact hnu e.symm
        · rw [e'] at e; have h1 := Option.some.inj e; have h2 := heap_lt a2; have h3 := hwa.size; simp only at h1; omega
    · rw [if_neg e] at hl' hu
      have ho' := a3 i l' u hl' hu
      refine own_block ho' fun k hk' => ?_
      have hlt := (ho'.lt k hk').2
      refine hk2 k hlt (fun e' => ?_) (fun e' => ?_)
      · rcases a4 _ _ _ _ e hv hu with h1 | h1
        · rw [h1] at e'; cases e'
        · exact h1 (e'.symm.trans hk'.symm)
      · exact own_ne ho' a2 (by decide) (by rw [hk', e'])
  · intro i j u z hij hu hz
    rw [List.getElem?_set] at hu hz
    have hfar : ∀ k y, x.toNat ≠ k → vs[k]? = some y → v'.ownBlock = none ∨ v'.ownBlock ≠ y.ownBlock := fun k y hk' hy => by
      rcases hb with e | e
      · rw [e]; exact a4 _ _ _ _ hk' hv hy
      · refine .inr fun e2 => ?_
        rw [e] at e2
        obtain ⟨l', hl'⟩ : ∃ l', us[k]? = some l' := ⟨_, List.getElem?_eq_getElem (by rw [h.us.len, ← a1]; exact getElem?_lt hy)⟩
        have := ((a3 k l' y hl' hy).lt _ e2.symm).2
        have := hwa.size
        omega
    by_cases e1 : x.toNat = i
    · subst e1
      rw [if_pos rfl, if_pos hxl] at hu
      rw [if_neg hij] at hz
      cases hu
      exact hfar j z hij hz
    · rw [if_neg e1] at hu
      by_cases e2 : x.toNat = j
      · subst e2
        rw [if_pos rfl, if_pos hxl] at hz
        cases hz
        rcases hfar i u e1 hu with h1 | h1
        · by_cases hn : u.ownBlock = none
          · exact .inl hn
          · refine .inr fun e => hn (e.trans h1)
        · exact .inr (fun e => h1 e.symm)
      · rw [if_neg e2] at hz
        exact a4 _ _ _ _ hij hu hz
  · rw [cell_of_row _ _ _ _ _ _ hub2, List.getElem?_toArray]; exact hv
  · unfold World.frozen?; rw [hub2]; simp
  · rw [hk2 b (heap_lt hb') (own_ne hown hb' h1) (fun e => by rw [e, a2] at hb'; simp only [Option.some.injEq, Obj.cells.injEq] at hb'; exact h2 hb'.2.1.symm)]
    exact hb'

/-- 'look$1': one use more. -/
theorem dLook1_any (w0 : World) (S0 sb bx ib ub : Nat) (L : List Nd) (vl : Value) (us : List (List Int)) (x t : Int) (w : World) (h : LkC w0 w S0 sb bx ib ub L vl us) (hx : 0 ≤ x ∧ x < L.length) (hB : ∀ l ∈ us, l.length ≤ 10000000) :
    Calls Tryz.prog 73 #[.int .i64 x, .int .i64 t, .pointer (some ⟨bx, 0, none⟩)] w fun e w' => e = .returned (.tuple #[]) ∧ LkC w0 w' S0 sb bx ib ub L vl (useR us x t) ∧ Kt w w' ∧ Kp (fun b => b < S0) w w' := by
  obtain ⟨vs, hvs⟩ := h.us.ex
  have hlen := h.us.len
  obtain ⟨l, hl⟩ : ∃ l, us[x.toNat]? = some l := ⟨_, List.getElem?_eq_getElem (by rw [hlen]; omega)⟩
  obtain ⟨v, hv⟩ : ∃ v, vs[x.toNat]? = some v := ⟨_, List.getElem?_eq_getElem (by rw [hvs.1]; omega)⟩
  have hown := hvs.2.2.1 _ _ _ hl hv
  obtain ⟨va, vc, rfl⟩ := own_sl hown
  have hbl := hB l (List.mem_of_getElem? hl)
  have c0 : w.cell? ⟨bx, 0, none⟩ = some (.pointer (some ⟨sb, 0, none⟩)) := by rw [cell_of_row _ _ _ _ _ _ h.box]; rfl
  obtain ⟨⟨_, _, c2, _⟩, _⟩ := row4_at h.at_
  have c3 : w.cell? ⟨ub, x.toNat, none⟩ = some (.slice va l.length vc) := by rw [cell_of_row _ _ _ _ _ _ hvs.2.1, List.getElem?_toArray]; exact hv
  have d3 := cell_al (.cells #[.int .i64 t] 3) c3
  have d0 := cell_al (.cells #[.int .i64 t] 3) c0
  have d2 := cell_al (.cells #[.int .i64 t] 3) c2
  have hba : Below w.heap.size w ((w.alloc (.cells #[.int .i64 t] 3)).drew) := ((Below.refl _ _).alloc (Nat.le_refl _) _).drew
  have HO := Lib.hid ((hown.alloc (.cells #[.int .i64 t] 3)).drew)
  have HN := Lib.hid (heap_new w (.cells #[.int .i64 t] 3))
  have HP := Lib.hid (fun w2 v' => h.put (w2 := w2) (v' := v') (t := t) hvs hl hv hba)
  have HS0 := Lib.hid (Nat.le_trans h.lo.2.2.1 (Nat.le_of_lt (heap_lt h.inn)))
  have HX := Lib.hid h.box
  have HA := Lib.hid h.at_
  have z1 : bx ≠ ub := by have := h.lo; omega
  have z2 : sb ≠ ub := by have := h.lo; omega
  obtain ⟨hx0, hx1⟩ := hx
  clear h hvs hlen hl hv hown hB hba
  go_enter Tryz.func73, Tryz.ntmps73
  go_wp2_with fail
  go_region_law
    (first | (refine step_append_sl (by rfl) _ _ 24 (by rfl) el_ints5 S0 (.slice va l.length vc) l.length _ (by rfl) HO.out (K := fun _ => True) (.slice (some ⟨w.heap.size, 0, none⟩) 1 1) 1 [.int .i64 t] (by rfl) (SlR.block (cs := #[.int .i64 t]) HN.out 1 1 rfl (by decide)) (by simp [Value.oneCell']) (by omega) (by unfold maxLen; omega) (by have := HS0.out; simp; omega) ?_; intro v6 w6 ho6 hg6 _ hb6; obtain ⟨p1, ⟨p2, p3⟩, p4, p5, p6⟩ := HP.out w6 v6 hg6 ho6 hb6; have b0 : w6.cell? ⟨bx, 0, none⟩ = some (.pointer (some ⟨sb, 0, none⟩)) := (by rw [cell_of_row _ _ _ _ _ _ (p4.trans HX.out)]; rfl); have b2 := (row4_at (p5.trans HA.out)).1.2.2.1; obtain ⟨v6a, v6c, hv6⟩ := own_sl ho6; subst hv6; have n0 : (w6.setCell ⟨ub, x.toNat, none⟩ (.slice v6a (l.length + 1) v6c)).cell? ⟨bx, 0, none⟩ = some (.pointer (some ⟨sb, 0, none⟩)) := (by rw [cell_of_row _ _ _ _ _ _ p1.box]; rfl); have n2 := (row4_at p1.at_).1.2.2.1; have HP1 := Lib.hid p1; have HP6 := Lib.hid p6; clear p1 p4 p5 p6 ho6 hg6 hb6))
  all_goals
    go_wp2_with fail
    go_end0
    exact ⟨rfl, HP1.out, HP6.out⟩
end Go.Proofs.YtnkndplbcbehkaaGreatDoor

/-! Layer 5 (deduce): 'look': its first parts, in memory. -/
namespace Go.Proofs.YtnkndplbcbehkaaGreatDoor
open Go.RowKit Go.Cas
set_option maxHeartbeats 8000000
set_option maxRecDepth 20000

/-- What stands while the nodes are gathered. -/
structure LkA (w0 wr : World) (sb bx k : Nat) (L : List Nd) (vl : Value) (xs : List Value) (F : Nat → Prop) : Prop where
  below : Below w0.heap.size w0 wr
  at_ : wr.heap[sb]? = some (.cells #[vl, .slice none 0 0, .slice none 0 0, .slice none 0 0] 79 (0, 0))
  box : wr.heap[bx]? = some (.cells #[.pointer (some ⟨sb, 0, none⟩)] 72 (0, 0))
  own : wr.ownsRow w0.heap.size 54 4 vl k xs
  reps : Reps (fun b => ¬ F b) wr xs (L.take k)
  fs : F sb
  fo : ∀ b, vl.ownBlock = some b → F b
  lt : ∀ b, F b → b < wr.heap.size
  lo : w0.heap.size ≤ sb ∧ w0.heap.size ≤ bx

theorem LkA.bl {w0 wr w' : World} {sb bx k : Nat} {L : List Nd} {vl : Value} {xs : List Value} {F : Nat → Prop} (h : LkA w0 wr sb bx k L vl xs F) (hb : Below wr.heap.size wr w') : LkA w0 w' sb bx k L vl xs F :=
  ⟨h.below.trans (hb.mono h.below.size), heap_bl hb h.at_, heap_bl hb h.box, own_below h.own hb, h.reps.step (Kp.of_all hb) (fun _ _ h => h), h.fs, h.fo, fun b hf => Nat.lt_of_lt_of_le (h.lt b hf) hb.size, h.lo⟩

/-- One node more. -/
theorem LkA.step {w0 wr wa w2 : World} {sb bx k : Nat} {L : List Nd} {vl : Value} {xs : List Value} {F : Nat → Prop} (h : LkA w0 wr sb bx k L vl xs F) {nd : Nd} (hn : L[k]? = some nd) (hwa : Below wr.heap.size wr wa) {nv : Value}
    (hv : SlRep (fun b => ¬ F b) wr nv nd.l) {v' : Value} (hg : wa.grownBy w2 vl.ownBlock)
    (ho : w2.ownsRow w0.heap.size 54 4 v' (k + 1) (xs ++ [.int .i64 nd.op, .int .i64 nd.n, .string nd.s, nv])) (hb : v'.ownBlock = vl.ownBlock ∨ v'.ownBlock = some wa.heap.size) :
    (∃ F', LkA w0 (w2.setCell ⟨sb, 0, none⟩ v') sb bx (k + 1) L v' (xs ++ [.int .i64 nd.op, .int .i64 nd.n, .string nd.s, nv]) F') ∧ w2.cell? ⟨sb, 0, none⟩ = some vl ∧ w2.frozen? ⟨sb, 0, none⟩ = false ∧ w2.heap[bx]? = wr.heap[bx]? := by
  obtain ⟨l1, l2⟩ := h.lo
  have hsn : some sb ≠ vl.ownBlock := own_ne h.own h.at_ (by decide)
  have hbn : some bx ≠ vl.ownBlock := own_ne h.own h.box (by decide)
  have hsx : bx ≠ sb := fun e => by
    have h1 := h.box
    rw [e, h.at_] at h1
    simp only [Option.some.injEq, Obj.cells.injEq] at h1
    exact absurd h1.2.1 (by decide)
  have hk : ∀ b, b < wr.heap.size → some b ≠ vl.ownBlock → w2.heap[b]? = wr.heap[b]? := fun b hb' hn => by
    rw [hg.block b (Nat.lt_of_lt_of_le hb' hwa.size) hn, hwa.block b hb']
  have hsz : (w2.setCell ⟨sb, 0, none⟩ v').heap.size = w2.heap.size := by simp [World.setCell]
  have hs2 := hk sb (heap_lt h.at_) hsn
  rw [h.at_] at hs2
  have hvs : v'.ownBlock ≠ some sb := by
    rcases hb with e | e
    · rw [e]; exact fun h' => hsn h'.symm
    · rw [e]; intro h'; have := heap_lt h.at_; have := hwa.size; simp only [Option.some.injEq] at h'; omega
  have hkp : Kp (fun b => ¬ F b) wr (w2.setCell ⟨sb, 0, none⟩ v') := by
    refine Kp.setCell (w' := w2) ⟨hg.os.trans hwa.os, hg.tape.trans hwa.tape, hg.output.trans hwa.output, Nat.le_trans hwa.size hg.size, fun b hb' hf => hk b hb' (fun e => hf (h.fo b e.symm))⟩ (fun _ hf => hf h.fs) _
  have hstep : ∀ b, b < wr.heap.size → ¬ F b → ¬ (F b ∨ v'.ownBlock = some b) := fun b hb' hf h' => by
    rcases h' with h' | h'
    · exact hf h'
    · rcases hb with e | e
      · exact hf (h.fo b (e ▸ h'))
      · rw [e] at h'; have := hwa.size; simp only [Option.some.injEq] at h'; omega
  refine ⟨⟨fun b => F b ∨ v'.ownBlock = some b, ⟨?_, ?_, ?_, ?_, ?_, .inl h.fs, fun b hb' => .inr hb', fun b hb' => ?_, h.lo⟩⟩, ?_, ?_, hk bx (heap_lt h.box) hbn⟩
  · refine ⟨hkp.os.trans h.below.os, hkp.tape.trans h.below.tape, hkp.output.trans h.below.output, Nat.le_trans h.below.size hkp.size, fun b hb' => ?_⟩
    rw [Below.heap_setCell _ _ _ _ (by show b ≠ sb; omega), hk b (Nat.lt_of_lt_of_le hb' h.below.size) (fun e => by have := (h.own.lt b e.symm).1; omega)]
    exact h.below.block b hb'
  · have := Lib.heap_setCell_same (i := 0) hs2 v'
    rw [this]; rfl
  · rw [Below.heap_setCell _ _ _ _ hsx, hk bx (heap_lt h.box) hbn]; exact h.box
  · exact ownsRow_setCell_other ho hvs _
  · have e : L.take (k + 1) = L.take k ++ [nd] := by rw [List.take_add_one, hn]; rfl
    rw [e]
    exact Reps.append (Reps.single (⟨nv, rfl, hv.step hkp hstep⟩ : Rp.rep _ _ _ nd)) (h.reps.step hkp hstep)
  · rw [hsz]
    rcases hb' with hb' | hb'
    · exact Nat.lt_of_lt_of_le (h.lt b hb') (Nat.le_trans hwa.size hg.size)
    · exact (ho.lt b hb').2
  · exact (row4_at hs2).1.1
  · exact (row4_at hs2).2 0

/-- The tables are laid. -/
theorem LkA.fin {w0 wr : World} {sb bx : Nat} {L : List Nd} {vl : Value} {xs : List Value} {F : Nat → Prop} (h : LkA w0 wr sb bx L.length L vl xs F) {mb mu : Array Value} (hmb : mb = boolCs (List.replicate L.length false)) (hmu : mu = (List.replicate L.length (Value.slice none 0 0)).toArray)
    {w1 w2 : World} (h1 : w1 = ((wr.alloc (.cells mb 4)).setCell ⟨sb, 1, none⟩ (.slice (some ⟨wr.heap.size, 0, none⟩) L.length L.length)).drew)
    (h2 : w2 = ((w1.alloc (.cells mu 24)).setCell ⟨sb, 2, none⟩ (.slice (some ⟨wr.heap.size + 1, 0, none⟩) L.length L.length)).drew) :
    LkC w0 w2 wr.heap.size sb bx wr.heap.size (wr.heap.size + 1) L vl (List.replicate L.length []) := by
  obtain ⟨l1, l2⟩ := h.lo
  have hs := heap_lt h.at_
  have hx := heap_lt h.box
  have hsx : bx ≠ sb := fun e => by
    have h1 := h.box
    rw [e, h.at_] at h1
    simp only [Option.some.injEq, Obj.cells.injEq] at h1
    exact absurd h1.2.1 (by decide)
  have b1 : Below wr.heap.size wr (wr.alloc (.cells mb 4)) := (Below.refl _ _).alloc (Nat.le_refl _) _
  have z1 : w1.heap.size = wr.heap.size + 1 := by rw [h1]; show (World.setCell _ _ _).heap.size = _; simp [World.setCell]
  have z2 : w2.heap.size = wr.heap.size + 2 := by rw [h2]; show (World.setCell _ _ _).heap.size = _; simp [World.setCell, z1]
  have k1 : ∀ b, b < wr.heap.size → b ≠ sb → w1.heap[b]? = wr.heap[b]? := fun b hb hn => by
    rw [h1]
    show (World.setCell _ _ _).heap[b]? = _
    rw [Below.heap_setCell _ _ _ _ hn]; exact b1.block b hb
  have k2 : ∀ b, b < wr.heap.size + 1 → b ≠ sb → w2.heap[b]? = w1.heap[b]? := fun b hb hn => by
    rw [h2]
    show (World.setCell _ _ _).heap[b]? = _
    rw [Below.heap_setCell _ _ _ _ hn]
    exact Below.heap_alloc _ _ _ (by rw [z1]; exact hb)
  have s1 : w1.heap[sb]? = some (.cells #[vl, .slice (some ⟨wr.heap.size, 0, none⟩) L.length L.length, .slice none 0 0, .slice none 0 0] 79 (0, 0)) := by
    rw [h1]
    show (World.setCell _ _ _).heap[sb]? = _
    rw [Lib.heap_setCell_same (i := 1) (heap_bl b1 h.at_)]; rfl
  have s2 : w2.heap[sb]? = some (.cells #[vl, .slice (some ⟨wr.heap.size, 0, none⟩) L.length L.length, .slice (some ⟨wr.heap.size + 1, 0, none⟩) L.length L.length, .slice none 0 0] 79 (0, 0)) := by
    rw [h2]
    show (World.setCell _ _ _).heap[sb]? = _
    rw [Lib.heap_setCell_same (i := 2) (heap_al _ s1)]; rfl
  have kp : Kp (fun b => b ≠ sb) wr w2 := by
    refine ⟨?_, ?_, ?_, by omega, fun b hb hn => (k2 b (by omega) hn).trans (k1 b hb hn)⟩
    · rw [h2, h1]; rfl
    · rw [h2, h1]; rfl
    · rw [h2, h1]; rfl
  refine ⟨?_, s2, ?_, ?_, ?_, ⟨by simp, List.replicate L.length (.slice none 0 0), by simp, ?_, fun i l v hl hv => ?_, fun i j v u _ hv _ => ?_⟩, by omega⟩
  · exact ⟨kp.os.trans h.below.os, kp.tape.trans h.below.tape, kp.output.trans h.below.output, Nat.le_trans h.below.size kp.size, fun b hb => (kp.block b (Nat.lt_of_lt_of_le hb h.below.size) (by omega)).trans (h.below.block b hb)⟩
  · exact kp.heap (K := fun b => b ≠ sb) hsx h.box
  · rw [k2 _ (by omega) (by omega), ← hmb, h1]
    show (World.setCell _ _ _).heap[wr.heap.size]? = _
    rw [Below.heap_setCell _ _ _ _ (by show wr.heap.size ≠ sb; omega)]
    exact heap_new _ _
  · have hr : SlRep (fun b => b ≠ sb) wr vl L := by
      refine ⟨xs, SlR.of_own h.own (fun b hb e => own_ne h.own h.at_ (by decide) (by rw [hb, e])), ?_⟩
      have := h.reps.step (Kp.refl _ wr) (K' := fun b => b ≠ sb) (fun b _ hf e => hf (e ▸ h.fs))
      rwa [List.take_length] at this
    exact hr.step kp (fun b hb hn => ⟨hb, hn⟩)
  · rw [← hmu, h2]
    show (World.setCell _ _ _).heap[wr.heap.size + 1]? = _
    rw [Below.heap_setCell _ _ _ _ (by show wr.heap.size + 1 ≠ sb; omega)]
    have := heap_new w1 (.cells mu 24)
    rwa [z1] at this
  · obtain rfl := List.eq_of_mem_replicate (List.mem_of_getElem? hl)
    obtain rfl := List.eq_of_mem_replicate (List.mem_of_getElem? hv)
    exact World.ownsRow_nil _ _ _ _
  · obtain rfl := List.eq_of_mem_replicate (List.mem_of_getElem? hv)
    exact .inl rfl
end Go.Proofs.YtnkndplbcbehkaaGreatDoor
