/-
  secrets: take, whole.
-/
import Derived.Test.YtnkndplbcbehkaaGreatDoorSecF
set_option linter.unusedVariables false
set_option linter.unusedSimpArgs false
namespace Go.Proofs.YtnkndplbcbehkaaGreatDoor
open Go.RowKit Go.Cas
set_option maxHeartbeats 400000
set_option maxRecDepth 20000

/-- Nothing is changed but the result. -/
theorem tk_fin {w : World} {F : Nat → Prop} {d p g o : Nat} {cur : Array Value} {k0 : Value} {gen : Int} {F' : Nat → Prop} {wr W : World} {L : List Nd} {e : Int} {c : Ch} {k : Value} {cur' : Array Value}
    (h : Tk w F d p g o cur k0 gen F' wr L e c k cur') (hk : Kp (fun b => ¬ (b = w.heap.size + 1)) wr W) :
    ∃ F' k' cur', IsD d p F' W L e ∧ Dg (fun b => b = d ∨ b = g ∨ k0.ownBlock = some b) p F w F' W ∧ W.heap[g]? = some (.cells cur' 71 (0, 0)) ∧ Row3 cur cur' o c.gen c.secret k' ∧ SlRep (fun b => ¬ ArB W p b ∧ (k0.ownBlock = some b ∨ w.heap.size ≤ b)) W k' c.kept := by
  refine tl_fin (k := k) (cur' := cur') ⟨h.isd, h.dg, h.row, h.row3, ?_, h.res, h.resF, h.gd, h.fg⟩ hk
  rcases h.kept.2 with ⟨h1, h2⟩ | ⟨kb, cap, cu, h1, _, h3, h4, h5, h6, h7⟩
  · exact .inl ⟨h1, List.length_eq_zero_iff.1 h2⟩
  · have hkn : kb ≠ w.heap.size + 1 := fun e => h.kn (by rw [h1, e]; rfl)
    refine .inr ⟨kb, 0, cap, cu, h1, h4, Nat.le_trans h4 h5, h3, ⟨hkn, (h.kf kb (by rw [h1]; rfl)).2⟩, fun j u hj => ?_⟩
    rw [← h7, List.getElem?_take] at hj
    split at hj
    · rw [Nat.zero_add, ← Array.getElem?_toList]; exact hj
    · cases hj

theorem tk_below {w : World} {F : Nat → Prop} {d p g o : Nat} {cur : Array Value} {k0 : Value} {gen : Int} {F' : Nat → Prop} {wr W : World} {L : List Nd} {e : Int} {c : Ch} {k : Value} {cur' : Array Value}
    (h : Tk w F d p g o cur k0 gen F' wr L e c k cur') (hb : Below wr.heap.size wr W) : Tk w F d p g o cur k0 gen F' W L e c k cur' := by
  obtain ⟨q1, q2⟩ := h.isd.below hb
  exact ⟨q1, h.dg.trans (q2.mono (fun _ h => h.elim)), heap_bl hb h.row, h.row3, own_below h.kept hb, h.kf, heap_bl hb h.box, heap_bl hb h.res, h.resF, h.kn, h.gd, h.fg⟩

theorem tk_res {w : World} {F : Nat → Prop} {d p g o : Nat} {cur : Array Value} {k0 : Value} {gen : Int} {F' : Nat → Prop} {wr : World} {L : List Nd} {e : Int} {c : Ch} {k : Value} {cur' : Array Value}
    (h : Tk w F d p g o cur k0 gen F' wr L e c k cur') : wr.cell? ⟨w.heap.size + 1, 0, none⟩ = some (.int .i64 0) ∧ wr.cell? ⟨w.heap.size + 1, 1, none⟩ = some (.int .i64 0) ∧ wr.cell? ⟨w.heap.size + 1, 2, none⟩ = some (.int .i64 0) ∧
      wr.frozen? ⟨w.heap.size + 1, 0, none⟩ = false ∧ wr.frozen? ⟨w.heap.size + 1, 1, none⟩ = false ∧ wr.frozen? ⟨w.heap.size + 1, 2, none⟩ = false := by
  refine ⟨?_, ?_, ?_, frozen_of_row _ _ _ _ _ h.res, frozen_of_row _ _ _ _ _ h.res, frozen_of_row _ _ _ _ _ h.res⟩
  all_goals (rw [cell_of_row _ _ _ _ _ _ h.res]; rfl)

set_option maxHeartbeats 1000000 in
theorem take_long (d p : Nat) (F : Nat → Prop) (L : List Nd) (e : Int) (w : World) (g o : Nat) (cur : Array Value) (k : Value) (c : Ch) (gen : Int) (hd : IsD d p F w L e) (hg : w.heap[g]? = some (.cells cur 71 (0, 0))) (hF : F g)
    (h2 : cur[o + 2]? = some (.int .i64 c.gen)) (h3 : cur[o + 3]? = some (.int .i64 c.secret)) (h4 : cur[o + 4]? = some k) (hk : w.ownsRow 0 39 3 k c.kept.length (c.kept.flatMap GK.cs)) (hkf : ∀ b, k.ownBlock = some b → F b)
    (b0 : 0 ≤ c.gen) (b1 : c.gen ≤ gen) (b2 : 8 < gen - c.gen) (b3 : c.gen ≤ 100000) (b5 : gen ≤ 9223372036854775807) :
    Calls Tryz.prog 21 #[.pointer (some ⟨d, 0, none⟩), .pointer (some ⟨g, o, none⟩), .int .i64 gen] w (TakePost w F d p g o cur k (takeR L e c gen)) := by
  have HT := Lib.hid (tk_entry (gen := gen) hd hg hF h2 h3 h4 hk hkf)
  have hc1 := tk_cells HT.out
  have hz := HT.out.res
  generalize hw0 : (w.alloc (.cells #[.int .i64 gen] 3)).alloc (.cells #[.int .i64 0, .int .i64 0, .int .i64 0] 39) = w0 at HT hc1 hz
  obtain ⟨c2, c3, c4, cb, _⟩ := hc1
  have hres : takeR L e c gen = (⟨0, 0, 0⟩, 2, c, L, e) := by unfold takeR; rw [if_neg (by omega), if_pos b2]
  rw [hres]
  have hlt : decide (gen < c.gen) = false := by simpa using b1
  have hw1 : IntKind.i64.wrap (gen - c.gen) = gen - c.gen := by rw [IntKind.wrap_i64]; omega
  have h8 : decide (gen - c.gen > 8) = true := by simpa using b2
  have l0 := cell_of_row _ _ 0 _ _ _ hz
  have l1 := cell_of_row _ _ 1 _ _ _ hz
  have l2 := cell_of_row _ _ 2 _ _ _ hz
  have m0 := frozen_of_row _ _ 0 _ _ hz
  have m1 := frozen_of_row _ _ 1 _ _ hz
  have m2 := frozen_of_row _ _ 2 _ _ hz
  simp only [List.getElem?_toArray, List.getElem?_cons_succ, List.getElem?_cons_zero] at l0 l1 l2
  have HZ := Lib.hid hz
  clear hd hg h2 h3 h4 hk hkf hres hz b1 b2 b0 b5
  go_enter Tryz.func21, Tryz.ntmps21
  go_wp2_with fail
  go_quiet (fail)
  go_wp2_with fail
  go_quiet (fail)
  go_wp2_with fail
  have hz3 := fun n => Lib.heap_setCell_same (i := 2) (Lib.heap_setCell_same (i := 1) (Lib.heap_setCell_same (w := w0.drewN n) (i := 0) HZ.out (.int .i64 0)) (.int .i64 0)) (.int .i64 0)
  have n0 := fun n => cell_of_row _ _ 0 _ _ _ (hz3 n)
  have n1 := fun n => cell_of_row _ _ 1 _ _ _ (hz3 n)
  have n2 := fun n => cell_of_row _ _ 2 _ _ _ (hz3 n)
  simp only [List.setIfInBounds_toArray, List.set_cons_zero, List.set_cons_succ, List.getElem?_toArray, List.getElem?_cons_succ, List.getElem?_cons_zero] at n0 n1 n2
  refine bodyPost_ret (v := .tuple #[.agg #[.int .i64 0, .int .i64 0, .int .i64 0], .int .i64 2]) (by simp [results, Tryz.results21, go_sem, n0, n1, n2]) rfl ?_
  exact ⟨rfl, tk_fin HT.out (((((Kp.refl _ _).drewN _).setCell (fun _ h => h rfl) _).setCell (fun _ h => h rfl) _).setCell (fun _ h => h rfl) _)⟩

theorem gks_take (l : List GK) (m : Nat) : (l.take m).flatMap GK.cs = (l.flatMap GK.cs).take (m * 3) := by
  induction l generalizing m with
  | nil => simp
  | cons x l ih =>
    cases m with
    | zero => simp
    | succ m =>
      rw [List.take_succ_cons, List.flatMap_cons, ih, show (m + 1) * 3 = m * 3 + 1 + 1 + 1 by omega]
      rfl

theorem own_form {w : World} {v : Value} {b n sz kb : Nat} {e : TypeId} {xs : List Value} (h : w.ownsRow b e sz v n xs) (hv : v.ownBlock = some kb) : ∃ c, v = .slice (some ⟨kb, 0, none⟩) n c := by
  rcases h.2 with ⟨rfl, _⟩ | ⟨g', cap, cu, rfl, _⟩
  · cases hv
  · simp only [Value.ownBlock, Option.some.injEq] at hv
    subst hv; exact ⟨_, rfl⟩

/-- One kept key is struck. -/
theorem tk_del {w : World} {F : Nat → Prop} {d p g o : Nat} {cur : Array Value} {k0 : Value} {gen : Int} {F' : Nat → Prop} {w1 w2 : World} {L : List Nd} {e : Int} {c : Ch} {k : Value} {cur' : Array Value}
    (h : Tk w F d p g o cur k0 gen F' w1 L e c k cur') {v2 : Value} {i : Nat} (hi : i < c.kept.length) (hg : w1.grownBy w2 k.ownBlock) (ho2 : w2.ownsRow 0 39 3 v2 (c.kept.length - 1) ((c.kept.flatMap GK.cs).take (i * 3) ++ (c.kept.flatMap GK.cs).drop ((i + 1) * 3)))
    (hat : v2.ownBlock = k.ownBlock) :
    ∃ F'', Tk w F d p g o cur k0 gen F'' (w2.setCell ⟨g, o + 4, none⟩ v2) L e ⟨c.leaf, c.kind, c.gen, c.secret, c.kept.take i ++ c.kept.drop (i + 1)⟩ v2 (cur'.setIfInBounds (o + 4) v2) := by
  refine tk_store h (l := c.kept.take i ++ c.kept.drop (i + 1)) ?_ ?_ (.inl hat)
  · exact Kp.of_grown (K := fun b => k.ownBlock ≠ some b) hg fun _ _ h e => h e.symm
  · rw [List.flatMap_append, gks_take, gks_drop, show (c.kept.take i ++ c.kept.drop (i + 1)).length = c.kept.length - 1 by simp; omega]; exact ho2

/-- What the search tells. -/
theorem findB_gen (l : List GK) (gen : Int) : (∃ i x, l.findIdx? (fun x => x.gen == gen) = some i ∧ l[i]? = some x ∧ findB (fun x => x.gen == gen) l = (i : Int)) ∨ (l.findIdx? (fun x => x.gen == gen) = none ∧ findB (fun x => x.gen == gen) l = -1) := by
  unfold findB
  cases h : l.findIdx? (fun x => x.gen == gen) with
  | none => exact .inr ⟨rfl, rfl⟩
  | some i =>
    obtain ⟨hi, _⟩ := List.findIdx?_eq_some_iff_getElem.1 h
    exact .inl ⟨i, l[i], rfl, List.getElem?_eq_getElem hi, rfl⟩

set_option maxHeartbeats 1000000 in
theorem take_old (d p : Nat) (F : Nat → Prop) (L : List Nd) (e : Int) (w : World) (g o : Nat) (cur : Array Value) (k : Value) (c : Ch) (gen : Int) (hd : IsD d p F w L e) (hg : w.heap[g]? = some (.cells cur 71 (0, 0))) (hF : F g)
    (h2 : cur[o + 2]? = some (.int .i64 c.gen)) (h3 : cur[o + 3]? = some (.int .i64 c.secret)) (h4 : cur[o + 4]? = some k) (hk : w.ownsRow 0 39 3 k c.kept.length (c.kept.flatMap GK.cs)) (hkf : ∀ b, k.ownBlock = some b → F b)
    (b1 : gen < c.gen) (b4 : c.kept.length ≤ 100) :
    Calls Tryz.prog 21 #[.pointer (some ⟨d, 0, none⟩), .pointer (some ⟨g, o, none⟩), .int .i64 gen] w (TakePost w F d p g o cur k (takeR L e c gen)) := by
  have HT := Lib.hid (tk_entry (gen := gen) hd hg hF h2 h3 h4 hk hkf)
  have hc1 := tk_cells HT.out
  have hz := HT.out.res
  have hB : Below w.heap.size w ((w.alloc (.cells #[.int .i64 gen] 3)).alloc (.cells #[.int .i64 0, .int .i64 0, .int .i64 0] 39)) := ((Below.refl _ _).alloc (Nat.le_refl _) _).alloc (by simp) _
  generalize hw0 : (w.alloc (.cells #[.int .i64 gen] 3)).alloc (.cells #[.int .i64 0, .int .i64 0, .int .i64 0] 39) = w0 at HT hc1 hz hB
  obtain ⟨c2, c3, c4, cb, _⟩ := hc1
  have hlt : decide (gen < c.gen) = true := by simpa using b1
  have l0 := cell_of_row _ _ 0 _ _ _ hz
  have l1 := cell_of_row _ _ 1 _ _ _ hz
  have l2 := cell_of_row _ _ 2 _ _ _ hz
  have m0 := frozen_of_row _ _ 0 _ _ hz
  have m1 := frozen_of_row _ _ 1 _ _ hz
  have m2 := frozen_of_row _ _ 2 _ _ hz
  simp only [List.getElem?_toArray, List.getElem?_cons_succ, List.getElem?_cons_zero] at l0 l1 l2
  have HZ := Lib.hid hz
  have hsl : ∀ n, SlRep (fun _ => True) (w0.drewN n) k c.kept := fun n => by
    have h := HT.out.kept
    refine ⟨c.kept.flatMap GK.cs, ⟨h.1, ?_, ?_⟩, Reps.gks.2 rfl⟩
    · unfold maxLen; omega
    · rcases h.2 with ⟨h1, h2⟩ | ⟨kb, cap, cu, h1, _, h3, h4, h5, h6, h7⟩
      · exact .inl ⟨h1, h2⟩
      · refine .inr ⟨kb, 0, cap, h1, h4, trivial, cu, _, _, h3, fun j u hj => ?_⟩
        rw [← h7, List.getElem?_take] at hj
        split at hj
        · rw [Nat.zero_add, ← Array.getElem?_toList]; exact hj
        · cases hj
  have HIX := Lib.hid (fun n => indexGk_any 46 #[.pointer (some ⟨w.heap.size, 0, none⟩)] (fun x => x.gen == gen) (fun _ => True) k c.kept (w0.drewN n) (hsl n) (fun x v w' hb => sTake1_any _ gen x w' (cell_bl hb cb)) Tryz.call46)
  clear hd hg h2 h3 h4 hk hkf hz hsl
  rcases findB_gen c.kept gen with ⟨i, x, q1, q2, q3⟩ | ⟨q1, q3⟩
  · have hin : i < c.kept.length := getElem?_lt q2
    have hres : takeR L e c gen = (x, 0, ⟨c.leaf, c.kind, c.gen, c.secret, c.kept.take i ++ c.kept.drop (i + 1)⟩, L, e) := by
      unfold takeR; rw [if_pos b1, q1]
      simp [List.getD_eq_getElem?_getD, q2]
    rw [hres]
    rw [q3] at HIX
    obtain ⟨kb, kc, kcu, rfl, k1, k2, k3, k4⟩ : ∃ kb kc kcu, k = .slice (some ⟨kb, 0, none⟩) c.kept.length kc ∧ c.kept.length ≤ kc ∧ kc ≤ maxLen ∧ w0.heap[kb]? = some (.cells kcu 39 (0, 0)) ∧ ∀ j u, (c.kept.flatMap GK.cs)[j]? = some u → kcu[j]? = some u := by
      rcases HT.out.kept.2 with ⟨_, h0⟩ | ⟨kb, cap, cu, h1, _, h3, h4, h5, _, h6⟩
      · omega
      · refine ⟨kb, cap, cu, h1, h4, h5, h3, fun j u hj => ?_⟩
        rw [← h6, List.getElem?_take] at hj
        split at hj
        · rw [← Array.getElem?_toList]; exact hj
        · cases hj
    have hx : ∀ j u, x.cs[j]? = some u → kcu[i * 3 + j]? = some u := fun j u hj => k4 _ u (by
      obtain ⟨cs, h1, h2⟩ := Reps.at (K := fun _ => True) (w := w0) (Reps.gks.2 rfl) q2
      obtain rfl : cs = x.cs := h1
      exact h2 j u hj)
    clear hres q1 q3 b1 k4
    go_enter Tryz.func21, Tryz.ntmps21
    go_wp2_with fail
    go_quiet (fail)
    go_wp2_with (go_at_call 45; refine (HIX.out _).mono ?_; rintro en w1 ⟨rfl, hb1⟩; have HT1 := Lib.hid (tk_below (tk_drewN _ HT.out) hb1); obtain ⟨r0, r1, r2, s0, s1, s2⟩ := tk_res HT1.out; obtain ⟨e2, e3, e4, eb, ef⟩ := tk_cells HT1.out; have hkb := heap_bl hb1 (b := kb) k3; have y0 := cell_of_row _ _ (i * 3) _ _ _ hkb; have y1 := cell_of_row _ _ (i * 3 + 1) _ _ _ hkb; have y2 := cell_of_row _ _ (i * 3 + 2) _ _ _ hkb; rw [show kcu[i * 3]? = _ from hx 0 _ rfl] at y0; rw [hx 1 _ rfl] at y1; rw [hx 2 _ rfl] at y2; have HT2 := Lib.hid (tk_below HT1.out ((Below.refl _ _).alloc (Nat.le_refl _) (.cells #[.int .i64 x.gen, .int .i64 x.key, .int .i64 x.nonce] 39))); have HX2 := Lib.hid (heap_new w1 (.cells #[.int .i64 x.gen, .int .i64 x.key, .int .i64 x.nonce] 39)); have J4 := (tk_cells HT2.out).2.2.1; clear hb1 hkb)
    generalize hw2 : w1.alloc (.cells #[.int .i64 x.gen, .int .i64 x.key, .int .i64 x.nonce] 39) = w2 at HT2 HX2 J4
    have hdl := deleteGenKey_any 0 (.slice (some ⟨kb, 0, none⟩) c.kept.length kc) c.kept.length (c.kept.flatMap GK.cs) i _ HT2.out.kept (gks_one _) hin (by omega)
    rw [show ((i + 1 : Nat) : Int) = (i : Int) + 1 from rfl] at hdl
    have HDL := Lib.hid hdl
    have hkne : kb ≠ w1.heap.size := by have h := (HT1.out.kept.lt kb rfl).2; omega
    obtain ⟨j2, j3, j4, jb, jf⟩ := tk_cells HT2.out
    clear hdl
    go_wp2_with (go_at_call 47; refine HDL.out.mono ?_; rintro en w3 ⟨v3, rfl, hg3, hs3, hv3, ho3⟩; have q0 := (hg3.cell_far ⟨g, o + 4, none⟩ (by have := heap_lt HT2.out.row; exact this) (own_ne HT2.out.kept HT2.out.row (by decide))).trans j4; have q1 := (hg3.frozen_far ⟨g, o + 4, none⟩ (by have := heap_lt HT2.out.row; exact this) (own_ne HT2.out.kept HT2.out.row (by decide))).trans jf; obtain ⟨F4, hk4⟩ := tk_del HT2.out hin hg3 ho3 hv3; obtain ⟨kc3, rfl⟩ : ∃ c3, v3 = .slice (some ⟨kb, 0, none⟩) (c.kept.length - 1) c3 := own_form ho3 hv3; have hy3 := heap_grown hg3 HX2.out (by simp [Value.ownBlock]; omega); have hgx : w1.heap.size ≠ g := (fun e => by have h1 := HX2.out; rw [e, HT2.out.row] at h1; cases h1); have hy4 := ((Kp.refl (fun b => b ≠ g) w3).setCell (p := ⟨g, o + 4, none⟩) (fun _ h => h rfl) (.slice (some ⟨kb, 0, none⟩) (c.kept.length - 1) kc3)).heap (K := fun b => b ≠ g) hgx hy3; have z0 := cell_of_row _ _ 0 _ _ _ hy4; have z1 := cell_of_row _ _ 1 _ _ _ hy4; have z2 := cell_of_row _ _ 2 _ _ _ hy4; simp only [List.getElem?_toArray, List.getElem?_cons_succ, List.getElem?_cons_zero] at z0 z1 z2; obtain ⟨t0, t1, t2, u0, u1, u2⟩ := tk_res hk4; have HK4 := Lib.hid hk4; clear hs3 hg3 hv3 ho3 hk4 hy3 hy4)
    have hz3 := Lib.heap_setCell_same (i := 2) (Lib.heap_setCell_same (i := 1) (Lib.heap_setCell_same (i := 0) HK4.out.res (.int .i64 x.gen)) (.int .i64 x.key)) (.int .i64 x.nonce)
    have n0 := cell_of_row _ _ 0 _ _ _ hz3
    have n1 := cell_of_row _ _ 1 _ _ _ hz3
    have n2 := cell_of_row _ _ 2 _ _ _ hz3
    simp only [List.setIfInBounds_toArray, List.set_cons_zero, List.set_cons_succ, List.getElem?_toArray, List.getElem?_cons_succ, List.getElem?_cons_zero] at n0 n1 n2
    refine bodyPost_ret (v := .tuple #[.agg #[.int .i64 x.gen, .int .i64 x.key, .int .i64 x.nonce], .int .i64 0]) (by simp [results, Tryz.results21, go_sem, n0, n1, n2]) rfl ?_
    exact ⟨rfl, tk_fin HK4.out ((((Kp.refl _ _).setCell (fun _ h => h rfl) _).setCell (fun _ h => h rfl) _).setCell (fun _ h => h rfl) _)⟩
  · have hres : takeR L e c gen = (⟨0, 0, 0⟩, 4, c, L, e) := by unfold takeR; rw [if_pos b1, q1]
    rw [hres]
    rw [q3] at HIX
    clear hres q1 q3 b1
    go_enter Tryz.func21, Tryz.ntmps21
    go_wp2_with fail
    go_quiet (fail)
    go_wp2_with (go_at_call 45; refine (HIX.out _).mono ?_; rintro en w1 ⟨rfl, hb1⟩; have HT1 := Lib.hid (tk_below (tk_drewN _ HT.out) hb1); obtain ⟨r0, r1, r2, s0, s1, s2⟩ := tk_res HT1.out; clear hb1)
    have hz3 := Lib.heap_setCell_same (i := 2) (Lib.heap_setCell_same (i := 1) (Lib.heap_setCell_same (i := 0) HT1.out.res (.int .i64 0)) (.int .i64 0)) (.int .i64 0)
    have n0 := cell_of_row _ _ 0 _ _ _ hz3
    have n1 := cell_of_row _ _ 1 _ _ _ hz3
    have n2 := cell_of_row _ _ 2 _ _ _ hz3
    simp only [List.setIfInBounds_toArray, List.set_cons_zero, List.set_cons_succ, List.getElem?_toArray, List.getElem?_cons_succ, List.getElem?_cons_zero] at n0 n1 n2
    refine bodyPost_ret (v := .tuple #[.agg #[.int .i64 0, .int .i64 0, .int .i64 0], .int .i64 4]) (by simp [results, Tryz.results21, go_sem, n0, n1, n2]) rfl ?_
    exact ⟨rfl, tk_fin HT1.out ((((Kp.refl _ _).setCell (fun _ h => h rfl) _).setCell (fun _ h => h rfl) _).setCell (fun _ h => h rfl) _)⟩

/-- 'take'. -/
theorem sTake_any (d p : Nat) (F : Nat → Prop) (L : List Nd) (e : Int) (w : World) (g o : Nat) (cur : Array Value) (k : Value) (c : Ch) (gen : Int) (hd : IsD d p F w L e) (hg : w.heap[g]? = some (.cells cur 71 (0, 0))) (hF : F g)
    (h2 : cur[o + 2]? = some (.int .i64 c.gen)) (h3 : cur[o + 3]? = some (.int .i64 c.secret)) (h4 : cur[o + 4]? = some k) (hk : w.ownsRow 0 39 3 k c.kept.length (c.kept.flatMap GK.cs)) (hkf : ∀ b, k.ownBlock = some b → F b)
    (b0 : 0 ≤ c.gen) (b3 : c.gen ≤ 100000) (b4 : c.kept.length ≤ 100) (b5 : gen ≤ 9223372036854775807) :
    Calls Tryz.prog 21 #[.pointer (some ⟨d, 0, none⟩), .pointer (some ⟨g, o, none⟩), .int .i64 gen] w (TakePost w F d p g o cur k (takeR L e c gen)) := by
  by_cases h1 : gen < c.gen
  · exact take_old d p F L e w g o cur k c gen hd hg hF h2 h3 h4 hk hkf h1 b4
  · by_cases h8 : 8 < gen - c.gen
    · exact take_long d p F L e w g o cur k c gen hd hg hF h2 h3 h4 hk hkf b0 (by omega) h8 b3 b5
    · exact take_run d p F L e w g o cur k c gen hd hg hF h2 h3 h4 hk hkf b0 (by omega) (by omega) b3 b4

end Go.Proofs.YtnkndplbcbehkaaGreatDoor
