/-
  The reference's arena, as the laws make it: three atoms.
-/
import Derived.Test.YtnkndplbcbehkaaGreatDoorMake
set_option linter.unusedVariables false
set_option linter.unusedSimpArgs false
namespace Go.Proofs.YtnkndplbcbehkaaGreatDoor
open Go.RowKit Go.Cas
set_option maxHeartbeats 2000000
set_option maxRecDepth 20000

def atomN (n : Int) : Nd := ⟨1, n, ⟨#[]⟩, []⟩

theorem row4_cells {W : World} {b : Nat} {x y z u : Value} {T : TypeId} (h : W.heap[b]? = some (.cells #[x, y, z, u] T (0, 0))) : W.cell? ⟨b, 0, none⟩ = some x ∧ W.cell? ⟨b, 1, none⟩ = some y ∧ W.cell? ⟨b, 2, none⟩ = some z ∧ W.cell? ⟨b, 3, none⟩ = some u := by
  refine ⟨?_, ?_, ?_, ?_⟩
  all_goals (rw [cell_of_row _ _ _ _ _ _ h]; rfl)

theorem rArity_1 (w : World) : Calls Tryz.prog 79 #[.int .i64 1] w fun e w' => e = .returned (.int .i64 0) ∧ w = w' := by
  go_enter Tryz.func79, Tryz.ntmps79
  go_wp2
  go_ret
  exact ⟨rfl, rfl⟩

theorem rMay_atom (q : Nat) (n : Int) (w : World) (h0 : 0 ≤ n) :
    Calls Tryz.prog 57 #[.pointer (some ⟨q, 0, none⟩), .agg #[.int .i64 1, .int .i64 n, .string ⟨#[]⟩, .slice none 0 0]] w fun e w' => e = .returned (.bool true) ∧ Below w.heap.size w w' := by
  have d1 : decide (n < 0) = false := by simp; omega
  have hx := row4_cells (heap_new w (.cells #[.int .i64 1, .int .i64 n, .string ⟨#[]⟩, .slice none 0 0] 54))
  have HB := Lib.hid (show Below w.heap.size w (w.alloc (.cells #[.int .i64 1, .int .i64 n, .string ⟨#[]⟩, .slice none 0 0] 54)) from (Below.refl _ _).alloc (Nat.le_refl _) _)
  clear h0
  go_enter Tryz.func57, Tryz.ntmps57
  go_wp2_with (go_at_call 79; refine (rArity_1 _).mono ?_; rintro e w' ⟨rfl, rfl⟩)
  go_loopw [69] (fun i wr => i = .int .i64 0 ∧ wr = w.alloc (.cells #[.int .i64 1, .int .i64 n, .string ⟨#[]⟩, .slice none 0 0] 54)) (fun _ _ => 0)
  case atStart => exact ⟨rfl, rfl⟩
  case round =>
    obtain ⟨rfl, rfl⟩ := hrel
    go_wp2_with fail
    go_quiet (fail)
    go_wp2_with fail
    go_ret
    exact ⟨rfl, below_dN HB.out _⟩

theorem rDigits_0 (w : World) : Calls Tryz.prog 80 #[.int .i64 0] w fun e w' => e = .returned (.string ⟨#[48]⟩) ∧ w = w' := by
  go_enter Tryz.func80, Tryz.ntmps80
  go_wp2
  go_ret
  exact ⟨rfl, rfl⟩
theorem rDigits_1 (w : World) : Calls Tryz.prog 80 #[.int .i64 1] w fun e w' => e = .returned (.string ⟨#[49]⟩) ∧ w = w' := by
  go_enter Tryz.func80, Tryz.ntmps80
  go_wp2
  go_ret
  exact ⟨rfl, rfl⟩
theorem rDigits_2 (w : World) : Calls Tryz.prog 80 #[.int .i64 2] w fun e w' => e = .returned (.string ⟨#[50]⟩) ∧ w = w' := by
  go_enter Tryz.func80, Tryz.ntmps80
  go_wp2
  go_ret
  exact ⟨rfl, rfl⟩

/-- The digit of an atom. -/
def atomD (n : Int) : UInt8 := if n = 0 then 48 else if n = 1 then 49 else 50

theorem rDigits_n (n : Int) (w : World) (hn : n = 0 ∨ n = 1 ∨ n = 2) : Calls Tryz.prog 80 #[.int .i64 n] w fun e w' => e = .returned (.string ⟨#[atomD n]⟩) ∧ w = w' := by
  rcases hn with rfl | rfl | rfl
  · exact rDigits_0 w
  · exact rDigits_1 w
  · exact rDigits_2 w

theorem rText_atom (n : Int) (w : World) (hn : n = 0 ∨ n = 1 ∨ n = 2) :
    Calls Tryz.prog 58 #[.agg #[.int .i64 1, .int .i64 n, .string ⟨#[]⟩, .slice none 0 0]] w fun e w' => e = .returned (.string ⟨#[49, 32, atomD n, 32, 48, 32]⟩) ∧ Below w.heap.size w w' := by
  obtain ⟨x0, x1, x2, x3⟩ := row4_cells (heap_new w (.cells #[.int .i64 1, .int .i64 n, .string ⟨#[]⟩, .slice none 0 0] 54))
  have HB := Lib.hid (show Below w.heap.size w (w.alloc (.cells #[.int .i64 1, .int .i64 n, .string ⟨#[]⟩, .slice none 0 0] 54)) from (Below.refl _ _).alloc (Nat.le_refl _) _)
  generalize hw1 : w.alloc (.cells #[.int .i64 1, .int .i64 n, .string ⟨#[]⟩, .slice none 0 0] 54) = w1 at HB x0 x1 x2 x3
  have HW := Lib.hid hw1
  have HN := Lib.hid hn
  clear hw1 hn
  go_enter Tryz.func58, Tryz.ntmps58
  go_wp2_with fail
  rw [HW.out]
  go_region_held3 (fun w' => w'.cell? ⟨w.heap.size, 0, none⟩ = some (.int .i64 1) ∧ w'.cell? ⟨w.heap.size, 1, none⟩ = some (.int .i64 n) ∧ w'.cell? ⟨w.heap.size, 2, none⟩ = some (.string ⟨#[]⟩)) (go_keep) (first
    | (go_at_call 80; refine (rDigits_n _ _ (by first | exact HN.out | decide)).mono ?_; rintro e w' ⟨rfl, rfl⟩))
  have hT : ((({ data := #[atomD 1] } : ByteArray) ++ ⟨#[32]⟩ ++ ⟨#[atomD n]⟩ ++ ⟨#[32]⟩ ++ ⟨#[atomD 0]⟩ ++ ⟨#[32]⟩ ++ ⟨#[]⟩) : ByteArray) = ⟨#[49, 32, atomD n, 32, 48, 32]⟩ := by
    apply ByteArray.ext
    simp [ByteArray.data_append, atomD]
  rw [hT]
  go_wp2_with fail
  go_loopw [3, 27] (fun s i wr => i = .int .i64 0 ∧ s = .string ⟨#[49, 32, atomD n, 32, 48, 32]⟩ ∧ wr = w1.drew) (fun _ _ _ => 0)
  case atStart => exact ⟨rfl, rfl, rfl⟩
  case round =>
    obtain ⟨rfl, rfl, rfl⟩ := hrel
    go_wp2_with fail
    go_ret
    exact ⟨rfl, HB.out.drew⟩

theorem mayB_atom (L : List Nd) (n : Int) (hn : n = 0 ∨ n = 1 ∨ n = 2) : mayB L (atomN n) = true := by
  rcases hn with rfl | rfl | rfl <;> (simp [mayB, atomN, arityF]; rfl)

theorem rkey_atom (n : Int) (hn : n = 0 ∨ n = 1 ∨ n = 2) : rkey (atomN n) = [49, 32, atomD n, 32, 48, 32] := by
  rcases hn with rfl | rfl | rfl <;> decide +kernel

set_option maxHeartbeats 4000000 in
/-- 'Make' of an atom that is not there. -/
theorem rMake_atom (q : Nat) (F : Nat → Prop) (L : List Nd) (n : Int) (w : World) (ha : IsArG 84 rkey w q F L) (hn3 : n = 0 ∨ n = 1 ∨ n = 2) (hi : L.idxOf? (atomN n) = none) (hroom : L.length < 100000) :
    Calls Tryz.prog 26 #[.pointer (some ⟨q, 0, none⟩), .agg #[.int .i64 1, .int .i64 n, .string ⟨#[]⟩, .slice none 0 0]] w (TermPost 84 rkey q F w (makeR L (atomN n))) := by
  have hmay := mayB_atom L n hn3
  have HM := Lib.hid hmay
  have HA := Lib.hid ha
  have HI := Lib.hid hi
  have HN3 := Lib.hid hn3
  have hn0 : 0 ≤ n := by omega
  have HG := Lib.hid (mayB_good hmay (by show n ≤ 9223372036854775807; omega) ha.len_le)
  have hq : q < w.heap.size := by obtain ⟨a, c, h⟩ := ha.cell0; exact World.block_lt_of_cell? w _ h
  have HQ := Lib.hid hq
  have HKO : Hid (keyOf Tryz.prog 9 (.string ⟨#[49, 32, atomD n, 32, 48, 32]⟩) = some (.string (rkey (atomN n)))) := Lib.hid (by
    have := WideMaps.keyOf_string_mk Tryz.underlying9 (s := ⟨#[49, 32, atomD n, 32, 48, 32]⟩) (by show (6 : Nat) ≤ maxLen; decide)
    rw [rkey_atom n hn3]; simpa using this)
  have HRO := Lib.hid hroom
  have hd9 : decide ((L.length : Int) ≥ 100000) = false := by simp; omega
  clear hmay ha hi hq hroom
  obtain ⟨x0, x1, x2, x3⟩ := row4_cells (heap_new w (.cells #[.int .i64 1, .int .i64 n, .string ⟨#[]⟩, .slice none 0 0] 54))
  go_enter Tryz.func26, Tryz.ntmps26
  go_wp2_with (first
    | (go_at_call 57; refine (rMay_atom q n _ hn0).mono ?_; rintro e w1 ⟨rfl, hb1⟩; have hx1 := row4_cells (heap_bl hb1 (heap_new w (.cells #[.int .i64 1, .int .i64 n, .string ⟨#[]⟩, .slice none 0 0] 54))); obtain ⟨y0, y1, y2, y3⟩ := hx1; have HB1 := Lib.hid hb1; clear hb1)
    | (go_at_call 58; refine (rText_atom n _ HN3.out).mono ?_; rintro e w2 ⟨rfl, hb2⟩; have HB2 := Lib.hid (((Below.refl _ w).alloc (Nat.le_refl _) (.cells #[.int .i64 1, .int .i64 n, .string ⟨#[]⟩, .slice none 0 0] 54)).trans ((HB1.out.trans (hb2.mono HB1.out.size)).mono (by simp))); have HBX := Lib.hid (heap_bl hb2 (heap_bl HB1.out (heap_new w (.cells #[.int .i64 1, .int .i64 n, .string ⟨#[]⟩, .slice none 0 0] 54)))); obtain ⟨z0, z1, z2, z3⟩ := row4_cells HBX.out; have f3 := frozen_of_row _ _ 3 _ _ HBX.out; have hq2 := hb2; obtain ⟨a9, c9, h9⟩ := (HA.out.below HB2.out).cell0; obtain ⟨v0, m, xs, g0, g1, g2, g3, gF⟩ := HA.out.below HB2.out; have c1 : w2.cell? ⟨q, 1, none⟩ = some (.map (some m)) := (by rw [cell_of_row _ _ _ _ _ _ g0]; rfl); have hlook := (keyMap_look rkey (fun _ _ => rkey_inj) (atomN n) HG.out L gF.2.2.2.2.2.1 (fun y hy => gF.2.2.2.2.2.good gF.2.2.2.2.1 hy)).1 (idx_none HI.out); have HLK := Lib.hid hlook; have G3 := Lib.hid g3; clear hb2 hq2 hlook g0 g1 g2 g3 gF)
    | (at_lookup; refine wpList_lookup_own_ok_int _ rfl _ _ 80 rfl 9 3 .i64 str_keyed Tryz.underlying80 Tryz.underlying3 (Tryz.zeroValue3 _) m L.length (keyMap rkey L) rfl G3.out _ (.string (rkey (atomN n))) rfl HKO.out ?_; intro c hat hwc; rw [HLK.out]; clear hat hwc))
  have hB4 : Below w.heap.size w (w2.setCell ⟨w.heap.size, 3, none⟩ (.slice none 0 0)) := HB2.out.setCell (Nat.le_refl _) _
  have hbx4 : (w2.setCell ⟨w.heap.size, 3, none⟩ (.slice none 0 0)).heap[w.heap.size]? = some (.cells #[.int .i64 1, .int .i64 n, .string ⟨#[]⟩, .slice none 0 0] 54 (0, 0)) := by
    have := heap_setCell_same w2 w.heap.size 3 _ _ (.slice none 0 0) HBX.out
    simpa using this
  generalize w2.setCell ⟨w.heap.size, 3, none⟩ (.slice none 0 0) = w4 at hB4 hbx4 ⊢
  clear h9 HBX G3 hd9 c1 z0 z1 z2 z3 f3 y0 y1 y2 y3 x0 x1 x2 x3 HB1 HB2
  obtain ⟨v1, m1, xs1, g0, g1, g2, g3, gF⟩ := HA.out.below hB4
  have hw4 : w.heap.size < w4.heap.size := heap_lt hbx4
  have hp4 : q < w4.heap.size := by have := HQ.out; omega
  have n1 : some q ≠ v1.ownBlock := own_ne g1 g0 (by decide)
  obtain ⟨es1, ck1, hm1, r1⟩ := id g3
  have n2 : some m1 ≠ v1.ownBlock := own_ne_map g1 hm1
  have pm : m1 ≠ q := by intro e; rw [← e, hm1] at g0; cases g0
  have HM1 := Lib.hid hm1
  clear hm1 r1
  have p1 : w4.cell? ⟨q, 1, none⟩ = some (.map (some m1)) := by rw [cell_of_row w4 q 1 _ _ _ g0]; rfl
  have p0 : w4.cell? ⟨q, 0, none⟩ = some v1 := by rw [cell_of_row w4 q 0 _ _ _ g0]; rfl
  have fp : w4.frozen? ⟨q, 0, none⟩ = false := frozen_of_row w4 q 0 _ _ g0
  obtain ⟨b0, b1, b2, b3⟩ := row4_cells hbx4
  have G0 := Lib.hid g0
  have G1 := Lib.hid g1
  have G2 := Lib.hid g2
  have G3 := Lib.hid g3
  have GF := Lib.hid gF
  have N1 := Lib.hid n1
  have N2 := Lib.hid n2
  have HB4 := Lib.hid hB4
  have HBX4 := Lib.hid hbx4
  clear g0 g1 g2 g3 gF n1 n2 hB4 hbx4
  go_region_law (refine step_append_sl (by rfl) _ _ 76 (by rfl) el_nodes 0 v1 L.length xs1 (by rfl) ((G1.out.alloc _).drew) (K := fun _ => True) (.slice (some ⟨w4.heap.size, 0, none⟩) 1 1) 1 [.int .i64 1, .int .i64 n, .string ⟨#[]⟩, .slice none 0 0] (by rfl) (SlR.block (cs := #[.int .i64 1, .int .i64 n, .string ⟨#[]⟩, .slice none 0 0]) (heap_new w4 _) 4 1 rfl (by decide)) (by simp [Value.oneCell']) (by have := HRO.out; omega) (by have := HRO.out; unfold maxLen; omega) (by simp) ?_; intro v6 w6 ho6 hgrow _ hat6; obtain ⟨g6, c6, rfl, _, hg6⟩ := ho6.form (by omega); have q0 : w6.cell? ⟨q, 0, none⟩ = some v1 := (hgrow.cell_far _ (by simp; omega) N1.out).trans (cell_al _ p0); have q1 : w6.frozen? ⟨q, 0, none⟩ = false := (hgrow.frozen_far _ (by simp; omega) N1.out).trans (fz_al _ hp4 fp))
  all_goals
    have HO6 := Lib.hid ho6
    have HG6 := Lib.hid hgrow
    have HA6 := Lib.hid hat6
    have HOM := Lib.hid ((((G3.out.alloc _).drew).kept HG6.out N2.out).setCell (a := ⟨q, 0, none⟩) pm (.slice (some ⟨g6, 0, none⟩) (L.length + 1) c6))
    have c1 : (w6.setCell ⟨q, 0, none⟩ (.slice (some ⟨g6, 0, none⟩) (L.length + 1) c6)).cell? ⟨q, 1, none⟩ = some (.map (some m1)) := by
      rw [World.cell?_setCell_other _ _ _ _ (by simp)]
      exact (hgrow.cell_far _ (by simp; omega) N1.out).trans (cell_al _ p1)
    have hgq : w6.heap[q]? = some (.cells #[v1, .map (some m1)] 84 (0, 0)) := heap_grown (grownBy_drew hgrow) (heap_al _ G0.out) N1.out
    have hq7 := heap_setCell_same w6 q 0 _ _ (.slice (some ⟨g6, 0, none⟩) (L.length + 1) c6) hgq
    have c0 : (w6.setCell ⟨q, 0, none⟩ (.slice (some ⟨g6, 0, none⟩) (L.length + 1) c6)).cell? ⟨q, 0, none⟩ = some (.slice (some ⟨g6, 0, none⟩) (L.length + 1) c6) := by
      rw [cell_of_row _ _ _ _ _ _ hq7]; rfl
    clear ho6 hgrow hat6 hgq
    generalize hw7 : w6.setCell ⟨q, 0, none⟩ (.slice (some ⟨g6, 0, none⟩) (L.length + 1) c6) = w7 at HOM c1 c0 hq7 ⊢
    have hwr : IntKind.i64.wrap (L.length : Int) = (L.length : Int) := by have := HRO.out; rw [IntKind.wrap_i64]; omega
    obtain ⟨w8, hrun8, ho8, hg8⟩ := (HOM.out.drew).update str_keyed Tryz.underlying80 (by have := HRO.out; unfold maxLen; omega) HKO.out (plainElem_int Tryz.underlying3 (a := (L.length : Int)) (by have := HRO.out; simp [Lit.wf, IntKind.min, IntKind.max, IntKind.signed, IntKind.bits]; omega))
    have HO8 := Lib.hid ho8
    have HG8 := Lib.hid hg8
    clear ho8 hg8
    have c8 : w8.cell? ⟨q, 0, none⟩ = some (.slice (some ⟨g6, 0, none⟩) (L.length + 1) c6) := HG8.out.cell c0 (by simp; exact fun e => pm e.symm)
    go_wp2_with fail
    go_region_law (fail)
    all_goals
      go_wp2_with fail
      go_ret2
      have hr : makeR L (atomN n) = ((L.length : Int), 0, L ++ [atomN n]) := by
        have := HRO.out
        simp only [makeR, HM.out, if_true, HI.out]; rw [if_neg (by omega)]
      refine ⟨ret_pair (by rw [hr]) (by rw [hr]), ?_⟩
      rw [hr]
      subst hw7
      exact make_fin (x := atomN n) (by decide) (idx_none HI.out) HM.out (by show n ≤ 9223372036854775807; have := HN3.out; omega) HRO.out (by obtain ⟨_, _, _, _, _, _, _, _, _, _, h, _⟩ := HA.out; exact h) HB4.out G0.out G1.out G2.out GF.out.2.2.2.2.2 GF.out.1 GF.out.2.1 GF.out.2.2.1 (K4 := fun _ => False) (SlRep.nil _ _) (fun b h => h.elim) HO6.out (grownBy_drew HG6.out) (by simpa using HA6.out) HO8.out ⟨_, _, HM1.out⟩ (grownBy_drew HG8.out)

end Go.Proofs.YtnkndplbcbehkaaGreatDoor
