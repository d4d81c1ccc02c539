/-
  secrets: New.
-/
import Derived.Test.YtnkndplbcbehkaaGreatDoorSecO
set_option linter.unusedVariables false
set_option linter.unusedSimpArgs false
namespace Go.Proofs.YtnkndplbcbehkaaGreatDoor
open Go.RowKit Go.Cas
set_option maxHeartbeats 4000000
set_option maxRecDepth 20000

theorem sNew_any (p : Nat) (F : Nat → Prop) (L : List Nd) (w : World) (lv s : Int) (ha : IsArG 82 nkey w p F L) (hf : fullB lv = true) (h0 : 0 ≤ s) (h1 : s < L.length) :
    Calls Tryz.prog 6 #[.pointer (some ⟨p, 0, none⟩), .int .i64 lv, .int .i64 s] w fun en w' => ∃ v, en = .returned (.tuple #[.agg #[.int .i64 lv, v, .slice none 0 0], .int .i64 0]) ∧ Below w.heap.size w w' ∧
      SlRep (fun b => w.heap.size ≤ b) w' v [(⟨lv - 1, s⟩ : Sec)] := by
  have hB : Below w.heap.size w (w.alloc (.cells #[.int .i64 0, .slice none 0 0, .slice none 0 0] 32)) := (Below.refl _ _).alloc (Nat.le_refl _) _
  have hz := heap_new w (.cells #[.int .i64 0, .slice none 0 0, .slice none 0 0] 32)
  generalize hw1 : w.alloc (.cells #[.int .i64 0, .slice none 0 0, .slice none 0 0] 32) = w1 at hB hz
  have d1 : decide (s < 0) = false := by simp; omega
  have d2 : decide (s ≥ (L.length : Int)) = false := by simp; omega
  have hr := mRoot_any lv w1
  rw [hf] at hr
  simp only [if_true] at hr
  have HR := Lib.hid hr
  have HA := Lib.hid (ha.below hB)
  have HW := Lib.hid hw1
  have HB := Lib.hid hB
  have HZ := Lib.hid hz
  clear hr ha hw1 hB hz h0 h1 hf
  go_enter Tryz.func6, Tryz.ntmps6
  go_wp2_with (first
    | (go_at_call 16; rw [HW.out]; refine HR.out.mono ?_; rintro en w2 ⟨rfl, hb2⟩; have HB2 := Lib.hid hb2; obtain ⟨a0, c0, hc0⟩ := (HA.out.below hb2).cell0; have hz2 := heap_bl hb2 HZ.out; obtain ⟨z0, z1, z2⟩ := row3_cells hz2; have y0 := frozen_of_row _ _ 0 _ _ hz2; have y1 := frozen_of_row _ _ 1 _ _ hz2; have y2 := frozen_of_row _ _ 2 _ _ hz2; have hz3 := heap_al (.cells #[.int .i64 (lv - 1), .int .i64 s] 58) hz2; obtain ⟨x0, x1, x2⟩ := row3_cells hz3; have f0 := frozen_of_row _ _ 0 _ _ hz3; have f1 := frozen_of_row _ _ 1 _ _ hz3; have f2 := frozen_of_row _ _ 2 _ _ hz3; have HZ3 := Lib.hid hz3; clear hb2 hz2 hz3 z0 z1 z2 y0 y1 y2)
    | (go_at_call 17; refine (tLen_any p a0 L.length c0 _ hc0).mono ?_; rintro en w3 ⟨rfl, rfl⟩))
  have hz4 := same_set3 HZ3.out (.int .i64 lv) (.slice (some ⟨w2.heap.size, 0, none⟩) 1 1) (.slice none 0 0)
  obtain ⟨m0, m1, m2⟩ := row3_cells hz4
  refine bodyPost_ret (v := .tuple #[.agg #[.int .i64 lv, .slice (some ⟨w2.heap.size, 0, none⟩) 1 1, .slice none 0 0], .int .i64 0]) (by simp [results, Tryz.results6, go_sem, m0, m1, m2]) rfl ?_
  have hs2 : w.heap.size + 1 ≤ w2.heap.size := by have := heap_lt (heap_bl HB2.out HZ.out); omega
  have hb3 : Below w.heap.size w (w2.alloc (.cells #[.int .i64 (lv - 1), .int .i64 s] 58)) := (HB.out.trans (HB2.out.mono HB.out.size)).alloc (by omega) _
  refine ⟨_, rfl, ((hb3.setCell (p := ⟨w.heap.size, 0, none⟩) (Nat.le_refl _) _).setCell (p := ⟨w.heap.size, 1, none⟩) (Nat.le_refl _) _).setCell (p := ⟨w.heap.size, 2, none⟩) (Nat.le_refl _) _, ⟨[.int .i64 (lv - 1), .int .i64 s], ⟨rfl, by show 1 ≤ maxLen; decide, .inr ⟨w2.heap.size, 0, 1, rfl, Nat.le_refl _, (by omega), #[.int .i64 (lv - 1), .int .i64 s], 58, (0, 0), ?_, fun i u hi => ?_⟩⟩, Reps.secs.2 rfl⟩⟩
  · rw [heap_set3 (by omega)]; exact heap_new w2 _
  · rw [Nat.zero_add, List.getElem?_toArray]; exact hi

theorem secs_fresh {w w' : World} {K : Nat → Prop} {v : Value} {l : List Sec} (h : SlRep (fun b => w.heap.size ≤ b) w' v l) (hK : ∀ b, K b → b < w.heap.size) : SlRep (fun b => ¬ K b) w' v l :=
  h.step (Kp.refl _ _) (fun b _ h hk => absurd (hK b hk) (Nat.not_lt.2 h))

end Go.Proofs.YtnkndplbcbehkaaGreatDoor
