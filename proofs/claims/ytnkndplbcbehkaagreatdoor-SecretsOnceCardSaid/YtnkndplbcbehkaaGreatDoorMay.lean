/-
  Layer 3 (term): the walk of 'may': which nodes may be made.
-/
import Derived.Test.YtnkndplbcbehkaaGreatDoorTerm
set_option linter.unusedVariables false
set_option linter.unusedSimpArgs false
namespace Go.Proofs.YtnkndplbcbehkaaGreatDoor
open Go.RowKit Go.Cas
set_option maxHeartbeats 400000
set_option maxRecDepth 20000

theorem IsArG.opCell {T : TypeId} {key : Nd → List UInt8} {w : World} {p : Nat} {F : Nat → Prop} {L : List Nd} (h : IsArG T key w p F L) (h0 : 0 < L.length) :
    ∃ g c, w.cell? ⟨p, 0, none⟩ = some (.slice (some ⟨g, 0, none⟩) L.length c) ∧ F g ∧ ∀ i x, L[i]? = some x → w.cell? ⟨g, i * 4, none⟩ = some (.int .i64 x.op) := by
  obtain ⟨v, m, xs, h1, h2, h3, _, _, _, h4, _⟩ := h
  have hc := cell_of_row w p 0 _ _ _ h1
  obtain ⟨g, cap, rfl, _, hg⟩ := h2.form h0
  refine ⟨g, cap, by simpa using hc, h4 g rfl, fun i x hi => ?_⟩
  obtain ⟨cs, ⟨u, rfl, _⟩, hcs⟩ := h3.at hi
  have h5 := h2.cells (g := g) rfl (i * 4) (.int .i64 x.op) (by simpa [Rp.sz] using hcs 0 _ rfl)
  unfold Addr.add at h5
  split at h5
  · rename_i e; rw [e]; exact h5
  · simpa using h5

set_option maxHeartbeats 1000000 in
theorem tMay_one (key : Nd → List UInt8) (p : Nat) (F : Nat → Prop) (L : List Nd) (K : Nat → Prop) (n : Int) (s : ByteArray) (l : List Int) (v : Value) (w : World)
    (ha : IsArG 82 key w p F L) (hl : SlRep K w v l) :
    Calls Tryz.prog 23 #[.pointer (some ⟨p, 0, none⟩), .agg #[.int .i64 1, .int .i64 n, .string s, v]] w fun e w' => e = .returned (.bool (mayB L ⟨1, n, s, l⟩)) ∧ Below w.heap.size w w' := by
  have k1 : arityF 1 = 0 := rfl
  obtain ⟨a0, c0, h0⟩ := ha.cell0
  have hL := ha.len_le
  have hp : p < w.heap.size := World.block_lt_of_cell? w _ h0
  have HL := Lib.hid hl
  obtain ⟨a, c, rfl, hc, hm, _⟩ := hl.openInt
  unfold maxLen at hm
  clear hl ha
  generalize hr : mayB L ⟨1, n, s, l⟩ = r
  have HR := Lib.hid hr
  clear hr
  go_enter Tryz.func23, Tryz.ntmps23
  go_wp2_with (go_at_call 53; refine (tArity_any _ _).mono ?_; rintro e w1 ⟨rfl, hb1⟩; obtain ⟨hc1, hf1⟩ := bcell hb1)
  all_goals have hB : Below w.heap.size w w1 := ((((Below.refl _ _).alloc (Nat.le_refl _) _).alloc (by simp) _).trans (hb1.mono (by simp; omega)))
  all_goals first
    | (go_ret; exact ⟨ret_bool (by rw [← HR.out]; simp [mayB, *]), hB⟩)
    | (have hbx : w1.cell? ⟨w.heap.size, 0, none⟩ = some (.pointer (some ⟨p, 0, none⟩)) := cell_bl hb1 (cell_al _ (cell_new w _ rfl))
       have hpx : w1.cell? ⟨p, 0, none⟩ = some (.slice a0 L.length c0) := cell_bl hB h0
       have hq : PredI 54 #[.pointer (some ⟨w.heap.size, 0, none⟩)] (fun t => !hasB L.length t) w1 := fun x => tMay1_any p _ x a0 _ c0 _ hbx hpx
       have HC := Lib.hid (containsInt_any 54 _ _ K _ l _ (HL.out.step (Kp.of_all hB) (fun _ _ h => h)) hq Tryz.call54)
       clear hq
       refine HC.out.mono ?_
       rintro e w2 ⟨rfl, rfl⟩
       cases t8 : l.any fun t => !hasB L.length t
       · go_wp2
         go_quiet (fail)
         go_wp2
         go_ret
         exact ⟨ret_bool (by rw [← HR.out]; simp [mayB, *]), below_dN hB _⟩
       · go_wp2
         go_ret
         exact ⟨ret_bool (by rw [← HR.out]; simp [mayB, *]), hB⟩)

set_option maxHeartbeats 1000000 in
theorem tMay_two (key : Nd → List UInt8) (p : Nat) (F : Nat → Prop) (L : List Nd) (K : Nat → Prop) (n : Int) (s : ByteArray) (l : List Int) (v : Value) (w : World)
    (ha : IsArG 82 key w p F L) (hl : SlRep K w v l) :
    Calls Tryz.prog 23 #[.pointer (some ⟨p, 0, none⟩), .agg #[.int .i64 2, .int .i64 n, .string s, v]] w fun e w' => e = .returned (.bool (mayB L ⟨2, n, s, l⟩)) ∧ Below w.heap.size w w' := by
  have k2 : arityF 2 = 0 := rfl
  obtain ⟨a0, c0, h0⟩ := ha.cell0
  have hL := ha.len_le
  have hp : p < w.heap.size := World.block_lt_of_cell? w _ h0
  have HL := Lib.hid hl
  obtain ⟨a, c, rfl, hc, hm, _⟩ := hl.openInt
  unfold maxLen at hm
  clear hl ha
  generalize hr : mayB L ⟨2, n, s, l⟩ = r
  have HR := Lib.hid hr
  clear hr
  go_enter Tryz.func23, Tryz.ntmps23
  go_wp2_with (go_at_call 53; refine (tArity_any _ _).mono ?_; rintro e w1 ⟨rfl, hb1⟩; obtain ⟨hc1, hf1⟩ := bcell hb1)
  all_goals have hB : Below w.heap.size w w1 := ((((Below.refl _ _).alloc (Nat.le_refl _) _).alloc (by simp) _).trans (hb1.mono (by simp; omega)))
  all_goals first
    | (go_ret; exact ⟨ret_bool (by rw [← HR.out]; simp [mayB, *]), hB⟩)
    | (have hbx : w1.cell? ⟨w.heap.size, 0, none⟩ = some (.pointer (some ⟨p, 0, none⟩)) := cell_bl hb1 (cell_al _ (cell_new w _ rfl))
       have hpx : w1.cell? ⟨p, 0, none⟩ = some (.slice a0 L.length c0) := cell_bl hB h0
       have hq : PredI 54 #[.pointer (some ⟨w.heap.size, 0, none⟩)] (fun t => !hasB L.length t) w1 := fun x => tMay1_any p _ x a0 _ c0 _ hbx hpx
       have HC := Lib.hid (containsInt_any 54 _ _ K _ l _ (HL.out.step (Kp.of_all hB) (fun _ _ h => h)) hq Tryz.call54)
       clear hq
       refine HC.out.mono ?_
       rintro e w2 ⟨rfl, rfl⟩
       cases t8 : l.any fun t => !hasB L.length t
       · go_wp2
         go_quiet (fail)
         go_wp2
         go_ret
         exact ⟨ret_bool (by rw [← HR.out]; simp [mayB, *]), below_dN hB _⟩
       · go_wp2
         go_ret
         exact ⟨ret_bool (by rw [← HR.out]; simp [mayB, *]), hB⟩)

set_option maxHeartbeats 1000000 in
theorem tMay_else (key : Nd → List UInt8) (p : Nat) (F : Nat → Prop) (L : List Nd) (K : Nat → Prop) (op n : Int) (s : ByteArray) (l : List Int) (v : Value) (w : World)
    (ha : IsArG 82 key w p F L) (hl : SlRep K w v l) (h1 : (op != 1) = true) (h2 : (op != 2) = true) (h6 : (op != 6) = true) :
    Calls Tryz.prog 23 #[.pointer (some ⟨p, 0, none⟩), .agg #[.int .i64 op, .int .i64 n, .string s, v]] w fun e w' => e = .returned (.bool (mayB L ⟨op, n, s, l⟩)) ∧ Below w.heap.size w w' := by
  obtain ⟨a0, c0, h0⟩ := ha.cell0
  have hL := ha.len_le
  have hp : p < w.heap.size := World.block_lt_of_cell? w _ h0
  have HL := Lib.hid hl
  obtain ⟨a, c, rfl, hc, hm, _⟩ := hl.openInt
  unfold maxLen at hm
  clear hl ha
  generalize hr : mayB L ⟨op, n, s, l⟩ = r
  have HR := Lib.hid hr
  clear hr
  go_enter Tryz.func23, Tryz.ntmps23
  go_wp2_with (go_at_call 53; refine (tArity_any _ _).mono ?_; rintro e w1 ⟨rfl, hb1⟩; obtain ⟨hc1, hf1⟩ := bcell hb1)
  all_goals have hB : Below w.heap.size w w1 := ((((Below.refl _ _).alloc (Nat.le_refl _) _).alloc (by simp) _).trans (hb1.mono (by simp; omega)))
  all_goals first
    | (go_ret; exact ⟨ret_bool (by rw [← HR.out]; simp [mayB, *]), hB⟩)
    | (have hbx : w1.cell? ⟨w.heap.size, 0, none⟩ = some (.pointer (some ⟨p, 0, none⟩)) := cell_bl hb1 (cell_al _ (cell_new w _ rfl))
       have hpx : w1.cell? ⟨p, 0, none⟩ = some (.slice a0 L.length c0) := cell_bl hB h0
       have hq : PredI 54 #[.pointer (some ⟨w.heap.size, 0, none⟩)] (fun t => !hasB L.length t) w1 := fun x => tMay1_any p _ x a0 _ c0 _ hbx hpx
       have HC := Lib.hid (containsInt_any 54 _ _ K _ l _ (HL.out.step (Kp.of_all hB) (fun _ _ h => h)) hq Tryz.call54)
       clear hq
       refine HC.out.mono ?_
       rintro e w2 ⟨rfl, rfl⟩
       cases t8 : l.any fun t => !hasB L.length t
       · go_wp2
         go_quiet (fail)
         go_wp2
         go_ret
         exact ⟨ret_bool (by rw [← HR.out]; simp [mayB, *]), below_dN hB _⟩
       · go_wp2
         go_ret
         exact ⟨ret_bool (by rw [← HR.out]; simp [mayB, *]), hB⟩)

set_option maxHeartbeats 2000000 in
theorem tMay_six (key : Nd → List UInt8) (p : Nat) (F : Nat → Prop) (L : List Nd) (K : Nat → Prop) (n : Int) (s : ByteArray) (l : List Int) (v : Value) (w : World)
    (ha : IsArG 82 key w p F L) (hl : SlRep K w v l) :
    Calls Tryz.prog 23 #[.pointer (some ⟨p, 0, none⟩), .agg #[.int .i64 6, .int .i64 n, .string s, v]] w fun e w' => e = .returned (.bool (mayB L ⟨6, n, s, l⟩)) ∧ Below w.heap.size w w' := by
  have k6 : arityF 6 = 3 := rfl
  obtain ⟨a0, c0, h0⟩ := ha.cell0
  have hL := ha.len_le
  have hp : p < w.heap.size := World.block_lt_of_cell? w _ h0
  have HL := Lib.hid hl
  have HA := Lib.hid ha
  obtain ⟨a, c, rfl, hc, hm, ho⟩ := hl.openInt
  unfold maxLen at hm
  have HO := Lib.hid ho
  clear hl ha ho
  generalize hr : mayB L ⟨6, n, s, l⟩ = r
  have HR := Lib.hid hr
  clear hr
  go_enter Tryz.func23, Tryz.ntmps23
  go_wp2_with (go_at_call 53; refine (tArity_any _ _).mono ?_; rintro e w1 ⟨rfl, hb1⟩; obtain ⟨hc1, hf1⟩ := bcell hb1)
  all_goals have hB : Below w.heap.size w w1 := ((((Below.refl _ _).alloc (Nat.le_refl _) _).alloc (by simp) _).trans (hb1.mono (by simp; omega)))
  all_goals first
    | (go_ret; exact ⟨ret_bool (by rw [← HR.out]; simp [mayB, *]), hB⟩)
    | (have hbx : w1.cell? ⟨w.heap.size, 0, none⟩ = some (.pointer (some ⟨p, 0, none⟩)) := cell_bl hb1 (cell_al _ (cell_new w _ rfl))
       have hpx : w1.cell? ⟨p, 0, none⟩ = some (.slice a0 L.length c0) := cell_bl hB h0
       have hq : PredI 54 #[.pointer (some ⟨w.heap.size, 0, none⟩)] (fun t => !hasB L.length t) w1 := fun x => tMay1_any p _ x a0 _ c0 _ hbx hpx
       have HC := Lib.hid (containsInt_any 54 _ _ K _ l _ (HL.out.step (Kp.of_all hB) (fun _ _ h => h)) hq Tryz.call54)
       clear hq
       refine HC.out.mono ?_
       rintro e w2 ⟨rfl, rfl⟩
       cases t8 : l.any fun t => !hasB L.length t
       · have h3 : l.length = 3 := by
           have h : ((l.length : Int) != 3) = false := by assumption
           simp at h; omega
         obtain ⟨b, off, rfl, _, _, hi⟩ := HO.out (by omega)
         obtain ⟨x1, hx1⟩ : ∃ x, l[1]? = some x := ⟨_, List.getElem?_eq_getElem (by omega)⟩
         have hin : hasB L.length x1 = true := by
           have := List.any_eq_false.1 t8 x1 (List.mem_of_getElem? hx1)
           simpa using this
         simp [hasB] at hin
         obtain ⟨j, rfl⟩ := Int.eq_ofNat_of_zero_le hin.1
         have hj : j < L.length := by omega
         obtain ⟨g, cg, hg0, _, hg⟩ := HA.out.opCell (by omega)
         obtain ⟨y, hy⟩ : ∃ y, L[j]? = some y := ⟨_, List.getElem?_eq_getElem hj⟩
         rw [hg0] at h0
         have e0 := h0
         simp only [Option.some.injEq, Value.slice.injEq] at e0
         obtain ⟨rfl, _, rfl⟩ := e0
         have hl3 : (1 : Int) < (l.length : Int) := by omega
         have c1 : w1.cell? ⟨b, off + 1, none⟩ = some (.int .i64 (j : Int)) := cell_bl hB (hi 1 _ hx1)
         have c2 : w1.cell? ⟨g, j * 4, none⟩ = some (.int .i64 y.op) := cell_bl hB (hg j y hy)
         have H3 := Lib.hid h3
         have HX := Lib.hid hx1
         have HY := Lib.hid hy
         clear h3 hx1 hy hi hg hg0 h0
         cases t9 : (y.op == 2)
         all_goals
           go_wp2
           go_quiet (fail)
           go_wp2
           go_ret
           exact ⟨ret_bool (by rw [← HR.out]; simp [mayB, *, HX.out, HY.out, (List.getElem?_eq_some_iff.1 HY.out).2]; try simpa using t9), below_dN hB _⟩
       · go_wp2
         go_ret
         exact ⟨ret_bool (by rw [← HR.out]; simp [mayB, *]), hB⟩)

/-- 'may'. -/
theorem tMay_any (key : Nd → List UInt8) (p : Nat) (F : Nat → Prop) (L : List Nd) (K : Nat → Prop) (x : Nd) (v : Value) (w : World)
    (ha : IsArG 82 key w p F L) (hl : SlRep K w v x.l) :
    Calls Tryz.prog 23 #[.pointer (some ⟨p, 0, none⟩), .agg #[.int .i64 x.op, .int .i64 x.n, .string x.s, v]] w fun e w' => e = .returned (.bool (mayB L x)) ∧ Below w.heap.size w w' := by
  obtain ⟨op, n, s, l⟩ := x
  dsimp only at hl ⊢
  by_cases h1 : op = 1
  · subst h1; exact tMay_one key p F L K n s l v w ha hl
  by_cases h2 : op = 2
  · subst h2; exact tMay_two key p F L K n s l v w ha hl
  by_cases h6 : op = 6
  · subst h6; exact tMay_six key p F L K n s l v w ha hl
  exact tMay_else key p F L K op n s l v w ha hl (by simpa using h1) (by simpa using h2) (by simpa using h6)
end Go.Proofs.YtnkndplbcbehkaaGreatDoor
