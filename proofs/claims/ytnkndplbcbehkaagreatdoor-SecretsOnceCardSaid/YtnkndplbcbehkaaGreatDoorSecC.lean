/-
  secrets: the closures, find; BinarySearchFunc of secrets.
-/
import Derived.Test.YtnkndplbcbehkaaGreatDoorSecB
set_option linter.unusedVariables false
set_option linter.unusedSimpArgs false
namespace Go.Proofs.YtnkndplbcbehkaaGreatDoor
open Go.RowKit Go.Cas
set_option maxHeartbeats 400000
set_option maxRecDepth 20000

theorem sFind1_any (b1 b2 : Nat) (leaf kind : Int) (x : Ch) (v : Value) (w : World) (h1 : w.cell? ⟨b1, 0, none⟩ = some (.int .i64 leaf)) (h2 : w.cell? ⟨b2, 0, none⟩ = some (.int .i64 kind)) :
    Calls Tryz.prog 33 #[.agg #[.int .i64 x.leaf, .int .i64 x.kind, .int .i64 x.gen, .int .i64 x.secret, v], .pointer (some ⟨b1, 0, none⟩), .pointer (some ⟨b2, 0, none⟩)] w fun e w' =>
      e = .returned (.bool ((x.leaf == leaf) && (x.kind == kind))) ∧ Below w.heap.size w w' := by
  have HB := Lib.hid (show Below w.heap.size w (w.alloc (.cells #[.int .i64 x.leaf, .int .i64 x.kind, .int .i64 x.gen, .int .i64 x.secret, v] 71)) from (Below.refl _ _).alloc (Nat.le_refl _) _)
  have p1 := cell_al (.cells #[.int .i64 x.leaf, .int .i64 x.kind, .int .i64 x.gen, .int .i64 x.secret, v] 71) h1
  have p2 := cell_al (.cells #[.int .i64 x.leaf, .int .i64 x.kind, .int .i64 x.gen, .int .i64 x.secret, v] 71) h2
  cases e1 : x.leaf == leaf <;> cases e2 : x.kind == kind
  all_goals
    go_enter Tryz.func33, Tryz.ntmps33
    go_wp2
    go_ret
    exact ⟨rfl, HB.out⟩

theorem sBegin2_any (b1 : Nat) (leaf : Int) (x : Ch) (v : Value) (w : World) (h1 : w.cell? ⟨b1, 0, none⟩ = some (.int .i64 leaf)) :
    Calls Tryz.prog 43 #[.agg #[.int .i64 x.leaf, .int .i64 x.kind, .int .i64 x.gen, .int .i64 x.secret, v], .pointer (some ⟨b1, 0, none⟩)] w fun e w' =>
      e = .returned (.bool (decide (x.leaf > leaf))) ∧ Below w.heap.size w w' := by
  have HB := Lib.hid (show Below w.heap.size w (w.alloc (.cells #[.int .i64 x.leaf, .int .i64 x.kind, .int .i64 x.gen, .int .i64 x.secret, v] 71)) from (Below.refl _ _).alloc (Nat.le_refl _) _)
  have p1 := cell_al (.cells #[.int .i64 x.leaf, .int .i64 x.kind, .int .i64 x.gen, .int .i64 x.secret, v] 71) h1
  go_enter Tryz.func43, Tryz.ntmps43
  go_wp2
  go_ret
  exact ⟨rfl, HB.out⟩

theorem sTake1_any (b1 : Nat) (gen : Int) (x : GK) (w : World) (h1 : w.cell? ⟨b1, 0, none⟩ = some (.int .i64 gen)) :
    Calls Tryz.prog 46 #[.agg #[.int .i64 x.gen, .int .i64 x.key, .int .i64 x.nonce], .pointer (some ⟨b1, 0, none⟩)] w fun e w' =>
      e = .returned (.bool (x.gen == gen)) ∧ Below w.heap.size w w' := by
  have HB := Lib.hid (show Below w.heap.size w (w.alloc (.cells #[.int .i64 x.gen, .int .i64 x.key, .int .i64 x.nonce] 39)) from (Below.refl _ _).alloc (Nat.le_refl _) _)
  have p1 := cell_al (.cells #[.int .i64 x.gen, .int .i64 x.key, .int .i64 x.nonce] 39) h1
  go_enter Tryz.func46, Tryz.ntmps46
  go_wp2
  go_ret
  exact ⟨rfl, HB.out⟩

/-- The place of a chain. -/
def findR (l : List Ch) (leaf kind : Int) : Int := findB (fun x => (x.leaf == leaf) && (x.kind == kind)) l

theorem sFind_any (K : Nat → Prop) (lv : Int) (v u : Value) (l : List Ch) (leaf kind : Int) (w : World) (hu : SlRep K w u l) :
    Calls Tryz.prog 19 #[.agg #[.int .i64 lv, v, u], .int .i64 leaf, .int .i64 kind] w fun e w' => e = .returned (.int .i64 (findR l leaf kind)) ∧ Below w.heap.size w w' := by
  generalize hw3 : ((w.alloc (.cells #[.int .i64 lv, v, u] 32)).alloc (.cells #[.int .i64 leaf] 3)).alloc (.cells #[.int .i64 kind] 3) = w3
  have hB : Below w.heap.size w w3 := by
    rw [← hw3]
    exact (((Below.refl _ _).alloc (Nat.le_refl _) _).alloc (by simp) _).alloc (by simp; omega) _
  have s0 : w3.heap[w.heap.size]? = some (.cells #[.int .i64 lv, v, u] 32 (0, 0)) := by
    rw [← hw3]; exact heap_al _ (heap_al _ (heap_new _ _))
  have s1 : w3.heap[w.heap.size + 1]? = some (.cells #[.int .i64 leaf] 3 (0, 0)) := by
    rw [← hw3]
    refine heap_al _ ?_
    have := heap_new (w.alloc (.cells #[.int .i64 lv, v, u] 32)) (.cells #[.int .i64 leaf] 3)
    simpa using this
  have s2 : w3.heap[w.heap.size + 2]? = some (.cells #[.int .i64 kind] 3 (0, 0)) := by
    rw [← hw3]
    have := heap_new ((w.alloc (.cells #[.int .i64 lv, v, u] 32)).alloc (.cells #[.int .i64 leaf] 3)) (.cells #[.int .i64 kind] 3)
    simpa using this
  have c1 : w3.cell? ⟨w.heap.size + 1, 0, none⟩ = some (.int .i64 leaf) := by rw [cell_of_row _ _ _ _ _ _ s1]; rfl
  have c2 : w3.cell? ⟨w.heap.size + 2, 0, none⟩ = some (.int .i64 kind) := by rw [cell_of_row _ _ _ _ _ _ s2]; rfl
  have c0 : w3.cell? ⟨w.heap.size, 2, none⟩ = some u := by rw [cell_of_row _ _ _ _ _ _ s0]; rfl
  have HB := Lib.hid hB
  have HW := Lib.hid hw3
  have HI := Lib.hid (indexCh_any 33 #[.pointer (some ⟨w.heap.size + 1, 0, none⟩), .pointer (some ⟨w.heap.size + 2, 0, none⟩)] (fun x => (x.leaf == leaf) && (x.kind == kind)) (fun b => K b) u l w3
    (hu.step (Kp.of_all hB) (fun _ _ h => h)) (fun x v' w' hb => sFind1_any _ _ leaf kind x v' w' (cell_bl hb c1) (cell_bl hb c2)) Tryz.call33)
  clear hw3 hB s0 s1 s2 c1 c2 hu
  unfold findR
  go_enter Tryz.func19, Tryz.ntmps19
  go_wp2_with (go_at_call 32; rw [HW.out]; refine HI.out.mono ?_; rintro e w' ⟨rfl, hb'⟩; have HB' := Lib.hid hb'; clear hb')
  go_ret
  exact ⟨rfl, HB.out.trans (HB'.out.mono HB.out.size)⟩

/-- The order of two whole numbers. -/
def cmpF (a b : Int) : Int := if a < b then -1 else if b < a then 1 else 0

theorem isNaNInt_any (a : Int) (w : World) : Calls Tryz.prog 66 #[.int .i64 a] w fun e w' => e = .returned (.bool false) ∧ w = w' := by
  go_enter Tryz.func66, Tryz.ntmps66
  go_wp2
  go_ret
  exact ⟨rfl, rfl⟩

theorem compareInt_any (a b : Int) (w : World) : Calls Tryz.prog 41 #[.int .i64 a, .int .i64 b] w fun e w' => e = .returned (.int .i64 (cmpF a b)) ∧ w = w' := by
  unfold cmpF
  by_cases h1 : a < b
  · rw [if_pos h1]
    go_enter Tryz.func41, Tryz.ntmps41
    go_wp2_with (go_at_call 66; refine (isNaNInt_any _ _).mono ?_; rintro e w' ⟨rfl, rfl⟩)
    go_ret
    exact ⟨rfl, rfl⟩
  · rw [if_neg h1]
    by_cases h2 : b < a
    · rw [if_pos h2]
      go_enter Tryz.func41, Tryz.ntmps41
      go_wp2_with (go_at_call 66; refine (isNaNInt_any _ _).mono ?_; rintro e w' ⟨rfl, rfl⟩)
      go_ret
      exact ⟨rfl, rfl⟩
    · rw [if_neg h2]
      go_enter Tryz.func41, Tryz.ntmps41
      go_wp2_with (go_at_call 66; refine (isNaNInt_any _ _).mono ?_; rintro e w' ⟨rfl, rfl⟩)
      go_ret
      exact ⟨rfl, rfl⟩

theorem sBegin1_any (x : Sec) (t : Int) (w : World) :
    Calls Tryz.prog 40 #[.agg #[.int .i64 x.node, .int .i64 x.sk], .int .i64 t] w fun e w' => e = .returned (.int .i64 (cmpF x.node t)) ∧ Below w.heap.size w w' := by
  have HB := Lib.hid (show Below w.heap.size w (w.alloc (.cells #[.int .i64 x.node, .int .i64 x.sk] 58)) from (Below.refl _ _).alloc (Nat.le_refl _) _)
  go_enter Tryz.func40, Tryz.ntmps40
  go_wp2_with (go_at_call 41; refine (compareInt_any _ _ _).mono ?_; rintro e w' ⟨rfl, rfl⟩)
  go_ret
  exact ⟨rfl, HB.out⟩

/-- Where the search ends. -/
def bsR (l : List Sec) (t : Int) (i j : Nat) : Nat :=
  if i < j then
    (if (l.getD ((i + j) / 2) default).node < t then bsR l t ((i + j) / 2 + 1) j else bsR l t i ((i + j) / 2))
  else i
termination_by j - i

theorem bsR_le (l : List Sec) (t : Int) (i j : Nat) (h : i ≤ j) : bsR l t i j ≤ j := by
  induction i, j using bsR.induct l t with
  | case1 i j h1 h2 ih => rw [bsR, if_pos h1, if_pos h2]; exact ih (by omega)
  | case2 i j h1 h2 ih => rw [bsR, if_pos h1, if_neg h2]; exact Nat.le_trans (ih (by omega)) (by omega)
  | case3 i j h1 => rw [bsR, if_neg h1]; exact h

set_option maxHeartbeats 1000000 in
theorem searchSecret_any (K : Nat → Prop) (v : Value) (l : List Sec) (t : Int) (w : World) (hl : SlRep K w v l) (hn : l.length ≤ 1000000) :
    Calls Tryz.prog 39 #[v, .int .i64 t, .func (.func 40) #[] #[]] w fun e w' => (∃ b, e = .returned (.tuple #[.int .i64 (bsR l t 0 l.length : Nat), .bool b])) ∧ Below w.heap.size w w' := by
  obtain ⟨a, c, rfl, hc, hm, ho⟩ := hl.open
  clear hm hl
  have eg := Tryz.call40
  go_enter Tryz.func39, Tryz.ntmps39
  go_wp2
  go_loopw [9, 10] (fun i j wr => ∃ k m : Nat, k ≤ m ∧ m ≤ l.length ∧ i = .int .i64 k ∧ j = .int .i64 m ∧ Hid (bsR l t k m = bsR l t 0 l.length) ∧ Hid (Below w.heap.size w wr)) (fun i j _ => (intOf j).toNat - (intOf i).toNat)
  case atStart => exact ⟨0, l.length, Nat.zero_le _, Nat.le_refl _, rfl, rfl, Lib.hid rfl, Lib.hid (Below.refl _ _)⟩
  case round =>
    obtain ⟨k, m, hkm, hml, rfl, rfl, HE, HB⟩ := hrel
    by_cases hlt : k < m
    · obtain ⟨b, off, rfl, _, hbl, hi⟩ := ho (by omega)
      have hin : (k + m) / 2 < l.length := by omega
      obtain ⟨x, hx⟩ : ∃ x, l[(k + m) / 2]? = some x := ⟨_, List.getElem?_eq_getElem hin⟩
      obtain ⟨cs, hcs, hi'⟩ := hi _ x hx
      obtain rfl : cs = x.cs := hcs
      have hi2 := fun j u hj => cell_bl HB.out (hi' j u hj)
      have hc0 : wr.cell? ⟨b, off + (k + m) / 2 * 2, none⟩ = some _ := (by have := hi2 0 _ rfl; rw [← Nat.add_assoc] at this; exact this)
      have hc1 : wr.cell? ⟨b, off + (k + m) / 2 * 2 + 1, none⟩ = some _ := (by have := hi2 1 _ rfl; rw [← Nat.add_assoc] at this; exact this)
      clear hi ho hi' hi2
      have hD : l.getD ((k + m) / 2) default = x := by rw [List.getD_eq_getElem?_getD, hx]; rfl
      have hnx : bsR l t k m = if x.node < t then bsR l t ((k + m) / 2 + 1) m else bsR l t k ((k + m) / 2) := by rw [bsR, if_pos hlt, hD]
      rw [hnx] at HE
      clear hx hD hnx
      have HC := Lib.hid (sBegin1_any x t wr)
      by_cases hlt2 : x.node < t
      · rw [if_pos hlt2] at HE
        have hcm : cmpF x.node t = -1 := by unfold cmpF; rw [if_pos hlt2]
        rw [hcm] at HC
        clear hcm
        go_wp2_with (go_at_call 40; refine HC.out.mono ?_; rintro e w' ⟨rfl, hb'⟩; have HB' := Lib.hid hb'; clear hb')
        go_round
        case rel => exact ⟨(k + m) / 2 + 1, m, by omega, by omega, by go_num, rfl, HE, Lib.hid (HB.out.trans (HB'.out.mono HB.out.size))⟩
        case measure => simp [intOf]; omega
      · rw [if_neg hlt2] at HE
        obtain ⟨z, hz, hz0⟩ : ∃ z, cmpF x.node t = z ∧ 0 ≤ z := ⟨_, rfl, by unfold cmpF; rw [if_neg hlt2]; split <;> omega⟩
        rw [hz] at HC
        clear hz
        go_wp2_with (go_at_call 40; refine HC.out.mono ?_; rintro e w' ⟨rfl, hb'⟩; have HB' := Lib.hid hb'; clear hb')
        go_round
        case rel => exact ⟨k, (k + m) / 2, by omega, by omega, rfl, by go_num, HE, Lib.hid (HB.out.trans (HB'.out.mono HB.out.size))⟩
        case measure => simp [intOf]; omega
    · obtain rfl : k = m := by omega
      have he : bsR l t k k = k := by rw [bsR, if_neg hlt]
      rw [he] at HE
      by_cases hkl : k < l.length
      · obtain ⟨b, off, rfl, _, hbl, hi⟩ := ho (by omega)
        obtain ⟨x, hx⟩ : ∃ x, l[k]? = some x := ⟨_, List.getElem?_eq_getElem hkl⟩
        obtain ⟨cs, hcs, hi'⟩ := hi _ x hx
        obtain rfl : cs = x.cs := hcs
        have hi2 := fun j u hj => cell_bl HB.out (hi' j u hj)
        have hc0 : wr.cell? ⟨b, off + k * 2, none⟩ = some _ := (by have := hi2 0 _ rfl; rw [← Nat.add_assoc] at this; exact this)
        have hc1 : wr.cell? ⟨b, off + k * 2 + 1, none⟩ = some _ := (by have := hi2 1 _ rfl; rw [← Nat.add_assoc] at this; exact this)
        clear hi ho hi' hi2 hx he
        have HC := Lib.hid (sBegin1_any x t wr)
        go_wp2_with (go_at_call 40; refine HC.out.mono ?_; rintro e w' ⟨rfl, hb'⟩; have HB' := Lib.hid hb'; clear hb')
        go_ret2
        exact ⟨⟨_, by rw [← HE.out]; rfl⟩, HB.out.trans (HB'.out.mono HB.out.size)⟩
      · clear ho he
        go_wp2
        go_ret2
        exact ⟨⟨_, by rw [← HE.out]; rfl⟩, HB.out⟩
end Go.Proofs.YtnkndplbcbehkaaGreatDoor
