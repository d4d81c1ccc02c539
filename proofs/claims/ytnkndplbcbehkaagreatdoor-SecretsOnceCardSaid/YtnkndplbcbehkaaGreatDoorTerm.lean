/-
  Layer 3 (term): the walks of the arena's small functions.
-/
import Derived.Test.YtnkndplbcbehkaaGreatDoorAr
import Derived.Test.YtnkndplbcbehkaaGreatDoorPlain
import Derived.Test.YtnkndplbcbehkaaGreatDoorShelf
set_option linter.unusedVariables false
set_option linter.unusedSimpArgs false
namespace Go.Proofs.YtnkndplbcbehkaaGreatDoor
open Go.RowKit Go.Cas
set_option maxHeartbeats 400000
set_option maxRecDepth 20000

theorem IsArG.cell0 {T : TypeId} {key : Nd → List UInt8} {w : World} {p : Nat} {F : Nat → Prop} {L : List Nd} (h : IsArG T key w p F L) :
    ∃ a c, w.cell? ⟨p, 0, none⟩ = some (.slice a L.length c) := by
  obtain ⟨v, m, xs, h0, h1, h2, _⟩ := h
  have hc := cell_of_row w p 0 _ _ _ h0
  rcases h1.2 with ⟨rfl, hn⟩ | ⟨g, cap, cur, rfl, _⟩
  · exact ⟨none, 0, by rw [hn]; simpa using hc⟩
  · exact ⟨_, _, by simpa using hc⟩

theorem IsArG.len_le {T : TypeId} {key : Nd → List UInt8} {w : World} {p : Nat} {F : Nat → Prop} {L : List Nd} (h : IsArG T key w p F L) : L.length ≤ 100000 := by
  obtain ⟨v, m, xs, h0, h1, h2, h3, h4, h5, h6, h7, h8⟩ := h; exact h8.1

theorem bcell {W w1 : World} (hb : Below W.heap.size W w1) : (∀ b o, b < W.heap.size → w1.cell? ⟨b, o, none⟩ = W.cell? ⟨b, o, none⟩) ∧ (∀ b o, b < W.heap.size → w1.frozen? ⟨b, o, none⟩ = W.frozen? ⟨b, o, none⟩) :=
  ⟨fun b o h => hb.cell (p := ⟨b, o, none⟩) h, fun b o h => hb.frozen (p := ⟨b, o, none⟩) h⟩

/-- 'Len'. -/
theorem tLen_any (p : Nat) (a : Option Addr) (n c : Nat) (w : World) (h0 : w.cell? ⟨p, 0, none⟩ = some (.slice a n c)) :
    Calls Tryz.prog 17 #[.pointer (some ⟨p, 0, none⟩)] w fun e w' => e = .returned (.int .i64 n) ∧ w = w' := by
  go_enter Tryz.func17, Tryz.ntmps17
  go_wp2
  go_ret
  exact ⟨rfl, rfl⟩

theorem tHas_any (p : Nat) (t : Int) (a : Option Addr) (n c : Nat) (w : World) (h0 : w.cell? ⟨p, 0, none⟩ = some (.slice a n c)) :
    Calls Tryz.prog 55 #[.pointer (some ⟨p, 0, none⟩), .int .i64 t] w fun e w' => e = .returned (.bool (hasB n t)) ∧ w = w' := by
  unfold hasB
  by_cases h : 0 ≤ t
  · have hd : decide (0 ≤ t) = true := by simpa using h
    go_enter Tryz.func55, Tryz.ntmps55
    go_wp2
    go_ret
    exact ⟨by simp [h], rfl⟩
  · have hd : decide (0 ≤ t) = false := by simpa using h
    go_enter Tryz.func55, Tryz.ntmps55
    go_wp2
    go_ret
    exact ⟨by simp [h], rfl⟩

/-- 'may$1': the test that a part is none. -/
theorem tMay1_any (p b : Nat) (t : Int) (a : Option Addr) (n c : Nat) (w : World) (hb : w.cell? ⟨b, 0, none⟩ = some (.pointer (some ⟨p, 0, none⟩))) (h0 : w.cell? ⟨p, 0, none⟩ = some (.slice a n c)) :
    Calls Tryz.prog 54 #[.int .i64 t, .pointer (some ⟨b, 0, none⟩)] w fun e w' => e = .returned (.bool (!hasB n t)) ∧ w = w' := by
  go_enter Tryz.func54, Tryz.ntmps54
  go_wp2_with (go_at_call 55; refine (tHas_any p t a n c _ h0).mono ?_; rintro e w' ⟨rfl, rfl⟩)
  go_ret
  exact ⟨rfl, rfl⟩

/-- A predicate on whole numbers that only reads. -/
def PredI (g : FuncId) (cap : Array Value) (q : Int → Bool) (w : World) : Prop :=
  ∀ x, Calls Tryz.prog g (#[.int .i64 x] ++ cap) w fun e w' => e = .returned (.bool (q x)) ∧ w = w'

/-- The first place at which q holds, or -1. -/
def findB {α : Type} (q : α → Bool) (l : List α) : Int := match l.findIdx? q with | some i => (i : Int) | none => -1

theorem findB_hit {α : Type} {q : α → Bool} {l : List α} {k : Nat} {x : α} (h : ∀ j y, j < k → l[j]? = some y → q y = false) (hx : l[k]? = some x) (hq : q x = true) : findB q l = (k : Int) := by
  have : l.findIdx? q = some k := by
    rw [List.findIdx?_eq_some_iff_getElem]
    obtain ⟨hk, rfl⟩ := List.getElem?_eq_some_iff.1 hx
    exact ⟨hk, hq, fun j hj => by simpa using h j _ hj (List.getElem?_eq_getElem (by omega))⟩
  simp [findB, this]

theorem findB_miss {α : Type} {q : α → Bool} {l : List α} (h : ∀ j y, j < l.length → l[j]? = some y → q y = false) : findB q l = -1 := by
  have : l.findIdx? q = none := by
    rw [List.findIdx?_eq_none_iff]
    intro x hx
    obtain ⟨j, hj, rfl⟩ := List.getElem_of_mem hx
    exact h j _ hj (List.getElem?_eq_getElem hj)
  simp [findB, this]

/-- 'slices.IndexFunc' of whole numbers. -/
theorem indexInt_any (g : FuncId) (cap : Array Value) (q : Int → Bool) (K : Nat → Prop) (v : Value) (l : List Int) (w : World) (hl : SlRep K w v l) (hq : PredI g cap q w)
    (eg : ∀ args w, (callFunc g args).run Tryz.prog w = .ok (.enter g args) w) :
    Calls Tryz.prog 74 #[v, .func (.func g) #[] cap] w fun e w' => e = .returned (.int .i64 (findB q l)) ∧ w = w' := by
  obtain ⟨a, c, rfl, hc, hm, ho⟩ := hl.openInt
  unfold maxLen at hm
  clear hl
  go_enter Tryz.func74, Tryz.ntmps74
  go_wp2
  go_loop [8] (fun i => ∃ k : Nat, k ≤ l.length ∧ i = .int .i64 k ∧ Hid (∀ j y, j < k → l[j]? = some y → q y = false)) (fun i => l.length - (intOf i).toNat)
  case atStart => exact ⟨0, Nat.zero_le _, rfl, fun j y hj => by omega⟩
  case round =>
    obtain ⟨k, hk, rfl, H⟩ := hrel
    by_cases hlt : k < l.length
    · obtain ⟨b, off, rfl, _, _, hi⟩ := ho (by omega)
      obtain ⟨x, hx⟩ : ∃ x, l[k]? = some x := ⟨_, List.getElem?_eq_getElem hlt⟩
      have hcell := hi k x hx
      clear hi ho
      have HX := Lib.hid hx
      clear hx
      have HC := Lib.hid (hq x)
      clear hq
      cases hqx : q x with
      | true =>
        rw [hqx] at HC
        have HQ := Lib.hid hqx
        clear hqx
        go_wp2_with (go_at_fn g; refine HC.out.mono ?_; rintro e w' ⟨rfl, rfl⟩)
        go_ret
        exact ⟨ret_int (findB_hit H.out HX.out HQ.out).symm, rfl⟩
      | false =>
        rw [hqx] at HC
        have HQ := Lib.hid hqx
        clear hqx
        go_wp2_with (go_at_fn g; refine HC.out.mono ?_; rintro e w' ⟨rfl, rfl⟩)
        go_round
        case rel =>
          refine ⟨k + 1, by omega, by go_num, fun j y hj hy => ?_⟩
          by_cases e : j = k
          · subst e; rw [HX.out] at hy; cases hy; exact HQ.out
          · exact H.out j y (by omega) hy
        case measure => simp [intOf]; omega
    · go_wp2
      go_ret
      exact ⟨ret_int (findB_miss (fun j y hj => H.out j y (by omega))).symm, rfl⟩
theorem findB_nonneg {α : Type} (q : α → Bool) (l : List α) : decide (0 ≤ findB q l) = l.any q := by
  unfold findB
  cases h : l.findIdx? q with
  | none =>
    rw [List.findIdx?_eq_none_iff] at h
    have : l.any q = false := by
      rw [Bool.eq_false_iff]; intro h'; obtain ⟨x, hx, hq⟩ := List.any_eq_true.1 h'; simp [h x hx] at hq
    rw [this]; decide
  | some i =>
    rw [List.findIdx?_eq_some_iff_getElem] at h
    obtain ⟨hi, hq, _⟩ := h
    have : l.any q = true := List.any_eq_true.2 ⟨_, List.getElem_mem hi, hq⟩
    rw [this]; simp

/-- 'slices.ContainsFunc' of whole numbers. -/
theorem containsInt_any (g : FuncId) (cap : Array Value) (q : Int → Bool) (K : Nat → Prop) (v : Value) (l : List Int) (w : World) (hl : SlRep K w v l) (hq : PredI g cap q w)
    (eg : ∀ args w, (callFunc g args).run Tryz.prog w = .ok (.enter g args) w) :
    Calls Tryz.prog 50 #[v, .func (.func g) #[] cap] w fun e w' => e = .returned (.bool (l.any q)) ∧ w = w' := by
  have HC := Lib.hid (indexInt_any g cap q K v l w hl hq eg)
  have HE := Lib.hid (findB_nonneg q l)
  clear hl hq
  generalize hf : findB q l = f at HC HE
  clear hf
  go_enter Tryz.func50, Tryz.ntmps50
  go_wp2_with (go_at_call 74; refine HC.out.mono ?_; rintro e w' ⟨rfl, rfl⟩)
  go_ret
  exact ⟨ret_bool HE.out, rfl⟩

theorem tArity_any (op : Int) (w : World) :
    Calls Tryz.prog 53 #[.int .i64 op] w fun e w' => e = .returned (.int .i64 (arityF op)) ∧ Below w.heap.size w w' := by
  by_cases h1 : op < 1
  · have hd : decide (op < 1) = true := by simpa using h1
    have HE := Lib.hid (show arityF op = -2 by unfold arityF; repeat rw [if_neg (by omega)])
    go_enter Tryz.func53, Tryz.ntmps53
    go_wp2
    go_ret
    exact ⟨ret_int HE.out.symm, (Below.refl _ _).alloc (Nat.le_refl _) _⟩
  · by_cases h2 : 13 ≤ op
    · have hd : decide (op < 1) = false := by simpa using h1
      have HE := Lib.hid (show arityF op = -2 by unfold arityF; repeat rw [if_neg (by omega)])
      go_enter Tryz.func53, Tryz.ntmps53
      go_wp2
      go_ret
      exact ⟨ret_int HE.out.symm, (Below.refl _ _).alloc (Nat.le_refl _) _⟩
    · have hd : decide (op < 1) = false := by simpa using h1
      have hd2 : decide (13 ≤ op) = false := by simpa using h2
      go_enter Tryz.func53, Tryz.ntmps53
      go_wp2
      go_ret
      refine ⟨?_, (Below.refl _ _).alloc (Nat.le_refl _) _⟩
      have : op = 1 ∨ op = 2 ∨ op = 3 ∨ op = 4 ∨ op = 5 ∨ op = 6 ∨ op = 7 ∨ op = 8 ∨ op = 9 ∨ op = 10 ∨ op = 11 ∨ op = 12 := by omega
      clear hd hd2
      rcases this with rfl | rfl | rfl | rfl | rfl | rfl | rfl | rfl | rfl | rfl | rfl | rfl <;> rfl
end Go.Proofs.YtnkndplbcbehkaaGreatDoor
