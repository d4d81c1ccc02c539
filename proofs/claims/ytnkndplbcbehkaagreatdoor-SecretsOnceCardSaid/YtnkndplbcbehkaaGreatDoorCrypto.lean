/-
  Layers 3 and 4: the walks of Text, known, of, Expand.
-/
import Derived.Test.YtnkndplbcbehkaaGreatDoorMake
set_option linter.unusedVariables false
set_option linter.unusedSimpArgs false
namespace Go.Proofs.YtnkndplbcbehkaaGreatDoor
open Go.RowKit Go.Cas
set_option maxHeartbeats 400000
set_option maxRecDepth 20000

def textR (L : List Nd) (s : ByteArray) : Int × Int × List Nd := makeR L ⟨2, 0, s, []⟩

/-- 'Text'. -/
theorem tText_any (p : Nat) (F : Nat → Prop) (L : List Nd) (s : ByteArray) (w : World) (hE : Env F w) (ha : IsArG 82 nkey w p F L) :
    Calls Tryz.prog 64 #[.pointer (some ⟨p, 0, none⟩), .string s] w (TermPost 82 nkey p F w (textR L s)) := by
  have HC := Lib.hid (tMake_any p F (fun _ => True) L ⟨2, 0, s, []⟩ (.slice none 0 0) w hE ha (SlRep.nil _ _) (by show (0 : Int) ≤ _; decide))
  clear hE ha
  unfold textR
  generalize makeR L ⟨2, 0, s, []⟩ = r at HC ⊢
  go_enter Tryz.func64, Tryz.ntmps64
  go_wp2_with (go_at_call 14; refine HC.out.mono ?_; rintro e w1 ⟨rfl, F1, ha1, hs1⟩)
  go_ret2
  exact ⟨rfl, F1, ha1, hs1⟩
/-- 'known' of some numbers. -/
def knownB (L : List Nd) (l : List Int) : Bool := l.all (hasB L.length)

theorem cKnown_any (p : Nat) (K : Nat → Prop) (a0 : Option Addr) (n0 c0 : Nat) (v : Value) (l : List Int) (w : World) (h0 : w.cell? ⟨p, 0, none⟩ = some (.slice a0 n0 c0)) (hl : SlRep K w v l) :
    Calls Tryz.prog 83 #[.pointer (some ⟨p, 0, none⟩), v] w fun e w' => e = .returned (.bool (l.all (hasB n0))) ∧ w = w' := by
  obtain ⟨a, c, rfl, hc, hm, ho⟩ := hl.openInt
  unfold maxLen at hm
  clear hl
  generalize hr : l.all (hasB n0) = r
  have HR := Lib.hid hr
  clear hr
  go_enter Tryz.func83, Tryz.ntmps83
  go_wp2
  go_loop [9] (fun i => ∃ k : Nat, k ≤ l.length ∧ i = .int .i64 k ∧ Hid (∀ j y, j < k → l[j]? = some y → hasB n0 y = true)) (fun i => l.length - (intOf i).toNat)
  case atStart => exact ⟨0, Nat.zero_le _, rfl, fun j y hj => by omega⟩
  case round =>
    obtain ⟨k, hk, rfl, H⟩ := hrel
    by_cases hlt : k < l.length
    · obtain ⟨b, off, rfl, _, _, hi⟩ := ho (by omega)
      obtain ⟨x, hx⟩ : ∃ x, l[k]? = some x := ⟨_, List.getElem?_eq_getElem hlt⟩
      have hcell := hi k x hx
      clear hi ho
      have HX := Lib.hid hx
      clear hx
      have hit : hasB n0 x = false → r = false := fun h => by
        rw [← HR.out, List.all_eq_false]
        exact ⟨x, List.mem_of_getElem? HX.out, by simp [h]⟩
      have HH := Lib.hid hit
      clear hit
      by_cases h1 : x < 0
      · have hd : decide (x < 0) = true := by simpa using h1
        have HD := Lib.hid (HH.out (by simp [hasB]; omega))
        go_wp2
        go_ret
        exact ⟨ret_bool HD.out.symm, rfl⟩
      · have hd : decide (x < 0) = false := by simpa using h1
        by_cases h2 : (n0 : Int) ≤ x
        · have hd2 : decide ((n0 : Int) ≤ x) = true := by simpa using h2
          have HD := Lib.hid (HH.out (by simp [hasB]; omega))
          go_wp2_with (go_at_call 17; refine (tLen_any p a0 n0 c0 _ h0).mono ?_; rintro e w' ⟨rfl, rfl⟩)
          go_ret
          exact ⟨ret_bool HD.out.symm, rfl⟩
        · have hd2 : decide ((n0 : Int) ≤ x) = false := by simpa using h2
          have HD := Lib.hid (show hasB n0 x = true by simp [hasB]; omega)
          go_wp2_with (go_at_call 17; refine (tLen_any p a0 n0 c0 _ h0).mono ?_; rintro e w' ⟨rfl, rfl⟩)
          go_round
          case rel =>
            refine ⟨k + 1, by omega, by go_num, fun j y hj hy => ?_⟩
            by_cases e : j = k
            · subst e; rw [HX.out] at hy; cases hy; exact HD.out
            · exact H.out j y (by omega) hy
          case measure => simp [intOf]; omega
    · go_wp2
      go_ret
      refine ⟨ret_bool ?_, rfl⟩
      rw [← HR.out, eq_comm, List.all_eq_true]
      intro x hx
      obtain ⟨j, hj, rfl⟩ := List.getElem_of_mem hx
      exact H.out j _ (by omega) (List.getElem?_eq_getElem hj)

def ofR (L : List Nd) (op : Int) (l : List Int) : Int × Int × List Nd := makeR L ⟨op, 0, ⟨#[]⟩, l⟩

/-- 'of'. -/
theorem cOf_any (p : Nat) (F K : Nat → Prop) (L : List Nd) (op : Int) (l : List Int) (v : Value) (w : World) (hE : Env F w) (ha : IsArG 82 nkey w p F L) (hl : SlRep K w v l) :
    Calls Tryz.prog 84 #[.pointer (some ⟨p, 0, none⟩), .int .i64 op, v] w (TermPost 82 nkey p F w (ofR L op l)) := by
  have HC := Lib.hid (tMake_any p F K L ⟨op, 0, ⟨#[]⟩, l⟩ v w hE ha hl (by show (0 : Int) ≤ _; decide))
  obtain ⟨a, c, rfl, _, _⟩ := hl.form
  clear hE ha hl
  unfold ofR
  generalize makeR L ⟨op, 0, ⟨#[]⟩, l⟩ = r at HC ⊢
  go_enter Tryz.func84, Tryz.ntmps84
  go_wp2_with (go_at_call 14; refine HC.out.mono ?_; rintro e w1 ⟨rfl, F1, ha1, hs1⟩)
  go_ret2
  exact ⟨rfl, F1, ha1, hs1⟩
theorem ints_two (w : World) (a b : Int) : SlRep (fun _ => True) (w.alloc (.cells #[.int .i64 a, .int .i64 b] 3)) (.slice (some ⟨w.heap.size, 0, none⟩) 2 2) [a, b] :=
  SlRep.of_ints (SlR.block (heap_new w _) 1 2 rfl (by decide))
theorem ints_three (w : World) (a b c : Int) : SlRep (fun _ => True) (w.alloc (.cells #[.int .i64 a, .int .i64 b, .int .i64 c] 3)) (.slice (some ⟨w.heap.size, 0, none⟩) 3 3) [a, b, c] :=
  SlRep.of_ints (SlR.block (heap_new w _) 1 3 rfl (by decide))

/-- 'Expand'. -/
def expandR (L : List Nd) (secret : Int) (label : ByteArray) (context : Int) : Int × Int × List Nd :=
  if knownB L [secret, context] = true then
    (let r := textR L label
     if r.2.1 = 0 then ofR r.2.2 6 [secret, r.1, context] else (0, r.2.1, r.2.2))
  else (0, 1, L)

theorem cExpand_any (p : Nat) (F : Nat → Prop) (L : List Nd) (secret : Int) (label : ByteArray) (context : Int) (w : World) (hE : Env F w) (ha : IsArG 82 nkey w p F L) :
    Calls Tryz.prog 65 #[.pointer (some ⟨p, 0, none⟩), .int .i64 secret, .string label, .int .i64 context] w (TermPost 82 nkey p F w (expandR L secret label context)) := by
  obtain ⟨a0, c0, h0⟩ := ha.cell0
  generalize hr : expandR L secret label context = r
  unfold expandR knownB at hr
  cases hk : [secret, context].all (hasB L.length) with
  | false =>
    rw [hk, if_neg (by decide)] at hr
    subst hr
    have HK := Lib.hid hk
    have HA := Lib.hid ha
    have hB : Below w.heap.size w (w.alloc (.cells #[.int .i64 secret, .int .i64 context] 3)) := (Below.refl _ _).alloc (Nat.le_refl _) _
    have HB := Lib.hid hB
    clear hk ha hE hB
    go_enter Tryz.func65, Tryz.ntmps65
    go_wp2_with (go_at_call 83; refine (cKnown_any p (fun _ => True) a0 L.length c0 _ [secret, context] _ (cell_al _ h0) (ints_two w _ _)).mono ?_; rintro e w' ⟨rfl, rfl⟩; rw [HK.out])
    go_ret2
    exact ⟨rfl, F, HA.out.below HB.out, Ag.all HA.out HB.out⟩
  | true =>
    rw [hk, if_pos rfl] at hr
    have HK := Lib.hid hk
    have hB : Below w.heap.size w (w.alloc (.cells #[.int .i64 secret, .int .i64 context] 3)) := (Below.refl _ _).alloc (Nat.le_refl _) _
    have HB := Lib.hid hB
    have HT := Lib.hid (tText_any p F L label _ (hE.below hB) (ha.below hB))
    have HE := Lib.hid hE
    have HA := Lib.hid ha
    generalize textR L label = t at hr HT
    obtain ⟨t1, t2, L1⟩ := t
    dsimp only at hr
    by_cases h2 : t2 = 0
    · rw [if_pos h2] at hr
      have HR := Lib.hid hr
      subst h2
      clear hk ha hE hB hr
      go_enter Tryz.func65, Tryz.ntmps65
      go_wp2_with (first
        | (go_at_call 83; refine (cKnown_any p (fun _ => True) a0 L.length c0 _ [secret, context] _ (cell_al _ h0) (ints_two w _ _)).mono ?_; rintro e w' ⟨rfl, rfl⟩; rw [HK.out])
        | (go_at_call 64; refine HT.out.mono ?_; rintro e w1 ⟨rfl, F1, ha1, hs1⟩; have HA1 := Lib.hid ha1; have HS1 := Lib.hid ((Ag.all HA.out HB.out).trans hs1); clear ha1 hs1)
        | (go_at_call 84; refine (cOf_any p F1 (fun _ => True) L1 6 [secret, t1, context] _ _ ((HE.out.step HS1.out.st).below ((Below.refl _ _).alloc (Nat.le_refl _) _)) (HA1.out.below ((Below.refl _ _).alloc (Nat.le_refl _) _)) (ints_three w1 _ _ _)).mono ?_; rintro e w2 ⟨rfl, F2, ha2, hs2⟩))
      go_ret2
      exact ⟨ret_pair (by rw [← HR.out]) (by rw [← HR.out]), F2, by rw [← HR.out]; exact ha2, HS1.out.trans ((Ag.all HA1.out ((Below.refl _ _).alloc (Nat.le_refl _) _)).trans hs2)⟩
    · rw [if_neg h2] at hr
      have HR := Lib.hid hr
      have hd : (t2 != 0) = true := by simpa using h2
      clear hk ha hE hB hr h2
      go_enter Tryz.func65, Tryz.ntmps65
      go_wp2_with (first
        | (go_at_call 83; refine (cKnown_any p (fun _ => True) a0 L.length c0 _ [secret, context] _ (cell_al _ h0) (ints_two w _ _)).mono ?_; rintro e w' ⟨rfl, rfl⟩; rw [HK.out])
        | (go_at_call 64; refine HT.out.mono ?_; rintro e w1 ⟨rfl, F1, ha1, hs1⟩; have HA1 := Lib.hid ha1; have HS1 := Lib.hid ((Ag.all HA.out HB.out).trans hs1); clear ha1 hs1))
      go_ret2
      exact ⟨ret_pair (by rw [← HR.out]) (by rw [← HR.out]), F1, by rw [← HR.out]; exact HA1.out, HS1.out⟩
end Go.Proofs.YtnkndplbcbehkaaGreatDoor
