/-
  Layer 5 (deduce): the walks of 'closed', 'Derives', 'Known'. Layer 5 (deduce): the walk of 'Known'.
-/
import Derived.Test.YtnkndplbcbehkaaGreatDoorB4
set_option linter.unusedVariables false
set_option linter.unusedSimpArgs false

/-! Layer 5 (deduce): the walks of 'closed', 'Derives', 'Known'. -/
namespace Go.Proofs.YtnkndplbcbehkaaGreatDoor
open Go.RowKit Go.Cas
set_option maxHeartbeats 8000000
set_option maxRecDepth 20000

theorem useR_ok {L : List Nd} {us : List (List Int)} (h : UsOk L us) {x t : Int} (ht : 0 ≤ t ∧ t < L.length) : UsOk L (useR us x t) := by
  refine ⟨by unfold useR; rw [List.length_modify]; exact h.len, fun l hl => ?_⟩
  obtain ⟨i, hi, rfl⟩ := List.getElem_of_mem hl
  have h1 : (useR us x t)[i]? = some (useR us x t)[i] := List.getElem?_eq_getElem hi
  unfold useR at h1
  rw [List.getElem?_modify] at h1
  cases hu : us[i]? with
  | none => rw [hu] at h1; simp at h1
  | some l' =>
    rw [hu] at h1
    have hl' := h.parts l' (List.mem_of_getElem? hu)
    have e : (if x.toNat = i then l' ++ [t] else l') = (useR us x t)[i] := Option.some.inj h1
    rw [← e]
    split
    · intro y hy
      rw [List.mem_append, List.mem_singleton] at hy
      rcases hy with hy | rfl
      · exact hl' y hy
      · exact ht
    · exact hl'

theorem useF_ok {L : List Nd} {t : Int} (ht : 0 ≤ t ∧ t < L.length) : ∀ {l : List Int} {us : List (List Int)}, UsOk L us → UsOk L (l.foldl (fun us x => useR us x t) us)
  | [], _, h => h
  | x :: l, _, h => useF_ok ht (l := l) (useR_ok h (x := x) ht)

theorem usesK_ok (L : List Nd) : ∀ k, k ≤ L.length → UsOk L (usesK L k)
  | 0, _ => ⟨by simp [usesK], fun l hl => by rw [List.eq_of_mem_replicate hl]; intro t ht; cases ht⟩
  | k + 1, hk => by
    have h1 := usesK_ok L k (by omega)
    have ht : 0 ≤ (k : Int) ∧ (k : Int) < L.length := by omega
    have h2 := useF_ok ht (l := (ndF L k).l) h1
    show UsOk L (useXR L _ _ _)
    unfold useXR
    split
    · exact useR_ok h2 ht
    split
    · exact useR_ok h2 ht
    · exact h2

theorem usesR_ok (L : List Nd) : UsOk L (usesR L) := usesK_ok L _ (Nat.le_refl _)

/-- Which numbers are no terms'. -/
def badL (L : List Nd) (l : List Int) : Bool := l.any fun t => !hasB L.length t

theorem badL_false {L : List Nd} {l : List Int} (h : badL L l = false) : ∀ t ∈ l, 0 ≤ t ∧ t < L.length := by
  intro t ht
  have := List.any_eq_false.1 h t ht
  simpa [hasB] using this

/-- What 'closed' comes to: a space in which what can be derived stands, or an error. -/
def ClosedPost (w : World) (L : List Nd) (l : List Int) : Ending → World → Prop := fun e w' => Below w.heap.size w w' ∧
  ((badL L l = true ∧ e = .returned (.tuple #[.pointer none, .int .i64 1])) ∨
   (badL L l = false ∧ ∃ s x F vl vu ib vo, e = .returned (.tuple #[.pointer (some ⟨s, 0, none⟩), .int .i64 0]) ∧ Closed L l x ∧ IsSp w' s L (usesR L) x F vl vu ib vo ∧ ∀ b, F b → w.heap.size ≤ b))

theorem dClosed_any (p : Nat) (F0 K : Nat → Prop) (L : List Nd) (v : Value) (l : List Int) (w : World) (ha : IsArG 82 nkey w p F0 L) (h0 : 0 < L.length) (hl : SlRep K w v l) :
    Calls Tryz.prog 22 #[.pointer (some ⟨p, 0, none⟩), v] w (ClosedPost w L l) := by
  have hLK := dLook_any p F0 L w ha h0
  have hmk := ha.wf.mk
  obtain ⟨va, vc, hv⟩ := SlRep.intsAt hl
  obtain rfl := hv.form
  have HL := Lib.hid hl
  have HLK := Lib.hid hLK
  have HMK := Lib.hid hmk
  clear ha hLK hmk hl hv
  go_enter Tryz.func22, Tryz.ntmps22
  cases hbad : badL L l with
  | true =>
    have HBAD := Lib.hid hbad
    clear hbad
    go_wp2_with (first
      | (go_at_call 49; refine HLK.out.mono ?_; rintro e w1 ⟨s, vl, vu, ib, rfl, hb1, hs1, hlo⟩; have HB1 := Lib.hid hb1; have hb2 : Below w1.heap.size w1 (w1.alloc (.cells #[.pointer (some ⟨s, 0, none⟩)] 72)) := (Below.refl _ _).alloc (Nat.le_refl _) _; have HP := Lib.hid (containsInt_any 51 #[.pointer (some ⟨w1.heap.size, 0, none⟩)] (fun t => !hasB L.length t) K _ l (w1.alloc (.cells #[.pointer (some ⟨s, 0, none⟩)] 72)) ((HL.out.step (Kp.of_all hb1) (fun _ _ h => h)).step (Kp.of_all hb2) (fun _ _ h => h)) (fun t => dClosed1_any s w1.heap.size L (usesR L) _ _ vl vu ib _ t _ (hs1.bl hb2) (cell_new w1 72 rfl)) Tryz.call51); have hbd : l.any (fun t => !hasB L.length t) = true := HBAD.out; rw [hbd] at HP; have HB2 := Lib.hid hb2; clear hb1 hs1 hb2 hbd hlo)
      | (go_at_call 50; refine HP.out.mono ?_; rintro e w2 ⟨rfl, rfl⟩))
    go_ret2
    exact ⟨HB1.out.trans (HB2.out.mono HB1.out.size), .inl ⟨HBAD.out, rfl⟩⟩
  | false =>
    have HBAD := Lib.hid hbad
    clear hbad
    go_wp2_with (first
      | (go_at_call 49; refine HLK.out.mono ?_; rintro e w1 ⟨s, vl, vu, ib, rfl, hb1, hs1, hlo⟩; have HB1 := Lib.hid hb1; have hb2 : Below w1.heap.size w1 (w1.alloc (.cells #[.pointer (some ⟨s, 0, none⟩)] 72)) := (Below.refl _ _).alloc (Nat.le_refl _) _; have HP := Lib.hid (containsInt_any 51 #[.pointer (some ⟨w1.heap.size, 0, none⟩)] (fun t => !hasB L.length t) K _ l (w1.alloc (.cells #[.pointer (some ⟨s, 0, none⟩)] 72)) ((HL.out.step (Kp.of_all hb1) (fun _ _ h => h)).step (Kp.of_all hb2) (fun _ _ h => h)) (fun t => dClosed1_any s w1.heap.size L (usesR L) _ _ vl vu ib _ t _ (hs1.bl hb2) (cell_new w1 72 rfl)) Tryz.call51); have hbd : l.any (fun t => !hasB L.length t) = false := HBAD.out; rw [hbd] at HP; have HCL := Lib.hid (dClose_any s L (usesR L) _ vl vu ib _ _ l _ (hs1.bl hb2) HMK.out (usesR_ok L) h0 ((HL.out.step (Kp.of_all hb1) (K' := fun b => b < w.heap.size) (fun b hb _ => hb)).step (Kp.of_all hb2) (fun b _ hb hf => by rcases hf with h | h <;> omega)) (badL_false HBAD.out)); have HNF := Lib.hid (show ¬ (w1.heap.size = s ∨ w1.heap.size = ib) from fun hf => by have h1 := hs1.lt s (.inl rfl); have h2 := hs1.lt ib (.inr rfl); omega); have HB2 := Lib.hid hb2; have HLO := Lib.hid hlo; clear hb1 hs1 hb2 hbd hlo)
      | (go_at_call 50; refine HP.out.mono ?_; rintro e w2 ⟨rfl, rfl⟩)
      | (go_at_call 52; refine HCL.out.mono ?_; rintro e w2 ⟨rfl, k, x, hx1, hx2, hx3⟩; obtain ⟨F', vo', i2, st2, old2⟩ := hx3.ex; have hc := st2.kp.cell (K := fun b => ¬ (b = s ∨ b = ib)) HNF.out (cell_new w1 72 (c := #[.pointer (some ⟨s, 0, none⟩)]) (i := 0) rfl); have HCD := Lib.hid (show Closed L l x from ⟨k, hx1, hx2⟩); have HI2 := Lib.hid i2; have HST2 := Lib.hid st2; clear hx1 hx2 hx3 i2 st2 old2))
    go_ret2
    have hlo := HLO.out
    refine ⟨⟨HST2.out.kp.os.trans (HB2.out.os.trans HB1.out.os), HST2.out.kp.tape.trans (HB2.out.tape.trans HB1.out.tape), HST2.out.kp.output.trans (HB2.out.output.trans HB1.out.output), Nat.le_trans HB1.out.size (Nat.le_trans HB2.out.size HST2.out.kp.size), fun b hb => ?_⟩, .inr ⟨HBAD.out, s, x, F', vl, vu, ib, vo', rfl, HCD.out, HI2.out, fun b hb => ?_⟩⟩
    · have hb1 := Nat.lt_of_lt_of_le hb HB1.out.size
      rw [HST2.out.kp.block b (Nat.lt_of_lt_of_le hb1 HB2.out.size) (fun hf => by rcases hf with h | h <;> omega), HB2.out.block b hb1]
      exact HB1.out.block b hb
    · rcases HST2.out.new b hb with h | h
      · rcases h with h | h <;> omega
      · have := HB1.out.size; have := HB2.out.size; omega

/-- 'Derives'. -/
theorem dDerives_any (p : Nat) (F0 K : Nat → Prop) (L : List Nd) (v : Value) (l : List Int) (goal : Int) (w : World) (ha : IsArG 82 nkey w p F0 L) (h0 : 0 < L.length) (hl : SlRep K w v l) (hb : badL L l = false) (hg : 0 ≤ goal ∧ goal < L.length) :
    Calls Tryz.prog 11 #[.pointer (some ⟨p, 0, none⟩), v, .int .i64 goal] w fun e w' => ∃ x, e = .returned (.tuple #[.bool (x.has goal), .int .i64 0]) ∧ Closed L l x ∧ Below w.heap.size w w' := by
  have HC := Lib.hid (dClosed_any p F0 K L v l w ha h0 hl)
  have HBAD := Lib.hid hb
  obtain ⟨va, vc, hv⟩ := SlRep.intsAt hl
  obtain rfl := hv.form
  obtain ⟨hg0, hg1⟩ := hg
  clear ha hl hb hv
  go_enter Tryz.func11, Tryz.ntmps11
  go_wp2_with (first
    | (go_at_call 22; refine HC.out.mono ?_; rintro e w1 ⟨hb1, ⟨h1, _⟩ | ⟨_, s, x, F, vl, vu, ib, vo, rfl, hx, hs, hf⟩⟩; (exfalso; rw [HBAD.out] at h1; cases h1); obtain ⟨c0, c1, c2, c3⟩ := hs.cells; have ch := hs.has_cell (t := goal) ⟨hg0, hg1⟩; obtain ⟨la, lc, hlv, _⟩ := hs.l.form; subst hlv; have HX := Lib.hid hx; have HB1 := Lib.hid hb1; clear hx hs hf hb1))
  go_ret2
  exact ⟨_, rfl, HX.out, HB1.out⟩
end Go.Proofs.YtnkndplbcbehkaaGreatDoor

/-! Layer 5 (deduce): the walk of 'Known'. -/
namespace Go.Proofs.YtnkndplbcbehkaaGreatDoor
open Go.RowKit Go.Cas
set_option maxHeartbeats 8000000
set_option maxRecDepth 20000

def metS (met : List Bool) (l : List Int) : List Bool := l.foldl (fun m t => m.set t.toNat true) met
/-- Downwards through all terms: what a met one is made of is met. -/
def metD (L : List Nd) : Nat → List Bool → List Bool
  | 0, m => m
  | k + 1, m => metD L k (if m.getD k false = true then metS m (ndF L k).l else m)
def metR (L : List Nd) (l : List Int) : List Bool := metD L L.length (metS (List.replicate L.length false) l)
/-- What 'Known' tells. -/
def knownR (L : List Nd) (l : List Int) (x : Sp) : List Int := ((List.range L.length).filter (fun t => (metR L l).getD t false && x.has (t : Int))).map (fun t : Nat => (t : Int))

theorem metS_len : ∀ (l : List Int) (m : List Bool), (metS m l).length = m.length
  | [], _ => rfl
  | t :: l, m => by show (metS (m.set t.toNat true) l).length = _; rw [metS_len l]; simp

theorem metS_snoc (m : List Bool) (l : List Int) (t : Int) : metS m (l ++ [t]) = (metS m l).set t.toNat true := by simp [metS, List.foldl_append]

/-- What stands in Known's loops. -/
structure Kw (w1 wr : World) (mb : Nat) (met : List Bool) (n : Nat) : Prop where
  below : Below w1.heap.size w1 wr
  at_ : wr.heap[mb]? = some (.cells (boolCs met) 4 (0, 0))
  new : w1.heap.size ≤ mb
  len : met.length = n

theorem Kw.bl {w1 wr w' : World} {mb n : Nat} {met : List Bool} (h : Kw w1 wr mb met n) (hb : Below wr.heap.size wr w') : Kw w1 w' mb met n := ⟨h.below.trans (hb.mono h.below.size), heap_bl hb h.at_, h.new, h.len⟩

theorem Kw.set {w1 wr : World} {mb n : Nat} {met : List Bool} (h : Kw w1 wr mb met n) (i : Nat) : Kw w1 (wr.setCell ⟨mb, i, none⟩ (.bool true)) mb (met.set i true) n :=
  ⟨h.below.setCell h.new _, by rw [Lib.heap_setCell_same h.at_, boolCs_set], h.new, by simpa using h.len⟩

theorem Kw.cell {w1 wr : World} {mb n : Nat} {met : List Bool} (h : Kw w1 wr mb met n) {i : Nat} (hi : i < n) : wr.cell? ⟨mb, i, none⟩ = some (.bool (met.getD i false)) ∧ wr.frozen? ⟨mb, i, none⟩ = false := by
  refine ⟨?_, ?_⟩
  · rw [cell_of_row _ _ _ _ _ _ h.at_, boolCs_at, List.getD_eq_getElem?_getD, List.getElem?_eq_getElem (by rw [h.len]; exact hi)]; rfl
  · unfold World.frozen?; rw [h.at_]; simp

/-- The list that grows. -/
structure Ho (w wr : World) (v : Value) (l : List Int) : Prop where
  below : Below w.heap.size w wr
  own : wr.ownsRow w.heap.size 3 1 v l.length (l.map (Value.int .i64))

theorem Ho.bl {w wr w' : World} {v : Value} {l : List Int} (h : Ho w wr v l) (hb : Below wr.heap.size wr w') : Ho w w' v l :=
  ⟨h.below.trans (hb.mono h.below.size), own_below h.own hb⟩

theorem Ho.app {w wr w' : World} {v v' : Value} {l : List Int} {t : Int} (h : Ho w wr v l) (hg : wr.grownBy w' v.ownBlock) (ho : w'.ownsRow w.heap.size 3 1 v' (l.length + 1) (l.map (Value.int .i64) ++ [.int .i64 t])) : Ho w w' v' (l ++ [t]) := by
  refine ⟨⟨hg.os.trans h.below.os, hg.tape.trans h.below.tape, hg.output.trans h.below.output, Nat.le_trans h.below.size hg.size, fun k hk => ?_⟩, ?_⟩
  · rw [hg.block k (Nat.lt_of_lt_of_le hk h.below.size) (fun e => by have := (h.own.lt k e.symm).1; omega)]
    exact h.below.block k hk
  · rw [List.length_append, List.length_singleton, List.map_append]; exact ho

/-- What 'Known' tells, up to a number. -/
def knownK (L : List Nd) (l : List Int) (x : Sp) (k : Nat) : List Int := ((List.range k).filter (fun t => (metR L l).getD t false && x.has (t : Int))).map (fun t : Nat => (t : Int))

theorem knownK_succ (L : List Nd) (l : List Int) (x : Sp) (k : Nat) : knownK L l x (k + 1) = knownK L l x k ++ (if ((metR L l).getD k false && x.has (k : Int)) = true then [(k : Int)] else []) := by
  unfold knownK
  rw [List.range_succ, List.filter_append, List.map_append]
  congr 1
  rw [List.filter_cons]
  split
  · rfl
  · rfl

theorem knownK_len (L : List Nd) (l : List Int) (x : Sp) (k : Nat) : (knownK L l x k).length ≤ k := by
  unfold knownK
  rw [List.length_map]
  exact Nat.le_trans (List.length_filter_le _ _) (by simp)

theorem dKnown_any (p : Nat) (F0 K : Nat → Prop) (L : List Nd) (v : Value) (l : List Int) (w : World) (ha : IsArG 82 nkey w p F0 L) (h0 : 0 < L.length) (hl : SlRep K w v l) (hb : badL L l = false) :
    Calls Tryz.prog 9 #[.pointer (some ⟨p, 0, none⟩), v] w fun e w' => ∃ x v', e = .returned (.tuple #[v', .int .i64 0]) ∧ Closed L l x ∧ Below w.heap.size w w' ∧ w'.ownsRow w.heap.size 3 1 v' (knownR L l x).length ((knownR L l x).map (Value.int .i64)) := by
  have hbig := ha.len_le
  have hpt := ha.wf.mk.parts
  have HC := Lib.hid (dClosed_any p F0 K L v l w ha h0 hl)
  have hin := badL_false hb
  obtain ⟨mb, hmb, hmkB⟩ : ∃ mb : Array Value, mb = boolCs (List.replicate L.length false) ∧ ∀ W, (Instr.makeSlice 75 (.int .i64 (L.length : Int)) (.int .i64 (L.length : Int))).run Tryz.prog W = .ok (.slice (some ⟨W.heap.size, 0, none⟩) L.length L.length) (W.alloc (.cells mb 4)) := by
    refine ⟨madeCells #[.bool false] L.length, ?_, fun W => run_make_row' 75 4 (.bool false) 1 Tryz.underlying75 (by kernel_rfl) rfl .i64 .i64 L.length (by omega) (by omega) W⟩
    rw [made_one]; simp [boolCs]
  have HBAD := Lib.hid hb
  obtain ⟨va, vc, hv⟩ := SlRep.intsAt hl
  obtain rfl := hv.form
  have hvm := hv.max
  have HL := Lib.hid hl
  have HIN := Lib.hid hin
  have HPT := Lib.hid hpt
  have HMB := Lib.hid hmb
  have HBIG := Lib.hid hbig
  have hLm : L.length ≤ 9223372036854775807 := by omega
  clear ha hl hb hv hin hpt hmb hbig
  go_enter Tryz.func9, Tryz.ntmps9
  go_wp2_with (first
    | (go_at_call 22; refine HC.out.mono ?_; rintro e w1 ⟨hb1, ⟨h1, _⟩ | ⟨_, s, x, F, vl, vu, ib, vo, rfl, hx, hs, hf⟩⟩; (exfalso; rw [HBAD.out] at h1; cases h1); obtain ⟨c0, c1, c2, c3⟩ := hs.cells; obtain ⟨la, lc, hlv, _⟩ := hs.l.form; subst hlv; have HX := Lib.hid hx; have HB1 := Lib.hid hb1; have HS := Lib.hid hs; clear hx hs hf hb1))
  have hK0 : Kw w1 (w1.alloc (.cells mb 4)) w1.heap.size (List.replicate L.length false) L.length := ⟨(Below.refl _ _).alloc (Nat.le_refl _) _, by rw [HMB.out]; exact heap_new _ _, Nat.le_refl _, by simp⟩
  have HK0 := Lib.hid hK0
  clear hK0
  generalize w1.alloc (.cells mb 4) = w2 at HK0 ⊢
  generalize hmbq : w1.heap.size = mq at HK0 ⊢
  have HMQ := Lib.hid hmbq
  clear hmbq c0 c1 c2 c3
  go_loopw [34] (fun i wr => ∃ k : Nat, k ≤ l.length ∧ i = .int .i64 k ∧ Hid (Kw w1 wr mq (metS (List.replicate L.length false) (l.take k)) L.length)) (fun i _ => l.length - (intOf i).toNat)
  case atStart => exact ⟨0, Nat.zero_le _, rfl, HK0⟩
  case round =>
    clear HK0
    obtain ⟨k, hk, rfl, HK⟩ := hrel
    by_cases hlt : k < l.length
    · obtain ⟨b, off, rfl, hi⟩ := SlRep.get ((HL.out.step (Kp.of_all HB1.out) (fun _ _ h => h)).step (K' := K) (Kp.of_all HK.out.below) (fun _ _ h => h)) (by omega)
      obtain ⟨t, ht⟩ : ∃ t, l[k]? = some t := ⟨_, List.getElem?_eq_getElem hlt⟩
      have hcell := hi k t ht
      obtain ⟨ht0, ht1⟩ := HIN.out t (List.mem_of_getElem? ht)
      obtain ⟨m0, m1⟩ := HK.out.cell (i := t.toNat) (by omega)
      have hsn : metS (List.replicate L.length false) (l.take (k + 1)) = (metS (List.replicate L.length false) (l.take k)).set t.toNat true := by
        rw [List.take_add_one, ht]; exact metS_snoc _ _ _
      have HSN := Lib.hid hsn
      clear hi ht hsn
      go_wp2_with fail
      go_round
      case rel => exact ⟨k + 1, by omega, by go_num, Lib.hid (by rw [HSN.out]; exact HK.out.set _)⟩
      case measure => simp [intOf]; omega
    · obtain rfl : k = l.length := by omega
      rw [List.take_length] at HK
      have hs1 := HS.out.bl HK.out.below
      obtain ⟨c0, c1, c2, c3⟩ := hs1.cells
      clear hs1
      have hw64 : wrap64 ((L.length : Int) - 1) = (L.length : Int) - 1 := by have := HBIG.out; unfold wrap64; omega
      go_wp2_with fail
      go_loopw [11] (fun i wr => ∃ (k : Nat) (met : List Bool) (z : Int), k ≤ L.length ∧ z = (k : Int) - 1 ∧ i = .int .i64 z ∧ Hid (metD L k met = metR L l) ∧ Hid (Kw w1 wr mq met L.length)) (fun i _ => (intOf i + 1).toNat)
      case atStart => exact ⟨L.length, _, (L.length : Int) - 1, Nat.le_refl _, rfl, rfl, Lib.hid rfl, HK⟩
      case round =>
        clear HK c0 c1 c2 c3
        obtain ⟨k, met, z, hk, hz, rfl, HM, HK⟩ := hrel
        have hs1 := HS.out.bl HK.out.below
        obtain ⟨c0, c1, c2, c3⟩ := hs1.cells
        cases k with
        | zero =>
          obtain rfl : z = -1 := by omega
          clear hz
          have hme : met = metR L l := HM.out
          subst hme
          have HS1 := Lib.hid hs1
          clear hs1
          go_wp2_with fail
          go_loopw [14, 75] (fun o i wi => ∃ k : Nat, k ≤ L.length ∧ i = .int .i64 k ∧ Hid (Ho wr wi o (knownK L l x k))) (fun _ i _ => L.length - (intOf i).toNat)
          case atStart => exact ⟨0, Nat.zero_le _, rfl, Lib.hid ⟨Below.refl _ _, World.ownsRow_nil _ _ _ _⟩⟩
          case round =>
            clear c0 c1 c2 c3 HM
            obtain ⟨k, hk, rfl, HO⟩ := hrel
            obtain ⟨oa, oc, rfl⟩ := own_sl HO.out.own
            by_cases hlt : k < L.length
            · obtain ⟨m0, m1⟩ := (HK.out.bl HO.out.below).cell hlt
              have hs2 := HS1.out.bl HO.out.below
              obtain ⟨c0, c1, c2, c3⟩ := hs2.cells
              have hch := hs2.has_cell (t := (k : Int)) (by omega)
              rw [Int.toNat_natCast] at hch
              have hkl := knownK_len L l x k
              have hks := knownK_succ L l x k
              have hle := heap_new wr (.cells #[.int .i64 (k : Int)] 3)
              have hob := HO.out.bl ((Below.refl _ _).alloc (Nat.le_refl _) (.cells #[.int .i64 (k : Int)] 3))
              have HOB := Lib.hid hob
              have HLE := Lib.hid hle
              clear hs2 hob hle m1
              cases hme : (metR L l).getD k false with
              | false =>
                rw [hme] at m0
                rw [hme, Bool.false_and, if_neg (by decide), List.append_nil] at hks
                have HKS := Lib.hid hks
                clear hme hks
                go_wp2_with fail
                go_round
                case rel => exact ⟨k + 1, by omega, by go_num, Lib.hid (by rw [HKS.out]; exact HO.out)⟩
                case measure => simp [intOf]; omega
              | true =>
                rw [hme] at m0
                cases hhq : x.has (k : Int) with
                | false =>
                  rw [hhq] at hch
                  rw [hme, hhq, Bool.and_false, if_neg (by decide), List.append_nil] at hks
                  have HKS := Lib.hid hks
                  clear hme hks hhq
                  go_wp2_with fail
                  go_round
                  case rel => exact ⟨k + 1, by omega, by go_num, Lib.hid (by rw [HKS.out]; exact HO.out)⟩
                  case measure => simp [intOf]; omega
                | true =>
                  rw [hhq] at hch
                  rw [hme, hhq, Bool.and_true, if_pos rfl] at hks
                  have HKS := Lib.hid hks
                  clear hme hks hhq
                  generalize knownK L l x k = kl at *
                  go_wp2_with (at_builtin; refine wpList_append_sl rfl _ _ 24 rfl el_ints5 _ (.slice oa kl.length oc) _ _ rfl HOB.out.own (K := fun _ => True) (.slice (some ⟨wr.heap.size, 0, none⟩) 1 1) 1 [.int .i64 (k : Int)] rfl (SlR.block (cs := #[.int .i64 (k : Int)]) HLE.out 1 1 rfl (by decide)) (by simp [Value.oneCell']) (by have := HBIG.out; omega) (by have := HBIG.out; unfold maxLen; omega) HOB.out.below.size ?_; intro v6 w6 ho6 hg6 _ _; have HS6 := Lib.hid (HOB.out.app hg6 ho6); clear ho6 hg6)
                  go_round
                  case rel => exact ⟨k + 1, by omega, by go_num, Lib.hid (by rw [HKS.out]; exact HS6.out)⟩
                  case measure => simp [intOf]; omega
            · obtain rfl : k = L.length := by omega
              go_wp2_with fail
              go_ret2
              have hB := HB1.out.trans (HK.out.below.mono HB1.out.size)
              refine ⟨x, _, rfl, HX.out, hB.trans (HO.out.below.mono hB.size), ?_⟩
              refine ⟨HO.out.own.1, ?_⟩
              rcases HO.out.own.2 with hn | ⟨g, cap, cur, e, hg, rest⟩
              · exact .inl hn
              · exact .inr ⟨g, cap, cur, e, Nat.le_trans hB.size hg, rest⟩
        | succ k =>
          obtain rfl : z = (k : Int) := by omega
          clear hz
          have hw64 : wrap64 ((k : Int) - 1) = (k : Int) - 1 := by have := HBIG.out; unfold wrap64; omega
          obtain ⟨m0, m1⟩ := HK.out.cell (i := k) (by omega)
          have htb : 0 ≤ (k : Int) ∧ (k : Int) < L.length := by omega
          obtain ⟨_, _, _, e, hnd⟩ := HS.out.node h0
          cases e
          obtain ⟨nv, n0, n1, n2, n3, n4⟩ := hnd k htb
          rw [Int.toNat_natCast] at n0 n1 n2 n3
          replace n0 := cell_bl HK.out.below n0
          replace n1 := cell_bl HK.out.below n1
          replace n2 := cell_bl HK.out.below n2
          replace n3 := cell_bl HK.out.below n3
          have hmd : metD L (k + 1) met = metD L k (if met.getD k false = true then metS met (ndF L k).l else met) := rfl
          have hpt := HPT.out _ (ndF_mem htb).1
          obtain ⟨na, nlc, hN⟩ := SlRep.intsAt n4
          obtain rfl := hN.form
          have hnm := hN.max
          rw [HM.out] at hmd
          have HMD := Lib.hid hmd
          have HN4 := Lib.hid n4
          have HPT2 := Lib.hid hpt
          clear hnd n4 hN hmd hs1 hpt
          generalize ndF L k = nd at *
          cases hme : met.getD k false with
          | false =>
            rw [hme] at m0
            have hmd := HMD.out
            rw [hme, if_neg (by decide)] at hmd
            have HMD2 := Lib.hid hmd.symm
            clear hme hmd
            go_wp2_with fail
            go_round
            case rel => exact ⟨k, _, _, by omega, rfl, by go_num, HMD2, HK⟩
            case measure => simp [intOf]; try omega
          | true =>
            rw [hme] at m0
            have hmd := HMD.out
            rw [hme, if_pos rfl] at hmd
            have HMD2 := Lib.hid hmd.symm
            clear hme hmd
            go_wp2_with fail
            go_loopw [65] (fun i wi => ∃ j : Nat, j ≤ nd.l.length ∧ i = .int .i64 j ∧ Hid (Kw w1 wi mq (metS met (nd.l.take j)) L.length)) (fun i _ => nd.l.length - (intOf i).toNat)
            case atStart => exact ⟨0, Nat.zero_le _, rfl, HK⟩
            case round =>
              clear c0 c1 c2 c3 n0 n1 n2 n3 m0 m1
              obtain ⟨j, hj, rfl, HJ⟩ := hrel
              by_cases hjt : j < nd.l.length
              · obtain ⟨b, off, rfl, hi⟩ := SlRep.get (HN4.out.step (Kp.of_all HJ.out.below) (fun _ _ h => h)) (by omega)
                obtain ⟨t, ht⟩ : ∃ t, nd.l[j]? = some t := ⟨_, List.getElem?_eq_getElem hjt⟩
                have hcell := hi j t ht
                obtain ⟨ht0, ht1⟩ := HPT2.out t (List.mem_of_getElem? ht)
                obtain ⟨m0, m1⟩ := HJ.out.cell (i := t.toNat) (by omega)
                have hsn : metS met (nd.l.take (j + 1)) = (metS met (nd.l.take j)).set t.toNat true := by
                  rw [List.take_add_one, ht]; exact metS_snoc _ _ _
                have HSN := Lib.hid hsn
                clear hi ht hsn
                go_wp2_with fail
                go_round
                case rel => exact ⟨j + 1, by omega, by go_num, Lib.hid (by rw [HSN.out]; exact HJ.out.set _)⟩
                case measure => simp [intOf]; omega
              · obtain rfl : j = nd.l.length := by omega
                rw [List.take_length] at HJ
                go_wp2_with fail
                go_round
                case rel => exact ⟨k, _, _, by omega, rfl, rfl, HMD2, HJ⟩
                case measure => simp [intOf]; try omega
end Go.Proofs.YtnkndplbcbehkaaGreatDoor
