/-
  Layer 3 (term): the walk of 'Make'.
-/
import Derived.Test.YtnkndplbcbehkaaGreatDoorMay
import Derived.Test.YtnkndplbcbehkaaGreatDoorKey
import Derived.Deep.RegionHeld3
set_option linter.unusedVariables false
set_option linter.unusedSimpArgs false
namespace Go.Proofs.YtnkndplbcbehkaaGreatDoor
open Go.RowKit Go.Cas
set_option maxHeartbeats 400000
set_option maxRecDepth 20000

theorem el_nodes : ElemT Tryz.prog 76 54 4 56 := ElemT.mk' Tryz.underlying76 (by kernel_rfl) (by decide)
theorem str_keyed : Maps.Keyed Tryz.prog 9 := Maps.string_keyed Tryz.underlying9

/-- The blocks of the arena itself. -/
def ArB (w : World) (p : Nat) : Nat → Prop := fun b => b = p ∨ ∃ v m T fr, w.heap[p]? = some (.cells #[v, .map (some m)] T fr) ∧ (b = m ∨ v.ownBlock = some b)

/-- What a call on an arena changes: no more than the arena's own blocks. -/
structure Ag (p : Nat) (F : Nat → Prop) (w : World) (F' : Nat → Prop) (w' : World) : Prop where
  st : St F w F' w'
  old : ∀ b, F b → F' b
  ar : St (ArB w p) w (ArB w' p) w'

theorem Ag.trans {p : Nat} {F F' F'' : Nat → Prop} {w w' w'' : World} (h : Ag p F w F' w') (k : Ag p F' w' F'' w'') : Ag p F w F'' w'' :=
  ⟨h.st.trans k.st, fun b hb => k.old b (h.old b hb), h.ar.trans k.ar⟩

/-- What a call that makes a term comes to: its number, its error, the arena. -/
def TermPost (T : TypeId) (key : Nd → List UInt8) (p : Nat) (F : Nat → Prop) (w : World) (r : Int × Int × List Nd) : Ending → World → Prop := fun e w' =>
  e = .returned (.tuple #[.int .i64 r.1, .int .i64 r.2.1]) ∧ ∃ F', IsArG T key w' p F' r.2.2 ∧ Ag p F w F' w'

/-- What 'Make' of an arena comes to. -/
def MakePost (T : TypeId) (key : Nd → List UInt8) (p : Nat) (F : Nat → Prop) (w : World) (L : List Nd) (x : Nd) : Ending → World → Prop := fun e w' =>
  e = .returned (.tuple #[.int .i64 (makeR L x).1, .int .i64 (makeR L x).2.1]) ∧ ∃ F', IsArG T key w' p F' (makeR L x).2.2 ∧ Ag p F w F' w'

theorem Env.below {F : Nat → Prop} {w w' : World} (h : Env F w) (hb : Below w.heap.size w w') : Env F w' := by
  obtain ⟨h1, h2, h3, h4⟩ := h
  exact ⟨(Lib.tabBelow_of_tabIs h1).on hb |>.here, h2, fun j hj => cell_bl hb (h3 j hj), h4⟩

theorem Env.step {F F' : Nat → Prop} {w w' : World} (h : Env F w) (hs : St F w F' w') : Env F' w' := by
  obtain ⟨h1, h2, h3, h4⟩ := h
  have hlt1 : 1 < w.heap.size := World.block_lt_of_cell? w _ (h3 0 (by decide))
  refine ⟨?_, fun g hg => ?_, fun j hj => hs.kp.cell (K := fun k => ¬ F k) h4 (h3 j hj), hs.not hlt1 h4⟩
  · unfold Lib.TabIs World.var? at *
    cases hg : Tryz.prog.globalNamed "internal/strconv.uint64pow10" with
    | none => simp [hg] at h1
    | some g =>
      simp only [hg, Option.bind_some] at h1 ⊢
      have hlt : g < w.heap.size := by
        rcases Nat.lt_or_ge g w.heap.size with h' | h'
        · exact h'
        · rw [Array.getElem?_eq_none h'] at h1; simp at h1
      rw [hs.kp.block g hlt (h2 g hg)]
      exact h1
  · unfold Lib.TabIs World.var? at h1
    simp only [hg, Option.bind_some] at h1
    have hlt : g < w.heap.size := by
      rcases Nat.lt_or_ge g w.heap.size with h' | h'
      · exact h'
      · rw [Array.getElem?_eq_none h'] at h1; simp at h1
    exact hs.not hlt (h2 g hg)

theorem IsArG.below {T : TypeId} {key : Nd → List UInt8} {w w' : World} {p : Nat} {F : Nat → Prop} {L : List Nd} (h : IsArG T key w p F L) (hb : Below w.heap.size w w') : IsArG T key w' p F L := by
  obtain ⟨v, m, xs, h0, h1, h2, h3, h4, h5, h6, h7, h8⟩ := h
  refine ⟨v, m, xs, heap_bl hb h0, own_below h1 hb, h2.step (Kp.of_all hb) (fun _ _ h => h), ?_, h4, h5, h6, fun b hb' => Nat.lt_of_lt_of_le (h7 b hb') hb.size, h8⟩
  obtain ⟨es, clock, hm, r⟩ := h3
  exact ⟨es, clock, heap_bl hb hm, r⟩

theorem IsArG.arB {T : TypeId} {key : Nd → List UInt8} {w : World} {p : Nat} {F : Nat → Prop} {L : List Nd} (h : IsArG T key w p F L) {b : Nat} (hb : ArB w p b) : F b := by
  obtain ⟨v, m, xs, h0, h1, h2, h3, h4, h5, h6, h7, h8⟩ := h
  rcases hb with rfl | ⟨v', m', T', fr, hh, hb⟩
  · exact h4
  · rw [h0] at hh
    simp only [Option.some.injEq, Obj.cells.injEq] at hh
    have e := congrArg Array.toList hh.1
    simp only [List.cons.injEq, Value.map.injEq, Option.some.injEq] at e
    rcases hb with rfl | hb
    · rw [← e.2.1]; exact h5
    · exact h6 b (e.1 ▸ hb)

theorem arB_lt {w : World} {p : Nat} {w' : World} (hb : w'.heap[p]? = w.heap[p]?) : ArB w' p = ArB w p := by
  unfold ArB; rw [hb]

theorem Ag.all {T : TypeId} {key : Nd → List UInt8} {w w' : World} {p : Nat} {F : Nat → Prop} {L : List Nd} (h : IsArG T key w p F L) (hb : Below w.heap.size w w') : Ag p F w F w' := by
  refine ⟨St.all hb, fun _ h => h, ?_⟩
  obtain ⟨v, m, xs, h0, _⟩ := h
  have hp := heap_lt h0
  rw [arB_lt (hb.block p hp)]
  exact St.all hb

theorem ret_pair {a b c d : Int} (h1 : a = c) (h2 : b = d) : Ending.returned (.tuple #[.int .i64 a, .int .i64 b]) = .returned (.tuple #[.int .i64 c, .int .i64 d]) := by rw [h1, h2]

theorem tMake_no (p : Nat) (F K : Nat → Prop) (L : List Nd) (x : Nd) (v : Value) (w : World) (ha : IsArG 82 nkey w p F L) (hl : SlRep K w v x.l) (hm : mayB L x = false) :
    Calls Tryz.prog 14 #[.pointer (some ⟨p, 0, none⟩), .agg #[.int .i64 x.op, .int .i64 x.n, .string x.s, v]] w (MakePost 82 nkey p F w L x) := by
  have HM := Lib.hid hm
  have HA := Lib.hid ha
  have HL := Lib.hid hl
  have hp : p < w.heap.size := by obtain ⟨a, c, h⟩ := ha.cell0; exact World.block_lt_of_cell? w _ h
  clear hm ha hl
  go_enter Tryz.func14, Tryz.ntmps14
  go_wp2_with (go_at_call 23; refine (tMay_any nkey p F L K x v _ (HA.out.below ((Below.refl _ _).alloc (Nat.le_refl _) _)) (HL.out.step ((Kp.refl _ _).alloc _) (fun _ _ h => h))).mono ?_; rintro e w1 ⟨rfl, hb1⟩; rw [HM.out])
  go_ret2
  have hB : Below w.heap.size w w1 := ((Below.refl _ _).alloc (Nat.le_refl _) _).trans (hb1.mono (by simp))
  refine ⟨?_, F, ?_, Ag.all HA.out hB⟩
  · simp [makeR, HM.out]
  · simp only [makeR, HM.out, Bool.false_eq_true, if_false]; exact HA.out.below hB
theorem nkey_size {x : Nd} (hx : Good x) : (⟨(nkey x).toArray⟩ : ByteArray).size ≤ maxLen := by
  have h := keyTo_len x.op (x.n :: x.l) (by have := hx.op; omega) (fun y hy => by
    rcases List.mem_cons.1 hy with e | e
    · rw [e]; have := hx.n; omega
    · have := hx.l y e; omega) (x.l.length + 1) (by simp)
  have h2 : (nkey x).length = (keyTo x.op (x.n :: x.l) (x.l.length + 1)).length + 1 + x.s.size := by
    unfold nkey keyTo
    rw [List.take_of_length_le (by simp)]
    simp only [List.length_append, List.length_cons, Array.length_toList]
    show _ = _ + 1 + x.s.data.size
    omega
  have := hx.len; have := hx.s
  show (nkey x).toArray.size ≤ maxLen
  unfold maxLen
  simp only [List.size_toArray, h2]; omega

theorem nkey_keyOf {x : Nd} (hx : Good x) : keyOf Tryz.prog 9 (.string ⟨(nkey x).toArray⟩) = some (.string (nkey x)) := by
  have := WideMaps.keyOf_string_mk Tryz.underlying9 (nkey_size hx)
  simpa using this

theorem idx_get {L : List Nd} {x : Nd} {i : Nat} (h : L.idxOf? x = some i) : L[i]? = some x := by
  unfold List.idxOf? at h
  rw [List.findIdx?_eq_some_iff_getElem] at h
  obtain ⟨hi, hq, _⟩ := h
  rw [List.getElem?_eq_getElem hi]
  simpa using hq
theorem idx_none {L : List Nd} {x : Nd} (h : L.idxOf? x = none) : x ∉ L := by
  unfold List.idxOf? at h
  rw [List.findIdx?_eq_none_iff] at h
  intro hx
  simpa using h x hx

set_option maxHeartbeats 1000000 in
/-- It is there already. -/
theorem tMake_had (p : Nat) (F K : Nat → Prop) (L : List Nd) (x : Nd) (v : Value) (w : World) (hE : Env F w) (ha : IsArG 82 nkey w p F L) (hl : SlRep K w v x.l) (hm : mayB L x = true) (hn : x.n ≤ 9223372036854775807)
    (i : Nat) (hi : L.idxOf? x = some i) :
    Calls Tryz.prog 14 #[.pointer (some ⟨p, 0, none⟩), .agg #[.int .i64 x.op, .int .i64 x.n, .string x.s, v]] w (MakePost 82 nkey p F w L x) := by
  have HM := Lib.hid hm
  have HA := Lib.hid ha
  have HL := Lib.hid hl
  have HE := Lib.hid hE
  have HI := Lib.hid hi
  have HG := Lib.hid (mayB_good hm hn ha.len_le)
  have hp : p < w.heap.size := by obtain ⟨a, c, h⟩ := ha.cell0; exact World.block_lt_of_cell? w _ h
  clear hm ha hl hE hi
  go_enter Tryz.func14, Tryz.ntmps14
  go_wp2_with (go_at_call 23; refine (tMay_any nkey p F L K x v _ (HA.out.below ((Below.refl _ _).alloc (Nat.le_refl _) _)) (HL.out.step ((Kp.refl _ _).alloc _) (fun _ _ h => h))).mono ?_; rintro e w1 ⟨rfl, hb1⟩; rw [HM.out]; obtain ⟨hc1, hf1⟩ := bcell hb1)
  have hB1 : Below w.heap.size w w1 := ((Below.refl _ _).alloc (Nat.le_refl _) _).trans (hb1.mono (by simp))
  have HB1 := Lib.hid hB1
  clear hB1
  refine (tKey_any K F x v _ (HE.out.below HB1.out) (HL.out.step (Kp.of_all HB1.out) (fun _ _ h => h)) HG.out.len HG.out.s (by have := HG.out.op; omega) HG.out.n (fun y hy => by have := HG.out.l y hy; omega)).mono ?_
  rintro e w2 ⟨rfl, hb2⟩
  have HB2 := Lib.hid (HB1.out.trans (hb2.mono HB1.out.size))
  have HKO := Lib.hid (nkey_keyOf HG.out)
  generalize hks : (⟨(nkey x).toArray⟩ : ByteArray) = ks at HKO ⊢
  clear hks hb2 hc1 hf1 hb1
  obtain ⟨v0, m, xs, g0, g1, g2, g3, gF⟩ := HA.out.below HB2.out
  have c0 : w2.cell? ⟨p, 1, none⟩ = some (.map (some m)) := by rw [cell_of_row w2 p 1 _ _ _ g0]; rfl
  have hlook := (keyMap_look nkey (fun _ _ => nkey_inj) x HG.out L gF.2.2.2.2.2.1 (fun y hy => gF.2.2.2.2.2.good gF.2.2.2.2.1 hy)).2 i (idx_get HI.out)
  have HLK := Lib.hid hlook
  have G3 := Lib.hid g3
  clear hlook g0 g1 g2 g3 gF
  go_wp2_with (at_lookup; refine wpList_lookup_own_ok_int _ rfl _ _ 80 rfl 9 3 .i64 str_keyed Tryz.underlying80 Tryz.underlying3 (Tryz.zeroValue3 _) m L.length (keyMap nkey L) rfl G3.out _ (.string (nkey x)) rfl HKO.out ?_; intro c hat hwc; rw [HLK.out.1]; rw [HLK.out.2] at hat; simp only [DataW.lit.injEq, Lit.int.injEq, true_and] at hat; obtain rfl : (i : Int) = c := hat)
  go_ret2
  refine ⟨?_, F, ?_, Ag.all HA.out HB2.out⟩
  · exact ret_pair (by simp [makeR, HM.out, HI.out]) (by simp [makeR, HM.out, HI.out])
  · simp only [makeR, HM.out, if_true, HI.out]; exact HA.out.below HB2.out
set_option maxHeartbeats 1000000 in
/-- The arena is full. -/
theorem tMake_full (p : Nat) (F K : Nat → Prop) (L : List Nd) (x : Nd) (v : Value) (w : World) (hE : Env F w) (ha : IsArG 82 nkey w p F L) (hl : SlRep K w v x.l) (hm : mayB L x = true) (hn : x.n ≤ 9223372036854775807)
    (hi : L.idxOf? x = none) (hfull : 100000 ≤ L.length) :
    Calls Tryz.prog 14 #[.pointer (some ⟨p, 0, none⟩), .agg #[.int .i64 x.op, .int .i64 x.n, .string x.s, v]] w (MakePost 82 nkey p F w L x) := by
  have HM := Lib.hid hm
  have HA := Lib.hid ha
  have HL := Lib.hid hl
  have HE := Lib.hid hE
  have HI := Lib.hid hi
  have HG := Lib.hid (mayB_good hm hn ha.len_le)
  have hp : p < w.heap.size := by obtain ⟨a, c, h⟩ := ha.cell0; exact World.block_lt_of_cell? w _ h
  clear hm ha hl hE hi
  go_enter Tryz.func14, Tryz.ntmps14
  go_wp2_with (go_at_call 23; refine (tMay_any nkey p F L K x v _ (HA.out.below ((Below.refl _ _).alloc (Nat.le_refl _) _)) (HL.out.step ((Kp.refl _ _).alloc _) (fun _ _ h => h))).mono ?_; rintro e w1 ⟨rfl, hb1⟩; rw [HM.out]; obtain ⟨hc1, hf1⟩ := bcell hb1)
  have hB1 : Below w.heap.size w w1 := ((Below.refl _ _).alloc (Nat.le_refl _) _).trans (hb1.mono (by simp))
  have HB1 := Lib.hid hB1
  clear hB1
  refine (tKey_any K F x v _ (HE.out.below HB1.out) (HL.out.step (Kp.of_all HB1.out) (fun _ _ h => h)) HG.out.len HG.out.s (by have := HG.out.op; omega) HG.out.n (fun y hy => by have := HG.out.l y hy; omega)).mono ?_
  rintro e w2 ⟨rfl, hb2⟩
  have HB2 := Lib.hid (HB1.out.trans (hb2.mono HB1.out.size))
  have HKO := Lib.hid (nkey_keyOf HG.out)
  generalize hks : (⟨(nkey x).toArray⟩ : ByteArray) = ks at HKO ⊢
  clear hks hb2 hc1 hf1 hb1
  obtain ⟨v0, m, xs, g0, g1, g2, g3, gF⟩ := HA.out.below HB2.out
  have c0 : w2.cell? ⟨p, 1, none⟩ = some (.map (some m)) := by rw [cell_of_row w2 p 1 _ _ _ g0]; rfl
  have hlook := (keyMap_look nkey (fun _ _ => nkey_inj) x HG.out L gF.2.2.2.2.2.1 (fun y hy => gF.2.2.2.2.2.good gF.2.2.2.2.1 hy)).1 (idx_none HI.out)
  obtain ⟨a9, c9, h9⟩ := (HA.out.below HB2.out).cell0
  have hd9 : decide ((100000 : Int) ≤ (L.length : Int)) = true := by simp; omega
  have HFU := Lib.hid hfull
  clear hfull
  have HLK := Lib.hid hlook
  have G3 := Lib.hid g3
  clear hlook g0 g1 g2 g3 gF
  go_wp2_with (at_lookup; refine wpList_lookup_own_ok_int _ rfl _ _ 80 rfl 9 3 .i64 str_keyed Tryz.underlying80 Tryz.underlying3 (Tryz.zeroValue3 _) m L.length (keyMap nkey L) rfl G3.out _ (.string (nkey x)) rfl HKO.out ?_; intro c hat hwc; rw [HLK.out]; clear hat hwc)
  go_ret2
  refine ⟨?_, F, ?_, Ag.all HA.out HB2.out⟩
  · exact ret_pair (by simp [makeR, HM.out, HI.out, HFU.out]) (by simp [makeR, HM.out, HI.out, HFU.out])
  · simp only [makeR, HM.out, if_true, HI.out, if_pos HFU.out]; exact HA.out.below HB2.out
theorem grownBy_drew {w w' : World} {r : Option Nat} (h : w.drew.grownBy w' r) : w.grownBy w' r := ⟨h.os, h.tape, h.output, h.size, h.block⟩
theorem own_ne_map {w : World} {b : Nat} {e : TypeId} {sz : Nat} {v : Value} {n : Nat} {xs : List Value} (h : w.ownsRow b e sz v n xs) {k : Nat} {es : Array MapEntry} {ck : Nat}
    (hk : w.heap[k]? = some (.map es ck)) : some k ≠ v.ownBlock := by
  intro e
  rcases h.2 with ⟨rfl, _⟩ | ⟨g, cap, cur, rfl, _, hg, _⟩
  · cases e
  · simp [Value.ownBlock] at e; subst e; rw [hk] at hg; cases hg

/-- The arena behind 'Make', put together: w4 holds the node's copy, w6 the longer row, w8 the map's new entry. -/
theorem make_fin0 {T : TypeId} {key : Nd → List UInt8} {w w4 w6 w8 : World} {p m1 g6 c6 : Nat} {F K4 : Nat → Prop} {L : List Nd} {x : Nd} {v1 v2 : Value} {xs1 : List Value} {X : Obj}
    (hT : T ≠ 54) (hx : x ∉ L) (hm : mayB L x = true) (hn : x.n ≤ 9223372036854775807) (hroom : L.length < 100000) (hFw : ∀ b, F b → b < w.heap.size) (hB4 : Below w.heap.size w w4)
    (g0 : w4.heap[p]? = some (.cells #[v1, .map (some m1)] T (0, 0))) (g1 : w4.ownsRow 0 54 4 v1 L.length xs1) (g2 : Reps (fun b => ¬ F b) w4 xs1 L) (gW : Wf L)
    (f0 : F p) (f1 : F m1) (f2 : ∀ b, v1.ownBlock = some b → F b)
    (hs4 : SlRep K4 w4 v2 x.l) (hK4 : ∀ b, K4 b → w.heap.size ≤ b)
    (ho6 : w6.ownsRow 0 54 4 (.slice (some ⟨g6, 0, none⟩) (L.length + 1) c6) (L.length + 1) (xs1 ++ [.int .i64 x.op, .int .i64 x.n, .string x.s, v2]))
    (hg6 : (w4.alloc X).grownBy w6 v1.ownBlock) (hat6 : (Value.slice (some ⟨g6, 0, none⟩) (L.length + 1) c6).ownBlock = v1.ownBlock ∨ (Value.slice (some ⟨g6, 0, none⟩) (L.length + 1) c6).ownBlock = some (w4.heap.size + 1))
    (ho8 : w8.ownsMap Tryz.prog 9 (plainElem Tryz.prog 3) m1 (L.length + 1) ((keyMap key L).put (.string (key x)) (.lit (.int .i64 L.length))))
    (hm1 : ∃ es ck, w4.heap[m1]? = some (.map es ck))
    (hg8 : (w6.setCell ⟨p, 0, none⟩ (.slice (some ⟨g6, 0, none⟩) (L.length + 1) c6)).grownBy w8 (some m1)) :
    ∃ F', IsArG T key w8 p F' (L ++ [x]) ∧ St F w F' w8 ∧ ∀ b, F b → F' b := by
  obtain ⟨es, ck, hm1⟩ := hm1
  have hw4 : w.heap.size ≤ w4.heap.size := hB4.size
  have hs6 : w4.heap.size + 1 ≤ w6.heap.size := by have := hg6.size; simpa using this
  have hs8 : w6.heap.size ≤ w8.heap.size := by have := hg8.size; simpa using this
  have pm : p ≠ m1 := by intro e; rw [e, hm1] at g0; cases g0
  -- from w4 on
  have k46 : Kp (fun k => some k ≠ v1.ownBlock) w4 w6 := ((Kp.refl _ _).alloc X).trans' (Kp.of_grown (K := fun k => some k ≠ v1.ownBlock) hg6 fun _ _ h => h) fun _ _ h => h
  have k68 : Kp (fun k => k ≠ p ∧ k ≠ m1) w6 w8 := ((Kp.refl _ _).setCell (K := fun k => k ≠ p ∧ k ≠ m1) (p := ⟨p, 0, none⟩) (fun _ h => h.1 rfl) _).trans' (Kp.of_grown (K := fun k => k ≠ m1) hg8 fun _ _ h e => h (Option.some.inj e)) fun _ _ h => h.2
  have k48 : Kp (fun k => ¬ F k) w4 w8 := (k46.mono fun i _ hi e => hi (f2 i e.symm)).trans' k68 fun i _ hi => ⟨fun e => hi (e ▸ f0), fun e => hi (e ▸ f1)⟩
  have n1 : some p ≠ v1.ownBlock := own_ne g1 g0 hT
  have hg6F : F g6 ∨ g6 = w4.heap.size + 1 := by
    rcases hat6 with h | h
    · exact .inl (f2 g6 h.symm)
    · right; simpa [Value.ownBlock] using h
  have p6 : w6.heap[p]? = some (.cells #[v1, .map (some m1)] T (0, 0)) := k46.heap (K := fun k => some k ≠ v1.ownBlock) n1 g0
  have p7 := heap_setCell_same w6 p 0 _ _ (.slice (some ⟨g6, 0, none⟩) (L.length + 1) c6) p6
  have p8 : w8.heap[p]? = some (.cells #[.slice (some ⟨g6, 0, none⟩) (L.length + 1) c6, .map (some m1)] T (0, 0)) := heap_grown hg8 p7 (by simpa using pm)
  have g6p : g6 ≠ p := by
    intro e
    have := own_ne ho6 (k := p) p6 hT
    exact this (by simp [Value.ownBlock, e])
  have m6 : w6.heap[m1]? = some (.map es ck) := k46.heap (K := fun k => some k ≠ v1.ownBlock) (by
    intro e
    rcases g1.2 with ⟨rfl, _⟩ | ⟨g, cap, cur, rfl, _, hg, _⟩
    · cases e
    · simp [Value.ownBlock] at e; subst e; rw [hm1] at hg; cases hg) hm1
  have g6m : g6 ≠ m1 := by
    intro e
    rcases ho6.2 with ⟨h, _⟩ | ⟨g, cap, cur, h, _, hg, _⟩
    · cases h
    · simp only [Value.slice.injEq, Option.some.injEq, Addr.mk.injEq] at h
      rw [← h.1.1, e, m6] at hg; cases hg
  refine ⟨fun b => F b ∨ b = g6, ⟨.slice (some ⟨g6, 0, none⟩) (L.length + 1) c6, m1, xs1 ++ [.int .i64 x.op, .int .i64 x.n, .string x.s, v2], p8, ?_, ?_, ?_, .inl f0, .inl f1, fun b hb => ?_, fun b hb => ?_, ?_, ?_⟩, ⟨?_, fun b hb => ?_⟩, fun b hb => .inl hb⟩
  · rw [List.length_append]
    exact own_block ho6 fun k hk => by
      have : k = g6 := by simpa [Value.ownBlock] using hk.symm
      subst this
      exact k68.block k (ho6.lt k hk).2 ⟨g6p, g6m⟩
  · have hkk : ∀ b, b < w4.heap.size → ¬ F b → ¬ (F b ∨ b = g6) := fun b hb hf h => by
      rcases h with h | h
      · exact hf h
      · rcases hg6F with h' | h'
        · exact hf (h ▸ h')
        · omega
    refine Reps.append (Reps.single (α := Nd) ⟨v2, rfl, ?_⟩) (g2.step k48 hkk)
    exact hs4.step (k48.mono fun i _ hi hf => by have := hFw i hf; have := hK4 i hi; omega) (fun b hb hk => hkk b hb (fun hf => by have := hFw b hf; have := hK4 b hk; omega))
  · rw [List.length_append, keyMap_snoc]; exact ho8
  · right; simpa [Value.ownBlock] using hb.symm
  · rcases hb with hb | hb
    · have := hFw b hb; omega
    · subst hb; have := (ho6.lt b rfl).2; omega
  · rw [List.length_append]; simp; omega
  · exact gW.snoc hx hm hn
  · exact (Kp.of_below (K := fun k => ¬ F k) hB4 (fun i hi _ => hi)).trans k48
  · rcases hb with hb | hb
    · exact .inl hb
    · rcases hg6F with h' | h'
      · exact .inl (hb ▸ h')
      · right; omega

theorem make_fin {T : TypeId} {key : Nd → List UInt8} {w w4 w6 w8 : World} {p m1 g6 c6 : Nat} {F K4 : Nat → Prop} {L : List Nd} {x : Nd} {v1 v2 : Value} {xs1 : List Value} {X : Obj}
    (hT : T ≠ 54) (hx : x ∉ L) (hm : mayB L x = true) (hn : x.n ≤ 9223372036854775807) (hroom : L.length < 100000) (hFw : ∀ b, F b → b < w.heap.size) (hB4 : Below w.heap.size w w4)
    (g0 : w4.heap[p]? = some (.cells #[v1, .map (some m1)] T (0, 0))) (g1 : w4.ownsRow 0 54 4 v1 L.length xs1) (g2 : Reps (fun b => ¬ F b) w4 xs1 L) (gW : Wf L)
    (f0 : F p) (f1 : F m1) (f2 : ∀ b, v1.ownBlock = some b → F b)
    (hs4 : SlRep K4 w4 v2 x.l) (hK4 : ∀ b, K4 b → w.heap.size ≤ b)
    (ho6 : w6.ownsRow 0 54 4 (.slice (some ⟨g6, 0, none⟩) (L.length + 1) c6) (L.length + 1) (xs1 ++ [.int .i64 x.op, .int .i64 x.n, .string x.s, v2]))
    (hg6 : (w4.alloc X).grownBy w6 v1.ownBlock) (hat6 : (Value.slice (some ⟨g6, 0, none⟩) (L.length + 1) c6).ownBlock = v1.ownBlock ∨ (Value.slice (some ⟨g6, 0, none⟩) (L.length + 1) c6).ownBlock = some (w4.heap.size + 1))
    (ho8 : w8.ownsMap Tryz.prog 9 (plainElem Tryz.prog 3) m1 (L.length + 1) ((keyMap key L).put (.string (key x)) (.lit (.int .i64 L.length))))
    (hm1 : ∃ es ck, w4.heap[m1]? = some (.map es ck))
    (hg8 : (w6.setCell ⟨p, 0, none⟩ (.slice (some ⟨g6, 0, none⟩) (L.length + 1) c6)).grownBy w8 (some m1)) :
    ∃ F', IsArG T key w8 p F' (L ++ [x]) ∧ Ag p F w F' w8 := by
  obtain ⟨F', r1, r2, r3⟩ := make_fin0 hT hx hm hn hroom hFw hB4 g0 g1 g2 gW f0 f1 f2 hs4 hK4 ho6 hg6 hat6 ho8 hm1 hg8
  have hp : p < w.heap.size := hFw p f0
  have h0 : w.heap[p]? = some (.cells #[v1, .map (some m1)] T (0, 0)) := by rw [← hB4.block p hp]; exact g0
  have a0 : ∀ b, ArB w p b → F b := by
    rintro b (rfl | ⟨v', m', T', fr, hh, hb⟩)
    · exact f0
    · rw [h0] at hh
      simp only [Option.some.injEq, Obj.cells.injEq] at hh
      have e := congrArg Array.toList hh.1
      simp only [List.cons.injEq, Value.map.injEq, Option.some.injEq] at e
      rcases hb with rfl | hb
      · rw [← e.2.1]; exact f1
      · exact f2 b (e.1 ▸ hb)
  obtain ⟨G', q1, q2, _⟩ := make_fin0 (F := ArB w p) hT hx hm hn hroom (fun b hb => hFw b (a0 b hb)) hB4 g0 g1 (g2.step (Kp.refl _ _) (fun b _ hb hc => hb (a0 b hc)))
    gW (.inl rfl) (.inr ⟨_, _, _, _, h0, .inl rfl⟩) (fun b hb => .inr ⟨_, _, _, _, h0, .inr hb⟩) hs4 hK4 ho6 hg6 hat6 ho8 hm1 hg8
  exact ⟨F', r1, r2, r3, q2.kp, fun b hb => q2.new b (q1.arB hb)⟩

set_option maxHeartbeats 1000000 in
/-- It is made. -/
theorem tMake_new (p : Nat) (F K : Nat → Prop) (L : List Nd) (x : Nd) (v : Value) (w : World) (hE : Env F w) (ha : IsArG 82 nkey w p F L) (hl : SlRep K w v x.l) (hm : mayB L x = true) (hn : x.n ≤ 9223372036854775807)
    (hi : L.idxOf? x = none) (hroom : L.length < 100000) :
    Calls Tryz.prog 14 #[.pointer (some ⟨p, 0, none⟩), .agg #[.int .i64 x.op, .int .i64 x.n, .string x.s, v]] w (MakePost 82 nkey p F w L x) := by
  have HM := Lib.hid hm
  have HA := Lib.hid ha
  have HL := Lib.hid hl
  have HE := Lib.hid hE
  have HI := Lib.hid hi
  have HG := Lib.hid (mayB_good hm hn ha.len_le)
  have hp : p < w.heap.size := by obtain ⟨a, c, h⟩ := ha.cell0; exact World.block_lt_of_cell? w _ h
  clear hm ha hl hE hi
  go_enter Tryz.func14, Tryz.ntmps14
  go_wp2_with (go_at_call 23; refine (tMay_any nkey p F L K x v _ (HA.out.below ((Below.refl _ _).alloc (Nat.le_refl _) _)) (HL.out.step ((Kp.refl _ _).alloc _) (fun _ _ h => h))).mono ?_; rintro e w1 ⟨rfl, hb1⟩; rw [HM.out]; obtain ⟨hc1, hf1⟩ := bcell hb1)
  have hB1 : Below w.heap.size w w1 := ((Below.refl _ _).alloc (Nat.le_refl _) _).trans (hb1.mono (by simp))
  have HB1 := Lib.hid hB1
  clear hB1
  refine (tKey_any K F x v _ (HE.out.below HB1.out) (HL.out.step (Kp.of_all HB1.out) (fun _ _ h => h)) HG.out.len HG.out.s (by have := HG.out.op; omega) HG.out.n (fun y hy => by have := HG.out.l y hy; omega)).mono ?_
  rintro e w2 ⟨rfl, hb2⟩
  have HB2 := Lib.hid (HB1.out.trans (hb2.mono HB1.out.size))
  have HKO := Lib.hid (nkey_keyOf HG.out)
  generalize hks : (⟨(nkey x).toArray⟩ : ByteArray) = ks at HKO ⊢
  have HBX := Lib.hid (heap_bl hb2 (heap_bl hb1 (heap_new w _)))
  clear hks hb2 hc1 hf1 hb1
  obtain ⟨v0, m, xs, g0, g1, g2, g3, gF⟩ := HA.out.below HB2.out
  have c0 : w2.cell? ⟨p, 1, none⟩ = some (.map (some m)) := by rw [cell_of_row w2 p 1 _ _ _ g0]; rfl
  have hlook := (keyMap_look nkey (fun _ _ => nkey_inj) x HG.out L gF.2.2.2.2.2.1 (fun y hy => gF.2.2.2.2.2.good gF.2.2.2.2.1 hy)).1 (idx_none HI.out)
  obtain ⟨a9, c9, h9⟩ := (HA.out.below HB2.out).cell0
  have HLK := Lib.hid hlook
  have G3 := Lib.hid g3
  clear hlook g0 g1 g2 g3 gF
  have hd9 : decide ((100000 : Int) ≤ (L.length : Int)) = false := by simp; omega
  have HRO := Lib.hid hroom
  clear hroom
  have hbx2 : w2.heap[w.heap.size]? = some (.cells #[.int .i64 x.op, .int .i64 x.n, .string x.s, v] 54 (0, 0)) := HBX.out
  have x3 : w2.cell? ⟨w.heap.size, 3, none⟩ = some v := by rw [cell_of_row w2 w.heap.size 3 _ _ _ hbx2]; rfl
  clear hbx2
  go_wp2_with (at_lookup; refine wpList_lookup_own_ok_int _ rfl _ _ 80 rfl 9 3 .i64 str_keyed Tryz.underlying80 Tryz.underlying3 (Tryz.zeroValue3 _) m L.length (keyMap nkey L) rfl G3.out _ (.string (nkey x)) rfl HKO.out ?_; intro c hat hwc; rw [HLK.out]; clear hat hwc)
  refine (cloneInt_any K v x.l w2 (HL.out.step (Kp.of_all HB2.out) (fun _ _ h => h)) (by have := HG.out.len; omega)).mono ?_
  rintro e w3 ⟨v2, rfl, hb3, hs3, _⟩
  obtain ⟨a2, cp2, rfl, _, _⟩ := hs3.form
  have hbx3 := heap_bl hb3 HBX.out
  have x3' : w3.cell? ⟨w.heap.size, 3, none⟩ = some v := by rw [cell_of_row w3 w.heap.size 3 _ _ _ hbx3]; rfl
  have f3' : w3.frozen? ⟨w.heap.size, 3, none⟩ = false := frozen_of_row w3 w.heap.size 3 _ _ hbx3
  have HB3 := Lib.hid hb3
  have HS3 := Lib.hid hs3
  have HBX3 := Lib.hid hbx3
  clear hb3 hs3 hbx3 x3 c0
  go_wp2_with fail
  have hB4 : Below w.heap.size w (w3.setCell ⟨w.heap.size, 3, none⟩ (.slice a2 x.l.length cp2)) := (HB2.out.trans (HB3.out.mono HB2.out.size)).setCell (Nat.le_refl _) _
  have hbx4 : (w3.setCell ⟨w.heap.size, 3, none⟩ (.slice a2 x.l.length cp2)).heap[w.heap.size]? = some (.cells #[.int .i64 x.op, .int .i64 x.n, .string x.s, .slice a2 x.l.length cp2] 54 (0, 0)) := heap_setCell_same w3 w.heap.size 3 _ _ (.slice a2 x.l.length cp2) HBX3.out
  have hs4 : SlRep (fun b => w.heap.size < b) (w3.setCell ⟨w.heap.size, 3, none⟩ (.slice a2 x.l.length cp2)) (.slice a2 x.l.length cp2) x.l :=
    HS3.out.step ((Kp.refl _ _).setCell (K := fun b => w2.heap.size ≤ b) (fun _ h => by have := heap_lt HBX.out; simp at h; omega) _) (fun b _ h => by have := heap_lt HBX.out; simp at h ⊢; omega)
  have HC0 := Lib.hid trivial
  clear x3' f3' HC0
  generalize w3.setCell ⟨w.heap.size, 3, none⟩ (.slice a2 x.l.length cp2) = w4 at hB4 hbx4 hs4 ⊢
  clear h9 HBX3 HBX HB3 HS3 G3 hd9
  obtain ⟨v1, m1, xs1, g0, g1, g2, g3, gF⟩ := HA.out.below hB4
  have hw4 : w.heap.size < w4.heap.size := heap_lt hbx4
  have hp4 : p < w4.heap.size := by omega
  have n1 : some p ≠ v1.ownBlock := own_ne g1 g0 (by decide)
  obtain ⟨es1, ck1, hm1, r1⟩ := id g3
  have n2 : some m1 ≠ v1.ownBlock := own_ne_map g1 hm1
  have pm : m1 ≠ p := by intro e; rw [← e, hm1] at g0; cases g0
  have HM1 := Lib.hid hm1
  clear hm1 r1
  have p1 : w4.cell? ⟨p, 1, none⟩ = some (.map (some m1)) := by rw [cell_of_row w4 p 1 _ _ _ g0]; rfl
  have p0 : w4.cell? ⟨p, 0, none⟩ = some v1 := by rw [cell_of_row w4 p 0 _ _ _ g0]; rfl
  have fp : w4.frozen? ⟨p, 0, none⟩ = false := frozen_of_row w4 p 0 _ _ g0
  have b0 : w4.cell? ⟨w.heap.size, 0, none⟩ = some (.int .i64 x.op) := by rw [cell_of_row w4 _ 0 _ _ _ hbx4]; rfl
  have b1 : w4.cell? ⟨w.heap.size, 1, none⟩ = some (.int .i64 x.n) := by rw [cell_of_row w4 _ 1 _ _ _ hbx4]; rfl
  have b2 : w4.cell? ⟨w.heap.size, 2, none⟩ = some (.string x.s) := by rw [cell_of_row w4 _ 2 _ _ _ hbx4]; rfl
  have b3 : w4.cell? ⟨w.heap.size, 3, none⟩ = some (.slice a2 x.l.length cp2) := by rw [cell_of_row w4 _ 3 _ _ _ hbx4]; rfl
  have G0 := Lib.hid g0
  have G1 := Lib.hid g1
  have G2 := Lib.hid g2
  have G3 := Lib.hid g3
  have GF := Lib.hid gF
  have N1 := Lib.hid n1
  have N2 := Lib.hid n2
  have HB4 := Lib.hid hB4
  have HBX4 := Lib.hid hbx4
  have HS4 := Lib.hid hs4
  clear g0 g1 g2 g3 gF n1 n2 hB4 hbx4 hs4
  go_region_law (refine step_append_sl (by rfl) _ _ 76 (by rfl) el_nodes 0 v1 L.length xs1 (by rfl) ((G1.out.alloc _).drew) (K := fun _ => True) (.slice (some ⟨w4.heap.size, 0, none⟩) 1 1) 1 [.int .i64 x.op, .int .i64 x.n, .string x.s, .slice a2 x.l.length cp2] (by rfl) (SlR.block (cs := #[.int .i64 x.op, .int .i64 x.n, .string x.s, .slice a2 x.l.length cp2]) (heap_new w4 _) 4 1 rfl (by decide)) (by simp [Value.oneCell']) (by have := HRO.out; omega) (by have := HRO.out; unfold maxLen; omega) (by simp) ?_; intro v6 w6 ho6 hgrow _ hat6; obtain ⟨g6, c6, rfl, _, hg6⟩ := ho6.form (by omega); have q0 : w6.cell? ⟨p, 0, none⟩ = some v1 := (hgrow.cell_far _ (by simp; omega) N1.out).trans (cell_al _ p0); have q1 : w6.frozen? ⟨p, 0, none⟩ = false := (hgrow.frozen_far _ (by simp; omega) N1.out).trans (fz_al _ hp4 fp))
  all_goals
    have HO6 := Lib.hid ho6
    have HG6 := Lib.hid hgrow
    have HA6 := Lib.hid hat6
    have HOM := Lib.hid ((((G3.out.alloc _).drew).kept HG6.out N2.out).setCell (a := ⟨p, 0, none⟩) pm (.slice (some ⟨g6, 0, none⟩) (L.length + 1) c6))
    have c1 : (w6.setCell ⟨p, 0, none⟩ (.slice (some ⟨g6, 0, none⟩) (L.length + 1) c6)).cell? ⟨p, 1, none⟩ = some (.map (some m1)) := by
      rw [World.cell?_setCell_other _ _ _ _ (by simp)]
      exact (hgrow.cell_far _ (by simp; omega) N1.out).trans (cell_al _ p1)
    clear ho6 hgrow hat6
    go_wp2_with (at_mapUpdate; refine wpList_mapUpdate_own _ rfl _ _ _ 80 rfl 9 3 str_keyed Tryz.underlying80 (plainElem Tryz.prog 3) m1 L.length (keyMap nkey L) rfl HOM.out (by have := HRO.out; unfold maxLen; omega) _ _ (.string (nkey x)) rfl rfl HKO.out (.lit (.int .i64 L.length)) [] (plainElem_int Tryz.underlying3 (by have := HRO.out; simp [Lit.wf, IntKind.min, IntKind.max, IntKind.signed, IntKind.bits]; omega)) ?_; intro w8 ho8 hg8; have HO8 := Lib.hid ho8; have HG8 := Lib.hid hg8; clear ho8 hg8)
    go_ret2
    have hr : makeR L x = ((L.length : Int), 0, L ++ [x]) := by
      have := HRO.out
      simp only [makeR, HM.out, if_true, HI.out]; rw [if_neg (by omega)]
    refine ⟨ret_pair (by rw [hr]) (by rw [hr]), ?_⟩
    · rw [hr]
      exact make_fin (by decide) (idx_none HI.out) HM.out hn HRO.out (by obtain ⟨_, _, _, _, _, _, _, _, _, _, h, _⟩ := HA.out; exact h) HB4.out G0.out G1.out G2.out GF.out.2.2.2.2.2 GF.out.1 GF.out.2.1 GF.out.2.2.1 HS4.out (fun b h => Nat.le_of_lt h) HO6.out (grownBy_drew HG6.out) (by simpa using HA6.out) HO8.out ⟨_, _, HM1.out⟩ HG8.out
/-- 'Make'. -/
theorem tMake_any (p : Nat) (F K : Nat → Prop) (L : List Nd) (x : Nd) (v : Value) (w : World) (hE : Env F w) (ha : IsArG 82 nkey w p F L) (hl : SlRep K w v x.l) (hn : x.n ≤ 9223372036854775807) :
    Calls Tryz.prog 14 #[.pointer (some ⟨p, 0, none⟩), .agg #[.int .i64 x.op, .int .i64 x.n, .string x.s, v]] w (TermPost 82 nkey p F w (makeR L x)) := by
  cases hm : mayB L x with
  | false => exact tMake_no p F K L x v w ha hl hm
  | true =>
    cases hi : L.idxOf? x with
    | some i => exact tMake_had p F K L x v w hE ha hl hm hn i hi
    | none =>
      by_cases h : 100000 ≤ L.length
      · exact tMake_full p F K L x v w hE ha hl hm hn hi h
      · exact tMake_new p F K L x v w hE ha hl hm hn hi (by omega)
end Go.Proofs.YtnkndplbcbehkaaGreatDoor
