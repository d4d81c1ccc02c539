/-
  secrets: forward.
-/
import Derived.Test.YtnkndplbcbehkaaGreatDoorSecB
import Derived.Test.YtnkndplbcbehkaaGreatDoorShelf
import Derived.Lib.ItoaLen
import Derived.Handy
set_option linter.unusedVariables false
set_option linter.unusedSimpArgs false
namespace Go.Proofs.YtnkndplbcbehkaaGreatDoor
open Go.RowKit Go.Cas
set_option maxHeartbeats 400000
set_option maxRecDepth 20000

/-- The numeral. -/
def numeral (n : Int) : ByteArray := ⟨(Lib.itoa n).toArray⟩

theorem itoa_any (n : Int) (h0 : 0 ≤ n) (h1 : n ≤ 9223372036854775807) (F : Nat → Prop) (w : World) (hE : Env F w) :
    Calls Tryz.prog 71 #[.int .i64 n] w fun e w' => e = .returned (.string (numeral n)) ∧ Below w.heap.size w w' := by
  refine (Tryz.strconv_Itoa n (by omega) h1 w hE.pow).mono ?_
  rintro e w' ⟨rfl, k, os, rfl⟩
  refine ⟨rfl, ?_⟩
  refine ⟨rfl, rfl, rfl, by simp [Sort.grow], fun b hb => ?_⟩
  show (w.heap ++ os)[b]? = _
  rw [Array.getElem?_append_left hb]

theorem IsArG.lt {T : TypeId} {key : Nd → List UInt8} {w : World} {p : Nat} {F : Nat → Prop} {L : List Nd} (h : IsArG T key w p F L) {b : Nat} (hb : F b) : b < w.heap.size := by
  obtain ⟨_, _, _, _, _, _, _, _, _, _, h, _⟩ := h; exact h b hb
theorem World.alloc_size (w : World) (o : Obj) : (w.alloc o).heap.size = w.heap.size + 1 := by simp

/-- A block of another type is not the arena's. -/
theorem IsArG.notB {T : TypeId} {key : Nd → List UInt8} {w : World} {p : Nat} {F : Nat → Prop} {L : List Nd} (h : IsArG T key w p F L) {b : Nat} {cs : Array Value} {U : TypeId} {fr : Nat × Nat}
    (hb : w.heap[b]? = some (.cells cs U fr)) (h1 : U ≠ T) (h2 : U ≠ 54) : ¬ ArB w p b := by
  obtain ⟨v, m, xs, h0, ho, _, hm, _⟩ := h
  rintro (rfl | ⟨v', m', T', fr', hh, hb'⟩)
  · rw [h0] at hb; cases hb; exact h1 rfl
  · rw [h0] at hh
    simp only [Option.some.injEq, Obj.cells.injEq] at hh
    have e := congrArg Array.toList hh.1
    simp only [List.cons.injEq, Value.map.injEq, Option.some.injEq] at e
    rcases hb' with rfl | hb'
    · obtain ⟨es, ck, hm, _⟩ := hm
      rw [← e.2.1, hm] at hb; cases hb
    · rw [← e.1] at hb'
      rcases ho.2 with ⟨rfl, _⟩ | ⟨g, cap, cur, rfl, _, hg, _⟩
      · cases hb'
      · simp only [Value.ownBlock, Option.some.injEq] at hb'
        subst hb'; rw [hg] at hb; cases hb; exact h2 rfl

/-- What grows beside the deriver leaves it. -/
theorem IsD.below {d p : Nat} {F : Nat → Prop} {w w' : World} {L : List Nd} {e : Int} (h : IsD d p F w L e) (hb : Below w.heap.size w w') : IsD d p F w' L e ∧ Dg (fun _ => False) p F w F w' := by
  obtain ⟨h1, h2, h3, h4, h5⟩ := h
  have hp : p < w.heap.size := by obtain ⟨v, m, xs, h0, _⟩ := h2; exact heap_lt h0
  have ha := Ag.all h2 hb
  exact ⟨⟨h1.below hb, h2.below hb, heap_bl hb h3, h4, by rw [arB_lt (hb.block p hp)]; exact h5⟩, ha.dg⟩

/-- A change of blocks that are neither the arena's nor the deriver's. -/
theorem IsD.upd {d p : Nat} {F F' : Nat → Prop} {w w' : World} {L : List Nd} {e : Int} (h : IsD d p F w L e) {X : Nat → Prop} (hk : Kp (fun b => ¬ X b) w w')
    (hX : ∀ b, X b → F b ∧ ¬ ArB w p b ∧ b ≠ d) (hF : ∀ b, F b → F' b) (hN : ∀ b, F' b → F b ∨ w.heap.size ≤ b) (hS : ∀ b, F' b → b < w'.heap.size) :
    IsD d p F' w' L e ∧ Dg X p F w F' w' := by
  obtain ⟨h1, h2, h3, h4, h5⟩ := h
  have hst : St F w F' w' := ⟨hk.mono fun i _ hi hx => hi (hX i hx).1, hN⟩
  have hp : w'.heap[p]? = w.heap[p]? := by
    obtain ⟨v, m, xs, h0, _⟩ := h2
    exact hk.block p (heap_lt h0) fun hx => (hX p hx).2.1 (.inl rfl)
  refine ⟨⟨h1.step hst, ?_, hk.heap (K := fun b => ¬ X b) (fun hx => (hX d hx).2.2 rfl) h3, hF d h4, by rw [arB_lt hp]; exact h5⟩, hst, hF, ?_⟩
  · obtain ⟨v, m, xs, h0, h1, h2, h3, h4, h5, h6, h7, h8⟩ := h2
    have hpk : ∀ b, ArB w p b → b < w.heap.size → w'.heap[b]? = w.heap[b]? := fun b hb hl => hk.block b hl fun hx => (hX b hx).2.1 hb
    refine ⟨v, m, xs, by rw [hp]; exact h0, own_block h1 fun k hk' => hpk k (.inr ⟨_, _, _, _, h0, .inr hk'⟩) (h1.lt k hk').2, h2.step (hk.mono fun i _ hi hx => hi (hX i hx).1) (fun b hl hf hf' => (hN b hf').elim hf (fun _ => by omega)), ?_, hF _ h4, hF _ h5, fun b hb => hF b (h6 b hb), hS, h8⟩
    obtain ⟨es, clock, hm, r⟩ := h3
    exact ⟨es, clock, hk.heap (K := fun b => ¬ X b) (fun hx => (hX m hx).2.1 (.inr ⟨_, _, _, _, h0, .inl rfl⟩)) hm, r⟩
  · rw [arB_lt hp]; exact St.keep (hk.mono fun i _ hi hx => hi (.inr hx))

theorem getElem?_lt' {α : Type} {a : Array α} {i : Nat} {x : α} (h : a[i]? = some x) : i < a.size := (Array.getElem?_eq_some_iff.1 h).1

/-- What is new need not be named. -/
theorem Dg.fresh {X Y : Nat → Prop} {p : Nat} {F F' : Nat → Prop} {w w' : World} (h : Dg (fun b => X b ∨ Y b) p F w F' w') (hy : ∀ b, Y b → w.heap.size ≤ b) : Dg X p F w F' w' := by
  refine ⟨h.st, h.old, h.ar.kp.mono fun i hl hi hf => hi ?_, fun b hb => ?_⟩
  · rcases hf with hf | hf | hf
    · exact .inl hf
    · exact .inr hf
    · have := hy i hf; omega
  · rcases h.ar.new b (hb.imp_right .inl) with (h' | h' | h') | h'
    · exact .inl (.inl h')
    · exact .inl (.inr h')
    · exact .inr (hy b h')
    · exact .inr h'

/-- What 'forward' tells: the key, the next secret, the deriver. -/
def fwdR (L : List Nd) (e : Int) (gen secret : Int) : GK × Int × List Nd × Int :=
  let k := dexpR L e secret ⟨#[107, 101, 121]⟩ (numeral gen)
  let n := dexpR k.2.2 k.2.1 secret ⟨#[110, 111, 110, 99, 101]⟩ (numeral gen)
  let s := dexpR n.2.2 n.2.1 secret ⟨#[115, 101, 99, 114, 101, 116]⟩ (numeral gen)
  (⟨gen, k.1, n.1⟩, s.1, s.2.2, s.2.1)

/-- The world in which 'forward' ends, before its result is laid down. -/
def fwdW (w4 : World) (g o : Nat) (x y a b c : Value) : World := ((w4.alloc (.cells #[a, b, c] 39)).setCell ⟨g, o + 2, none⟩ x).setCell ⟨g, o + 3, none⟩ y

theorem fwd_end (w4 : World) (g o t4 : Nat) (cur : Array Value) (x y a b c : Value) (hg : w4.heap[g]? = some (.cells cur 71 (0, 0))) (hz : w4.heap[t4]? = some (.cells #[.int .i64 0, .int .i64 0, .int .i64 0] 39 (0, 0))) :
    (fwdW w4 g o x y a b c).heap[w4.heap.size]? = some (.cells #[a, b, c] 39 (0, 0)) ∧ (fwdW w4 g o x y a b c).heap[t4]? = some (.cells #[.int .i64 0, .int .i64 0, .int .i64 0] 39 (0, 0)) ∧
    (fwdW w4 g o x y a b c).heap[g]? = some (.cells ((cur.setIfInBounds (o + 2) x).setIfInBounds (o + 3) y) 71 (0, 0)) ∧ Kp (fun k => k ≠ g) w4 (fwdW w4 g o x y a b c) ∧ t4 ≠ g := by
  have hk : Kp (fun k => k ≠ g) (w4.alloc (.cells #[a, b, c] 39)) (fwdW w4 g o x y a b c) := ((Kp.refl _ _).setCell (fun _ h => h rfl) _).setCell (fun _ h => h rfl) _
  have hne : t4 ≠ g := by intro e; rw [e, hg] at hz; cases hz
  have hgl := heap_lt hg
  refine ⟨hk.heap (K := fun k => k ≠ g) (by omega) (heap_new _ _), hk.heap (K := fun k => k ≠ g) hne (heap_al _ hz), ?_, ((Kp.refl _ _).alloc _).trans hk, hne⟩
  exact Lib.heap_setCell_same (Lib.heap_setCell_same (heap_al _ hg) x) y

set_option maxHeartbeats 1000000 in
theorem sForward_any (d p : Nat) (F : Nat → Prop) (L : List Nd) (e : Int) (w : World) (g o : Nat) (cur : Array Value) (gen secret : Int) (hd : IsD d p F w L e) (hg : w.heap[g]? = some (.cells cur 71 (0, 0)))
    (h2 : cur[o + 2]? = some (.int .i64 gen)) (h3 : cur[o + 3]? = some (.int .i64 secret)) (hF : F g) (h0 : 0 ≤ gen) (hm : gen ≤ 1000000) :
    Calls Tryz.prog 48 #[.pointer (some ⟨d, 0, none⟩), .pointer (some ⟨g, o, none⟩)] w fun en w' =>
      en = .returned (.agg #[.int .i64 gen, .int .i64 (fwdR L e gen secret).1.key, .int .i64 (fwdR L e gen secret).1.nonce]) ∧
      ∃ F', IsD d p F' w' (fwdR L e gen secret).2.2.1 (fwdR L e gen secret).2.2.2 ∧ Dg (fun b => b = d ∨ b = g) p F w F' w' ∧
        w'.heap[g]? = some (.cells ((cur.setIfInBounds (o + 2) (.int .i64 (gen + 1))).setIfInBounds (o + 3) (.int .i64 (fwdR L e gen secret).2.1)) 71 (0, 0)) := by
  have hgd : g ≠ d := by intro e; rw [e, hd.at_] at hg; cases hg
  have hl2 := getElem?_lt' h2
  have hB0 : Below w.heap.size w (w.alloc (.cells #[.int .i64 0, .int .i64 0, .int .i64 0] 39)) := (Below.refl _ _).alloc (Nat.le_refl _) _
  have cc : ∀ W : World, W.heap[g]? = some (.cells cur 71 (0, 0)) → W.cell? ⟨g, o + 2, none⟩ = some (.int .i64 gen) ∧ W.cell? ⟨g, o + 3, none⟩ = some (.int .i64 secret) := fun W hW => by
    rw [cell_of_row W g _ _ _ _ hW, cell_of_row W g _ _ _ _ hW]; exact ⟨h2, h3⟩
  obtain ⟨c12, c13⟩ := cc _ (heap_bl hB0 hg)
  have HG := Lib.hid hg
  have HD := Lib.hid hd
  have HCC := Lib.hid cc
  have HI := Lib.hid (itoa_any gen h0 (by omega) F _ (hd.below hB0).1.env)
  
  have hex : ∀ (F1 : Nat → Prop) (L1 : List Nd) (e1 : Int) (w1 : World) (label : ByteArray), IsD d p F1 w1 L1 e1 → Dg (fun b => b = d) p F w F1 w1 → w1.heap[g]? = some (.cells cur 71 (0, 0)) → w1.heap[w.heap.size]? = some (.cells #[.int .i64 0, .int .i64 0, .int .i64 0] 39 (0, 0)) ∧ F1 w.heap.size →
      Calls Tryz.prog 38 #[.pointer (some ⟨d, 0, none⟩), .int .i64 secret, .string label, .string (numeral gen)] w1 fun en w' =>
        en = .returned (.int .i64 (dexpR L1 e1 secret label (numeral gen)).1) ∧ ∃ F', Hid (IsD d p F' w' (dexpR L1 e1 secret label (numeral gen)).2.2 (dexpR L1 e1 secret label (numeral gen)).2.1) ∧
          Hid (Dg (fun b => b = d) p F w F' w') ∧ Hid (w'.heap[g]? = some (.cells cur 71 (0, 0))) ∧ w'.cell? ⟨g, o + 2, none⟩ = some (.int .i64 gen) ∧ w'.cell? ⟨g, o + 3, none⟩ = some (.int .i64 secret) ∧ Hid (w'.heap[w.heap.size]? = some (.cells #[.int .i64 0, .int .i64 0, .int .i64 0] 39 (0, 0)) ∧ F' w.heap.size) := by
    intro F1 L1 e1 w1 label hd1 hs1 hg1 ⟨hz1, hf1⟩
    refine (sExpand_any d p F1 L1 e1 secret label (numeral gen) w1 hd1).mono ?_
    rintro en w' ⟨rfl, F', hd', hs'⟩
    obtain ⟨q, _⟩ := hs'.heap hg1 (hd1.ar.notB hg1 (by decide) (by decide)) hgd
    obtain ⟨q1, q2⟩ := HCC.out w' q
    obtain ⟨qz, _⟩ := hs'.heap hz1 (hd1.ar.notB hz1 (by decide) (by decide)) (fun e => by rw [e, hd1.at_] at hz1; cases hz1)
    exact ⟨rfl, F', Lib.hid hd', Lib.hid (hs1.trans hs'), Lib.hid q, q1, q2, Lib.hid ⟨qz, hs'.old _ hf1⟩⟩
  have HEX := Lib.hid hex
  unfold fwdR
  dsimp only
  generalize ht1 : dexpR L e secret ⟨#[107, 101, 121]⟩ (numeral gen) = r1
  generalize ht2 : dexpR r1.2.2 r1.2.1 secret ⟨#[110, 111, 110, 99, 101]⟩ (numeral gen) = r2
  generalize ht3 : dexpR r2.2.2 r2.2.1 secret ⟨#[115, 101, 99, 114, 101, 116]⟩ (numeral gen) = r3
  have HT1 := Lib.hid ht1
  have HT2 := Lib.hid ht2
  have HT3 := Lib.hid ht3
  have HB0 := Lib.hid hB0
  clear ht1 ht2 ht3 hex hg hd cc hB0 h2 h3
  go_enter Tryz.func48, Tryz.ntmps48
  go_wp2_with (first
    | (go_at_call 71; refine HI.out.mono ?_; rintro en w1 ⟨rfl, hb1⟩; have HD1 := Lib.hid (HD.out.upd (X := fun _ => False) (F' := fun b => F b ∨ b = w.heap.size) (Kp.of_all (HB0.out.trans (hb1.mono HB0.out.size))) (fun _ h => h.elim) (fun _ h => .inl h) (fun b h => h.imp id (fun h => by omega)) (fun b h => h.elim (fun h => Nat.lt_of_lt_of_le (HD.out.ar.lt h) (Nat.le_trans HB0.out.size hb1.size)) (fun h => by have h1 := hb1.size; rw [World.alloc_size] at h1; omega))); have HG1 := Lib.hid (heap_bl hb1 (heap_bl HB0.out HG.out)); obtain ⟨c22, c23⟩ := HCC.out _ HG1.out; have HZ1 := Lib.hid (heap_bl hb1 (heap_new w (.cells #[.int .i64 0, .int .i64 0, .int .i64 0] 39))); clear hb1)
    | (go_at_call 38; refine (HEX.out _ _ _ _ _ HD1.out.1 (HD1.out.2.mono (fun _ h => h.elim)) HG1.out ⟨HZ1.out, .inr rfl⟩).mono ?_; rw [HT1.out]; rintro en w2 ⟨rfl, F2, HD2, HS2, HG2, c32, c33, HZ2⟩; clear HD1 HT1)
    | (go_at_call 38; refine (HEX.out _ _ _ _ _ HD2.out HS2.out HG2.out HZ2.out).mono ?_; rw [HT2.out]; rintro en w3 ⟨rfl, F3, HD3, HS3, HG3, c42, c43, HZ3⟩; clear HD2 HS2 HT2)
    | (go_at_call 38; refine (HEX.out _ _ _ _ _ HD3.out HS3.out HG3.out HZ3.out).mono ?_; rw [HT3.out]; rintro en w4 ⟨rfl, F4, HD4, HS4, HG4, c52, c53, HZ4⟩; have c62 := cell_al (.cells #[.int .i64 gen, .int .i64 r1.1, .int .i64 r2.1] 39) c52; have c63 := cell_al (.cells #[.int .i64 gen, .int .i64 r1.1, .int .i64 r2.1] 39) c53; have HW := Lib.hid (fwd_end w4 g o w.heap.size cur (.int .i64 (gen + 1)) (.int .i64 r3.1) (.int .i64 gen) (.int .i64 r1.1) (.int .i64 r2.1) HG4.out HZ4.out.1); have k0 := cell_of_row _ _ 0 _ _ _ HW.out.1; have k1 := cell_of_row _ _ 1 _ _ _ HW.out.1; have k2 := cell_of_row _ _ 2 _ _ _ HW.out.1; have l0 := cell_of_row _ _ 0 _ _ _ HW.out.2.1; have l1 := cell_of_row _ _ 1 _ _ _ HW.out.2.1; have l2 := cell_of_row _ _ 2 _ _ _ HW.out.2.1; have m0 := frozen_of_row _ _ 0 _ _ HW.out.2.1; have m1 := frozen_of_row _ _ 1 _ _ HW.out.2.1; have m2 := frozen_of_row _ _ 2 _ _ HW.out.2.1; simp only [List.getElem?_toArray, List.getElem?_cons_succ, List.getElem?_cons_zero, fwdW] at k0 k1 k2 l0 l1 l2 m0 m1 m2; have f62 : (w4.alloc (.cells #[.int .i64 gen, .int .i64 r1.1, .int .i64 r2.1] 39)).frozen? ⟨g, o + 2, none⟩ = false := frozen_of_row _ g _ _ _ (heap_al _ HG4.out); have f63 : (w4.alloc (.cells #[.int .i64 gen, .int .i64 r1.1, .int .i64 r2.1] 39)).frozen? ⟨g, o + 3, none⟩ = false := frozen_of_row _ g _ _ _ (heap_al _ HG4.out)))
  obtain ⟨W, hW⟩ : ∃ W, W = fwdW w4 g o (.int .i64 (gen + 1)) (.int .i64 r3.1) (.int .i64 gen) (.int .i64 r1.1) (.int .i64 r2.1) := ⟨_, rfl⟩
  rw [show ((w4.alloc (.cells #[.int .i64 gen, .int .i64 r1.1, .int .i64 r2.1] 39)).setCell ⟨g, o + 2, none⟩ (.int .i64 (gen + 1))).setCell ⟨g, o + 3, none⟩ (.int .i64 r3.1) = W from hW.symm]
  rw [← hW] at HW
  obtain ⟨_, hz, hgf, hkw, htg⟩ := HW.out
  have hz3 := Lib.heap_setCell_same (i := 2) (Lib.heap_setCell_same (i := 1) (Lib.heap_setCell_same (i := 0) hz (.int .i64 gen)) (.int .i64 r1.1)) (.int .i64 r2.1)
  have hkf : Kp (fun k => ¬ (k = g ∨ k = w.heap.size)) w4 (((W.setCell ⟨w.heap.size, 0, none⟩ (.int .i64 gen)).setCell ⟨w.heap.size, 1, none⟩ (.int .i64 r1.1)).setCell ⟨w.heap.size, 2, none⟩ (.int .i64 r2.1)) :=
    (((hkw.mono fun i _ hi => fun h => hi (.inl h)).setCell (fun _ h => h (.inr rfl)) _).setCell (fun _ h => h (.inr rfl)) _).setCell (fun _ h => h (.inr rfl)) _
  have hgf' : (((W.setCell ⟨w.heap.size, 0, none⟩ (.int .i64 gen)).setCell ⟨w.heap.size, 1, none⟩ (.int .i64 r1.1)).setCell ⟨w.heap.size, 2, none⟩ (.int .i64 r2.1)).heap[g]? = _ :=
    ((((Kp.refl (fun k => k ≠ w.heap.size) W).setCell (fun _ h => h rfl) _).setCell (fun _ h => h rfl) _).setCell (fun _ h => h rfl) _).heap (K := fun k => k ≠ w.heap.size) (fun e => htg e.symm) hgf
  generalize (((W.setCell ⟨w.heap.size, 0, none⟩ (.int .i64 gen)).setCell ⟨w.heap.size, 1, none⟩ (.int .i64 r1.1)).setCell ⟨w.heap.size, 2, none⟩ (.int .i64 r2.1)) = W' at hz3 hkf hgf' ⊢
  have n0 := cell_of_row _ _ 0 _ _ _ hz3
  have n1 := cell_of_row _ _ 1 _ _ _ hz3
  have n2 := cell_of_row _ _ 2 _ _ _ hz3
  have n0 : W'.cell? ⟨w.heap.size, 0, none⟩ = some (.int .i64 gen) := n0
  have n1 : W'.cell? ⟨w.heap.size, 1, none⟩ = some (.int .i64 r1.1) := n1
  have n2 : W'.cell? ⟨w.heap.size, 2, none⟩ = some (.int .i64 r2.1) := n2
  try simp only [Exit.inBlock, Exit.then]
  refine bodyPost_ret (by simp [results, Tryz.results48, go_sem, n0, n1, n2]; try rfl) rfl ?_
  obtain ⟨hd', hs'⟩ := HD4.out.upd (F' := F4) hkf (fun b hb => by
    rcases hb with rfl | rfl
    · exact ⟨HS4.out.old _ hF, HD4.out.ar.notB HG4.out (by decide) (by decide), hgd⟩
    · exact ⟨HZ4.out.2, HD4.out.ar.notB HZ4.out.1 (by decide) (by decide), fun e => by have h1 := HZ4.out.1; rw [e, HD4.out.at_] at h1; cases h1⟩) (fun _ h => h) (fun _ h => .inl h) (fun b h => Nat.lt_of_lt_of_le (HD4.out.ar.lt h) hkf.size)
  exact ⟨rfl, F4, hd', ((HS4.out.mono (Y := fun b => (b = d ∨ b = g) ∨ b = w.heap.size) (fun b h => .inl (.inl h))).trans (hs'.mono (fun b h => h.elim (fun h => .inl (.inr h)) .inr))).fresh (fun b h => by omega), hgf'⟩

end Go.Proofs.YtnkndplbcbehkaaGreatDoor
