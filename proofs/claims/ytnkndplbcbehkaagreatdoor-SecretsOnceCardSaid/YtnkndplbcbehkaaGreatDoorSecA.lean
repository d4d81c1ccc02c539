/-
  secrets: above, and the deriver's expand.
-/
import Derived.Test.YtnkndplbcbehkaaGreatDoorMath
import Derived.Test.YtnkndplbcbehkaaGreatDoorCrypto
import Derived.Lib.LazyBuf
import Derived.Lib.Hide
set_option linter.unusedVariables false
set_option linter.unusedSimpArgs false
namespace Go.Proofs.YtnkndplbcbehkaaGreatDoor
open Go.RowKit Go.Cas
set_option maxHeartbeats 400000
set_option maxRecDepth 20000

/-- Whether a leaf is under a node. -/
def aboveB (x leaf : Int) : Bool := any1B x && (decide (fromF x ≤ leaf) && decide (leaf < toF x))

theorem sAbove_any (x leaf : Int) (w : World) (ht : Go.Proofs.TabAt 1 Lib.deBruijn64tab w) :
    Calls Tryz.prog 34 #[.int .i64 x, .int .i64 leaf] w fun e w' => e = .returned (.bool (aboveB x leaf)) ∧ w = w' := by
  have HC := Lib.hid (mLeaves_any x w ht)
  unfold aboveB
  generalize fromF x = f at HC ⊢
  generalize toF x = t at HC ⊢
  clear ht
  cases h : any1B x with
  | false =>
    rw [h] at HC
    simp only [Bool.false_eq_true, if_false] at HC
    clear h
    go_enter Tryz.func34, Tryz.ntmps34
    go_wp2_with (go_at_call 59; refine HC.out.mono ?_; rintro e w' ⟨rfl, rfl⟩)
    go_ret
    exact ⟨rfl, rfl⟩
  | true =>
    rw [h] at HC
    simp only [if_true] at HC
    clear h
    cases h1 : decide (f ≤ leaf) with
    | false =>
      go_enter Tryz.func34, Tryz.ntmps34
      go_wp2_with (go_at_call 59; refine HC.out.mono ?_; rintro e w' ⟨rfl, rfl⟩)
      go_ret
      exact ⟨rfl, rfl⟩
    | true =>
      go_enter Tryz.func34, Tryz.ntmps34
      go_wp2_with (go_at_call 59; refine HC.out.mono ?_; rintro e w' ⟨rfl, rfl⟩)
      go_ret
      exact ⟨rfl, rfl⟩

/-- What changes: blocks of the arena, and the blocks X. -/
structure Dg (X : Nat → Prop) (p : Nat) (F : Nat → Prop) (w : World) (F' : Nat → Prop) (w' : World) : Prop where
  st : St F w F' w'
  old : ∀ b, F b → F' b
  ar : St (fun b => ArB w p b ∨ X b) w (fun b => ArB w' p b ∨ X b) w'

theorem stOr {F F' X : Nat → Prop} {w w' : World} (h : St F w F' w') : St (fun b => F b ∨ X b) w (fun b => F' b ∨ X b) w' :=
  ⟨h.kp.mono fun _ _ h => fun hf => h (.inl hf), fun b hb => by
    rcases hb with hb | hb
    · rcases h.new b hb with h | h
      · exact .inl (.inl h)
      · exact .inr h
    · exact .inl (.inr hb)⟩

theorem Ag.dg {X : Nat → Prop} {p : Nat} {F F' : Nat → Prop} {w w' : World} (h : Ag p F w F' w') : Dg X p F w F' w' := ⟨h.st, h.old, stOr h.ar⟩

theorem Dg.trans {X : Nat → Prop} {p : Nat} {F F' F'' : Nat → Prop} {w w' w'' : World} (h : Dg X p F w F' w') (k : Dg X p F' w' F'' w'') : Dg X p F w F'' w'' :=
  ⟨h.st.trans k.st, fun b hb => k.old b (h.old b hb), h.ar.trans k.ar⟩

theorem Dg.mono {X Y : Nat → Prop} {p : Nat} {F F' : Nat → Prop} {w w' : World} (h : Dg X p F w F' w') (hx : ∀ b, X b → Y b) : Dg Y p F w F' w' := by
  refine ⟨h.st, h.old, h.ar.kp.mono fun i _ hi hf => hi (hf.imp_right (hx i)), fun b hb => ?_⟩
  rcases hb with hb | hb
  · rcases h.ar.new b (.inl hb) with h | h
    · exact .inl (h.imp_right (hx b))
    · exact .inr h
  · exact .inl (.inr hb)

/-- A block that is neither the arena's nor of X stays. -/
theorem Dg.heap {X : Nat → Prop} {p : Nat} {F F' : Nat → Prop} {w w' : World} (h : Dg X p F w F' w') {b : Nat} {o : Obj} (hb : w.heap[b]? = some o) (ha : ¬ ArB w p b) (hx : ¬ X b) :
    w'.heap[b]? = some o ∧ ¬ ArB w' p b := by
  obtain ⟨h1, h2⟩ := h.ar.heap (b := b) (fun h => h.elim ha hx) hb
  exact ⟨h1, fun h => h2 (.inl h)⟩

/-- A change outside of the arena leaves it. -/
theorem IsArG.other {T : TypeId} {key : Nd → List UInt8} {w w' : World} {p : Nat} {F : Nat → Prop} {L : List Nd} (h : IsArG T key w p F L) (hk : Kp (fun b => ¬ F b ∨ ArB w p b) w w') : IsArG T key w' p F L := by
  obtain ⟨v, m, xs, h0, h1, h2, h3, h4, h5, h6, h7, h8⟩ := h
  have hp : ∀ b, ArB w p b → b < w.heap.size → w'.heap[b]? = w.heap[b]? := fun b hb hl => hk.block b hl (.inr hb)
  refine ⟨v, m, xs, hk.heap (K := fun b => ¬ F b ∨ ArB w p b) (.inr (.inl rfl)) h0, own_block h1 fun k hk' => hp k (.inr ⟨_, _, _, _, h0, .inr hk'⟩) (h1.lt k hk').2, h2.step (hk.mono fun _ _ h => .inl h) (fun _ _ h => h), ?_, h4, h5, h6, fun b hb' => Nat.lt_of_lt_of_le (h7 b hb') hk.size, h8⟩
  · obtain ⟨es, clock, hm, r⟩ := h3
    exact ⟨es, clock, hk.heap (K := fun b => ¬ F b ∨ ArB w p b) (.inr (.inr ⟨_, _, _, _, h0, .inl rfl⟩)) hm, r⟩

/-- Fresh blocks may be written. -/
theorem IsArG.add {T : TypeId} {key : Nd → List UInt8} {w w' : World} {p : Nat} {F X : Nat → Prop} {L : List Nd} (h : IsArG T key w p F L) (hb : Below w.heap.size w w')
    (hx : ∀ b, X b → w.heap.size ≤ b ∧ b < w'.heap.size) : IsArG T key w' p (fun b => F b ∨ X b) L := by
  obtain ⟨v, m, xs, h0, h1, h2, h3, h4, h5, h6, h7, h8⟩ := h
  refine ⟨v, m, xs, heap_bl hb h0, own_below h1 hb, h2.step (Kp.of_all hb) (fun b hl h h' => h'.elim h fun h' => by have := hx b h'; omega), ?_, .inl h4, .inl h5, fun b h => .inl (h6 b h), fun b hb' => ?_, h8⟩
  · obtain ⟨es, clock, hm, r⟩ := h3
    exact ⟨es, clock, heap_bl hb hm, r⟩
  · rcases hb' with h | h
    · exact Nat.lt_of_lt_of_le (h7 b h) hb.size
    · exact (hx b h).2

/-- The deriver at block `d`: the arena's and the first error. -/
structure IsD (d p : Nat) (F : Nat → Prop) (w : World) (L : List Nd) (e : Int) : Prop where
  env : Env F w
  ar : IsArG 82 nkey w p F L
  at_ : w.heap[d]? = some (.cells #[.pointer (some ⟨p, 0, none⟩), .int .i64 e] 61 (0, 0))
  df : F d
  da : ¬ ArB w p d

/-- An error is laid down. -/
theorem IsD.set {d p : Nat} {F F1 : Nat → Prop} {w w1 : World} {L' : List Nd} {e0 : Int} (ht : w.heap[d]? = some (.cells #[.pointer (some ⟨p, 0, none⟩), .int .i64 e0] 61 (0, 0)))
    (hf : F d) (hda : ¬ ArB w p d) (ha1 : IsArG 82 nkey w1 p F1 L') (hs1 : Ag p F w F1 w1) (hE1 : Env F1 w1) (e' : Int) :
    IsD d p F1 (w1.setCell ⟨d, 1, none⟩ (.int .i64 e')) L' e' ∧ Dg (fun b => b = d) p F w F1 (w1.setCell ⟨d, 1, none⟩ (.int .i64 e')) := by
  obtain ⟨hh, hn⟩ := hs1.ar.heap hda ht
  have hk : Kp (fun b => b ≠ d) w1 (w1.setCell ⟨d, 1, none⟩ (.int .i64 e')) := (Kp.refl _ _).setCell (fun _ h => h rfl) _
  have hf1 := hs1.old d hf
  have hdp : p ≠ d := fun e => hn (.inl e.symm)
  have hpp : (w1.setCell ⟨d, 1, none⟩ (.int .i64 e')).heap[p]? = w1.heap[p]? := by
    obtain ⟨v, m, xs, h0, _⟩ := ha1
    exact hk.block p (heap_lt h0) hdp
  have hk1 : Kp (fun b => ¬ F1 b) w1 (w1.setCell ⟨d, 1, none⟩ (.int .i64 e')) := hk.mono fun i _ hi e => hi (e ▸ hf1)
  refine ⟨⟨hE1.step (St.keep hk1), ha1.other (hk.mono fun i _ hi e => ?_), ?_, hf1, ?_⟩, hs1.st.trans (St.keep hk1), hs1.old, (stOr hs1.ar).trans ?_⟩
  · exact hi.elim (fun h => h (e ▸ hf1)) (fun h => hn (e ▸ h))
  · exact heap_setCell_same w1 d 1 _ _ _ hh
  · rw [arB_lt hpp]; exact hn
  · rw [arB_lt hpp]; exact St.keep (hk.mono fun i _ hi e => hi (.inr e))

/-- What 'expand' of a deriver tells: the term, the arena, the error. -/
def dexpR (L : List Nd) (e : Int) (s : Int) (label context : ByteArray) : Int × Int × List Nd :=
  if e = 0 then
    (let r := textR L context
     if r.2.1 = 0 then expandR r.2.2 s label r.1 else r)
  else (0, e, L)

theorem sExpand_any (d p : Nat) (F : Nat → Prop) (L : List Nd) (e s : Int) (label context : ByteArray) (w : World) (hd : IsD d p F w L e) :
    Calls Tryz.prog 38 #[.pointer (some ⟨d, 0, none⟩), .int .i64 s, .string label, .string context] w fun en w' =>
      en = .returned (.int .i64 (dexpR L e s label context).1) ∧ ∃ F', IsD d p F' w' (dexpR L e s label context).2.2 (dexpR L e s label context).2.1 ∧ Dg (fun b => b = d) p F w F' w' := by
  obtain ⟨hE, ha, ht, hf, hda⟩ := hd
  have hdl := heap_lt ht
  by_cases he : e = 0
  · subst he
    generalize hr : dexpR L 0 s label context = r
    unfold dexpR at hr
    rw [if_pos rfl] at hr
    have HT := Lib.hid (tText_any p F L context w hE ha)
    have c0 : w.cell? ⟨d, 0, none⟩ = some (.pointer (some ⟨p, 0, none⟩)) := by rw [cell_of_row w d _ _ _ _ ht]; rfl
    have c1 : w.cell? ⟨d, 1, none⟩ = some (.int .i64 0) := by rw [cell_of_row w d _ _ _ _ ht]; rfl
    have HTT := Lib.hid ht
    have HF := Lib.hid hf
    have HDA := Lib.hid hda
    have HE := Lib.hid hE
    generalize textR L context = t at hr HT
    obtain ⟨t1, t2, L1⟩ := t
    dsimp only at hr
    -- the last store: the error is laid down
    have hend : ∀ (F1 : Nat → Prop) (w1 : World) (L' : List Nd) (e' : Int), IsArG 82 nkey w1 p F1 L' → Ag p F w F1 w1 → Env F1 w1 →
        ∃ F', IsD d p F' (w1.setCell ⟨d, 1, none⟩ (.int .i64 e')) L' e' ∧ Dg (fun b => b = d) p F w F' (w1.setCell ⟨d, 1, none⟩ (.int .i64 e')) := by
      intro F1 w1 L' e' ha1 hs1 hE1
      exact ⟨F1, IsD.set HTT.out HF.out HDA.out ha1 hs1 hE1 e'⟩
    clear ht hf hE ha hda
    by_cases h2 : t2 = 0
    · rw [if_pos h2] at hr
      subst h2
      have HR := Lib.hid hr
      have HN := Lib.hid hend
      clear hr hend
      go_enter Tryz.func38, Tryz.ntmps38
      go_wp2_with (first
        | (go_at_call 64; refine HT.out.mono ?_; rintro e w1 ⟨rfl, F1, ha1, hs1⟩; have hc1 := (hs1.ar.heap HDA.out HTT.out).1; have c01 : w1.cell? ⟨d, 0, none⟩ = some (.pointer (some ⟨p, 0, none⟩)) := (by rw [cell_of_row w1 d _ _ _ _ hc1]; rfl); have f11 : w1.frozen? ⟨d, 1, none⟩ = false := frozen_of_row w1 d 1 _ _ hc1; have HA1 := Lib.hid ha1; have HS1 := Lib.hid hs1; clear ha1 hs1 hc1)
        | (go_at_call 65; refine (cExpand_any p F1 L1 s label t1 w1 (HE.out.step HS1.out.st) HA1.out).mono ?_; rintro e w2 ⟨rfl, F2, ha2, hs2⟩; rw [HR.out] at ha2 ⊢; have hc2 := ((HS1.out.trans hs2).ar.heap HDA.out HTT.out).1; have c12 : w2.cell? ⟨d, 1, none⟩ = some (.int .i64 0) := (by rw [cell_of_row w2 d _ _ _ _ hc2]; rfl);  have f12 : w2.frozen? ⟨d, 1, none⟩ = false := frozen_of_row w2 d 1 _ _ hc2; have HA2 := Lib.hid ha2; have HS2 := Lib.hid (HS1.out.trans hs2); clear ha2 hs2 hc2))
      go_ret
      exact ⟨rfl, HN.out _ _ _ _ HA2.out HS2.out (HE.out.step HS2.out.st)⟩
    · rw [if_neg h2] at hr
      subst hr
      have hd2 : (t2 == 0) = false := by simpa using h2
      have HN := Lib.hid hend
      clear hend h2
      go_enter Tryz.func38, Tryz.ntmps38
      go_wp2_with (first
        | (go_at_call 64; refine HT.out.mono ?_; rintro e w1 ⟨rfl, F1, ha1, hs1⟩; have hc1 := (hs1.ar.heap HDA.out HTT.out).1; have c11 : w1.cell? ⟨d, 1, none⟩ = some (.int .i64 0) := (by rw [cell_of_row w1 d _ _ _ _ hc1]; rfl); have f11 : w1.frozen? ⟨d, 1, none⟩ = false := frozen_of_row w1 d 1 _ _ hc1; have f11 : w1.frozen? ⟨d, 1, none⟩ = false := frozen_of_row w1 d 1 _ _ hc1; have HA1 := Lib.hid ha1; have HS1 := Lib.hid hs1; clear ha1 hs1 hc1))
      go_ret
      exact ⟨rfl, HN.out _ _ _ _ HA1.out HS1.out (HE.out.step HS1.out.st)⟩
  · have hd2 : (e != 0) = true := by simpa using he
    have c1 : w.cell? ⟨d, 1, none⟩ = some (.int .i64 e) := by rw [cell_of_row w d _ _ _ _ ht]; rfl
    have HD := Lib.hid (IsD.mk hE ha ht hf hda)
    unfold dexpR
    rw [if_neg he]
    clear ht hf hE ha he hda
    go_enter Tryz.func38, Tryz.ntmps38
    go_wp2
    go_ret
    exact ⟨rfl, F, HD.out, ⟨St.refl _ _, fun _ h => h, St.refl _ _⟩⟩

end Go.Proofs.YtnkndplbcbehkaaGreatDoor
