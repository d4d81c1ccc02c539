/-
  The laws' two arenas.
-/
import Derived.Test.YtnkndplbcbehkaaGreatDoorRef
import Derived.Test.YtnkndplbcbehkaaGreatDoorSecD
set_option linter.unusedVariables false
set_option linter.unusedSimpArgs false
namespace Go.Proofs.YtnkndplbcbehkaaGreatDoor
open Go.RowKit Go.Cas
set_option maxHeartbeats 2000000
set_option maxRecDepth 20000

theorem rAtom_any (q : Nat) (F : Nat → Prop) (L : List Nd) (n : Int) (w : World) (ha : IsArG 84 rkey w q F L) (hn3 : n = 0 ∨ n = 1 ∨ n = 2) (hi : L.idxOf? (atomN n) = none) (hroom : L.length < 100000) :
    Calls Tryz.prog 15 #[.pointer (some ⟨q, 0, none⟩), .int .i64 n] w (TermPost 84 rkey q F w (makeR L (atomN n))) := by
  have HC := Lib.hid (rMake_atom q F L n w ha hn3 hi hroom)
  clear ha hn3 hi hroom
  generalize makeR L (atomN n) = r at HC ⊢
  go_enter Tryz.func15, Tryz.ntmps15
  go_wp2_with (go_at_call 26; refine HC.out.mono ?_; rintro e w' ⟨rfl, h⟩; have H := Lib.hid h; clear h)
  go_ret2
  exact ⟨rfl, H.out⟩

/-- Arenas' blocks, others changed, others new. -/
theorem IsArG.ext {T : TypeId} {key : Nd → List UInt8} {w w' : World} {q : Nat} {F F' : Nat → Prop} {L : List Nd} (h : IsArG T key w q F L) (hst : St F w F' w') (hold : ∀ b, F b → F' b)
    (hk : Kp (fun b => ¬ F b ∨ ArB w q b) w w') (hlt : ∀ b, F' b → b < w'.heap.size) : IsArG T key w' q F' L := by
  have h' := h.other hk
  obtain ⟨v, m, xs, h0, h1, h2, h3, h4, h5, h6, h7, h8⟩ := h'
  obtain ⟨v', m', xs', g0, g1, g2, g3, g4, g5, g6, g7, g8⟩ := h
  have e0 := hk.heap (K := fun b => ¬ F b ∨ ArB w q b) (.inr (.inl rfl)) g0
  rw [h0] at e0
  simp only [Option.some.injEq, Obj.cells.injEq] at e0
  have e1 := congrArg Array.toList e0.1
  simp only [List.cons.injEq, Value.map.injEq, Option.some.injEq] at e1
  obtain ⟨rfl, rfl, _⟩ := e1
  exact ⟨v, m, xs', h0, by
    refine own_block g1 fun k hk' => ?_
    exact hk.block k (g1.lt k hk').2 (.inr (.inr ⟨_, _, _, _, g0, .inr hk'⟩)), g2.step (hk.mono fun _ _ h => .inl h) (fun b hl h => hst.not hl h), h3, hold _ h4, hold _ h5, fun b hb => hold _ (h6 b hb), hlt, h8⟩

theorem tNew_any (w : World) : Calls Tryz.prog 12 #[] w fun e w' => e = .returned (.pointer (some ⟨w.heap.size + 1, 0, none⟩)) ∧ w' = (w.alloc (.map #[] 0)).alloc (.cells #[.slice none 0 0, .map (some w.heap.size)] 82) := by
  have hmm := @run_makeMap Tryz.prog
  go_enter Tryz.func12, Tryz.ntmps12
  go_wp2
  go_ret
  exact ⟨rfl, rfl⟩

theorem rNew_any (w : World) : Calls Tryz.prog 13 #[] w fun e w' => e = .returned (.pointer (some ⟨w.heap.size + 1, 0, none⟩)) ∧ w' = (w.alloc (.map #[] 0)).alloc (.cells #[.slice none 0 0, .map (some w.heap.size)] 84) := by
  have hmm := @run_makeMap Tryz.prog
  go_enter Tryz.func13, Tryz.ntmps13
  go_wp2
  go_ret
  exact ⟨rfl, rfl⟩

/-- A new arena. -/
theorem isArG_new (T : TypeId) (key : Nd → List UInt8) (w : World) : IsArG T key ((w.alloc (.map #[] 0)).alloc (.cells #[.slice none 0 0, .map (some w.heap.size)] T)) (w.heap.size + 1) (fun b => b = w.heap.size ∨ b = w.heap.size + 1) [] := by
  have h0 := heap_new (w.alloc (.map #[] 0)) (.cells #[.slice none 0 0, .map (some w.heap.size)] T)
  have hs : (w.alloc (.map #[] 0)).heap.size = w.heap.size + 1 := by simp
  rw [hs] at h0
  exact ⟨.slice none 0 0, w.heap.size, [], h0, World.ownsRow_nil _ _ _ _, rfl, (World.ownsMap_made w Tryz.prog 9 _).alloc _, .inr rfl, .inl rfl, fun b hb => (by cases hb), fun b hb => (by simp; omega), by simp, Wf.nil⟩

theorem isArG_nil {T : TypeId} {key : Nd → List UInt8} {w : World} {p : Nat} {F F' : Nat → Prop} (h : IsArG T key w p F []) (hF : ∀ b, F b → F' b) (hl : ∀ b, F' b → b < w.heap.size) : IsArG T key w p F' [] := by
  obtain ⟨v, m, xs, h0, h1, h2, h3, h4, h5, h6, h7, h8⟩ := h
  exact ⟨v, m, xs, h0, h1, h2, h3, hF _ h4, hF _ h5, fun b hb => hF _ (h6 b hb), hl, h8⟩

def atoms : Nat → List Nd
  | 0 => []
  | k + 1 => atoms k ++ [atomN k]

/-- What stands in the loop. -/
structure Tw (w0 : World) (p q k : Nat) (w : World) (F : Nat → Prop) : Prop where
  a : IsArG 82 nkey w p F (atoms k)
  r : IsArG 84 rkey w q F (atoms k)
  dis : ∀ b, ArB w p b → ¬ ArB w q b
  below : Below w0.heap.size w0 w
  fresh : ∀ b, F b → w0.heap.size ≤ b
  env : Env F w

theorem arB_own {T : TypeId} {key : Nd → List UInt8} {w : World} {p : Nat} {F : Nat → Prop} {L : List Nd} (h : IsArG T key w p F L) {b : Nat} (hb : ArB w p b) : b < w.heap.size := h.lt (h.arB hb)

/-- One of the two makes a term; the other stays. -/
theorem two_step {w0 w w' : World} {p q : Nat} {F F' : Nat → Prop} {T U : TypeId} {key key' : Nd → List UInt8} {L L' M : List Nd} (ha : IsArG T key w p F L) (hr : IsArG U key' w q F M) (dis : ∀ b, ArB w p b → ¬ ArB w q b)
    (hB : Below w0.heap.size w0 w) (hF : ∀ b, F b → w0.heap.size ≤ b) (hE : Env F w) (ha' : IsArG T key w' p F' L') (hg : Ag p F w F' w') :
    IsArG U key' w' q F' M ∧ (∀ b, ArB w' p b → ¬ ArB w' q b) ∧ Below w0.heap.size w0 w' ∧ (∀ b, F' b → w0.heap.size ≤ b) ∧ Env F' w' := by
  have hq : w'.heap[q]? = w.heap[q]? := by
    obtain ⟨v, m, xs, h0, _⟩ := hr
    exact hg.ar.kp.block q (heap_lt h0) (fun h => dis q h (.inl rfl))
  refine ⟨hr.ext hg.st hg.old ⟨hg.st.kp.os, hg.st.kp.tape, hg.st.kp.output, hg.st.kp.size, fun b hb hk => ?_⟩ (fun b hb => ha'.lt hb), fun b hb hb' => ?_,
    ⟨hg.st.kp.os.trans hB.os, hg.st.kp.tape.trans hB.tape, hg.st.kp.output.trans hB.output, Nat.le_trans hB.size hg.st.kp.size, fun b hb => ?_⟩, fun b hb => ?_, hE.step hg.st⟩
  · rcases hk with hk | hk
    · exact hg.st.kp.block b hb hk
    · exact hg.ar.kp.block b hb (fun h => dis b h hk)
  · rw [arB_lt hq] at hb'
    rcases hg.ar.new b hb with h | h
    · exact dis b h hb'
    · have := arB_own hr hb'; omega
  · rw [hg.st.kp.block b (Nat.lt_of_lt_of_le hb hB.size) (fun h => by have := hF b h; omega)]
    exact hB.block b hb
  · rcases hg.st.new b hb with h | h
    · exact hF b h
    · exact Nat.le_trans hB.size h

theorem make_atoms (k : Nat) (hk : k < 3) : makeR (atoms k) (atomN k) = ((k : Int), 0, atoms (k + 1)) ∧ (atoms k).idxOf? (atomN k) = none ∧ (atoms k).length < 100000 := by
  rcases (by omega : k = 0 ∨ k = 1 ∨ k = 2) with rfl | rfl | rfl <;> decide +kernel

theorem IsArG.shrink0 {T : TypeId} {key : Nd → List UInt8} {w : World} {p : Nat} {F : Nat → Prop} {L : List Nd} (h : IsArG T key w p F L) : IsArG T key w p (ArB w p) L := by
  have harB : ∀ b, ArB w p b → F b := fun b hb => h.arB hb
  obtain ⟨v, m, xs, h0, h1, h2, h3, h4, h5, h6, h7, h8⟩ := h
  exact ⟨v, m, xs, h0, h1, h2.step (Kp.refl _ _) (fun b _ hn hb => hn (harB b hb)), h3, .inl rfl, .inr ⟨_, _, _, _, h0, .inl rfl⟩, fun b hb => .inr ⟨_, _, _, _, h0, .inr hb⟩, fun b hb => h7 b (harB b hb), h8⟩

/-- What 'two' comes to. -/
def TwoPost (w : World) : Ending → World → Prop := fun e w' => ∃ p q, e = .returned (.tuple #[.pointer (some ⟨p, 0, none⟩), .pointer (some ⟨q, 0, none⟩)]) ∧
  Below w.heap.size w w' ∧ IsArG 82 nkey w' p (ArB w' p) (atoms 3) ∧ ∀ b, ArB w' p b → w.heap.size ≤ b

theorem two_any (w : World) (hE : Env (fun _ => False) w) : Calls Tryz.prog 5 #[] w (TwoPost w) := by
  have ha := isArG_new 82 nkey w
  have hB1 : Below w.heap.size w ((w.alloc (.map #[] 0)).alloc (.cells #[.slice none 0 0, .map (some w.heap.size)] 82)) := ((Below.refl _ _).alloc (Nat.le_refl _) _).alloc (by simp) _
  have hs1 : ((w.alloc (.map #[] 0)).alloc (.cells #[.slice none 0 0, .map (some w.heap.size)] 82)).heap.size = w.heap.size + 2 := by simp
  generalize hw1 : ((w.alloc (.map #[] 0)).alloc (.cells #[.slice none 0 0, .map (some w.heap.size)] 82)) = w1 at ha hB1 hs1
  have hr := isArG_new 84 rkey w1
  have hB2 : Below w1.heap.size w1 ((w1.alloc (.map #[] 0)).alloc (.cells #[.slice none 0 0, .map (some w1.heap.size)] 84)) := ((Below.refl _ _).alloc (Nat.le_refl _) _).alloc (by simp) _
  have hs2 : ((w1.alloc (.map #[] 0)).alloc (.cells #[.slice none 0 0, .map (some w1.heap.size)] 84)).heap.size = w1.heap.size + 2 := by simp
  generalize hw2 : ((w1.alloc (.map #[] 0)).alloc (.cells #[.slice none 0 0, .map (some w1.heap.size)] 84)) = w2 at hr hB2 hs2
  have hTw : ∃ F, Tw w (w.heap.size + 1) (w1.heap.size + 1) 0 w2 F := by
    have ha2 := ha.add (X := fun b => b = w1.heap.size ∨ b = w1.heap.size + 1) hB2 (fun b hb => by omega)
    have hB : Below w.heap.size w w2 := hB1.trans (hB2.mono hB1.size)
    refine ⟨_, ha2, isArG_nil hr (fun b hb => .inr hb) (fun b hb => by omega), fun b hb hb' => ?_, hB, fun b hb => by omega, hE.step ⟨Kp.of_all hB, fun b hb => .inr (by omega)⟩⟩
    have h1 := (ha.below hB2).arB hb
    have h2 := hr.arB hb'
    omega
  obtain ⟨F0, hT0⟩ := hTw
  have HT0 := Lib.hid hT0
  have HW1 := Lib.hid hw1
  have HW2 := Lib.hid hw2
  have hp1 : (w.heap.size + 1) = (w.heap.size + 1) := rfl
  clear ha hr hB1 hB2 hw1 hw2 hE hT0 hs1 hs2 hp1
  go_enter Tryz.func5, Tryz.ntmps5
  go_wp2_with (first
    | (go_at_call 12; refine (tNew_any _).mono ?_; rintro e w' ⟨rfl, rfl⟩; rw [HW1.out])
    | (go_at_call 13; refine (rNew_any _).mono ?_; rintro e w' ⟨rfl, rfl⟩; rw [HW2.out]))
  go_loopw [7] (fun i wr => ∃ (k : Nat) (F : Nat → Prop), k ≤ 3 ∧ i = .int .i64 k ∧ Hid (Tw w (w.heap.size + 1) (w1.heap.size + 1) k wr F)) (fun i _ => 3 - (intOf i).toNat)
  case atStart => exact ⟨0, F0, by omega, rfl, HT0⟩
  case round =>
    obtain ⟨k, F, hk, rfl, HT⟩ := hrel
    by_cases hlt : k < 3
    · obtain ⟨m1, m2, m3⟩ := make_atoms k hlt
      have hM := tMake_any (w.heap.size + 1) F (fun _ => True) (atoms k) (atomN k) (.slice none 0 0) wr HT.out.env HT.out.a (SlRep.nil _ _) (by show (k : Int) ≤ _; omega)
      rw [m1] at hM
      have HM := Lib.hid hM
      have hR := fun (w' : World) (F' : Nat → Prop) (ha : IsArG 84 rkey w' (w1.heap.size + 1) F' (atoms k)) => rAtom_any (w1.heap.size + 1) F' (atoms k) (k : Int) w' ha (by omega) m2 m3
      rw [m1] at hR
      have HR := Lib.hid hR
      clear hM hR m1 m2 m3
      go_wp2_with (first
        | (go_at_call 14; refine HM.out.mono ?_; rintro e wa ⟨rfl, Fa, ha, hga⟩; obtain ⟨r1, r2, r3, r4, r5⟩ := two_step HT.out.a HT.out.r HT.out.dis HT.out.below HT.out.fresh HT.out.env ha hga; have HA := Lib.hid ha; have H1 := Lib.hid r1; have H2 := Lib.hid r2; have H3 := Lib.hid r3; have H4 := Lib.hid r4; have H5 := Lib.hid r5; clear ha hga r1 r2 r3 r4 r5)
        | (go_at_call 15; refine (HR.out _ _ H1.out).mono ?_; rintro e wb ⟨rfl, Fb, hb, hgb⟩; obtain ⟨r1, r2, r3, r4, r5⟩ := two_step H1.out HA.out (fun b h h' => H2.out b h' h) H3.out H4.out H5.out hb hgb; have HT2 := Lib.hid (Tw.mk (k := k + 1) r1 hb (fun b h h' => r2 b h' h) r3 r4 r5); clear hb hgb r1 r2 r3 r4 r5))
      go_round
      case rel => exact ⟨k + 1, _, by omega, by go_num, HT2⟩
      case measure => simp [intOf]; omega
    · obtain rfl : k = 3 := by omega
      go_wp2_with fail
      go_ret2
      exact ⟨_, _, rfl, HT.out.below, HT.out.a.shrink0, fun b hb => HT.out.fresh b (HT.out.a.arB hb)⟩

end Go.Proofs.YtnkndplbcbehkaaGreatDoor
