/-
  secrets: New; Next; Has.
-/
import Derived.Test.YtnkndplbcbehkaaDoorSecO
set_option linter.unusedVariables false
set_option linter.unusedSimpArgs false
namespace Go.Proofs.YtnkndplbcbehkaaDoor
open Go.RowKit Go.Cas
set_option maxHeartbeats 4000000
set_option maxRecDepth 20000

theorem sNew_any (p : Nat) (F : Nat → Prop) (L : List Nd) (w : World) (lv s : Int) (ha : IsArG 77 nkey w p F L) (hf : fullB lv = true) (h0 : 0 ≤ s) (h1 : s < L.length) :
    Calls Tryd.prog 8 #[.pointer (some ⟨p, 0, none⟩), .int .i64 lv, .int .i64 s] w fun en w' => ∃ v, en = .returned (.tuple #[.agg #[.int .i64 lv, v, .slice none 0 0], .int .i64 0]) ∧ Below w.heap.size w w' ∧
      SlRep (fun b => w.heap.size ≤ b) w' v [(⟨lv - 1, s⟩ : Sec)] := by
  have hB : Below w.heap.size w (w.alloc (.cells #[.int .i64 0, .slice none 0 0, .slice none 0 0] 32)) := (Below.refl _ _).alloc (Nat.le_refl _) _
  have hz := heap_new w (.cells #[.int .i64 0, .slice none 0 0, .slice none 0 0] 32)
  generalize hw1 : w.alloc (.cells #[.int .i64 0, .slice none 0 0, .slice none 0 0] 32) = w1 at hB hz
  have d1 : decide (s < 0) = false := by simp; omega
  have d2 : decide (s ≥ (L.length : Int)) = false := by simp; omega
  have hr := mRoot_any lv w1
  rw [hf] at hr
  simp only [if_true] at hr
  have HR := Lib.hid hr
  have HA := Lib.hid (ha.below hB)
  have HW := Lib.hid hw1
  have HB := Lib.hid hB
  have HZ := Lib.hid hz
  clear hr ha hw1 hB hz h0 h1 hf
  go_enter Tryd.func8, Tryd.ntmps8
  go_wp2_with (first
    | (go_at_call 17; rw [HW.out]; refine HR.out.mono ?_; rintro en w2 ⟨rfl, hb2⟩; have HB2 := Lib.hid hb2; obtain ⟨a0, c0, hc0⟩ := (HA.out.below hb2).cell0; have hz2 := heap_bl hb2 HZ.out; obtain ⟨z0, z1, z2⟩ := row3_cells hz2; have y0 := frozen_of_row _ _ 0 _ _ hz2; have y1 := frozen_of_row _ _ 1 _ _ hz2; have y2 := frozen_of_row _ _ 2 _ _ hz2; have hz3 := heap_al (.cells #[.int .i64 (lv - 1), .int .i64 s] 60) hz2; obtain ⟨x0, x1, x2⟩ := row3_cells hz3; have f0 := frozen_of_row _ _ 0 _ _ hz3; have f1 := frozen_of_row _ _ 1 _ _ hz3; have f2 := frozen_of_row _ _ 2 _ _ hz3; have HZ3 := Lib.hid hz3; clear hb2 hz2 hz3 z0 z1 z2 y0 y1 y2)
    | (go_at_call 18; refine (tLen_any p a0 L.length c0 _ hc0).mono ?_; rintro en w3 ⟨rfl, rfl⟩))
  have hz4 := same_set3 HZ3.out (.int .i64 lv) (.slice (some ⟨w2.heap.size, 0, none⟩) 1 1) (.slice none 0 0)
  obtain ⟨m0, m1, m2⟩ := row3_cells hz4
  refine bodyPost_ret (v := .tuple #[.agg #[.int .i64 lv, .slice (some ⟨w2.heap.size, 0, none⟩) 1 1, .slice none 0 0], .int .i64 0]) (by simp [results, Tryd.results8, go_sem, m0, m1, m2]) rfl ?_
  have hs2 : w.heap.size + 1 ≤ w2.heap.size := by have := heap_lt (heap_bl HB2.out HZ.out); omega
  have hb3 : Below w.heap.size w (w2.alloc (.cells #[.int .i64 (lv - 1), .int .i64 s] 60)) := (HB.out.trans (HB2.out.mono HB.out.size)).alloc (by omega) _
  refine ⟨_, rfl, ((hb3.setCell (p := ⟨w.heap.size, 0, none⟩) (Nat.le_refl _) _).setCell (p := ⟨w.heap.size, 1, none⟩) (Nat.le_refl _) _).setCell (p := ⟨w.heap.size, 2, none⟩) (Nat.le_refl _) _, ⟨[.int .i64 (lv - 1), .int .i64 s], ⟨rfl, by show 1 ≤ maxLen; decide, .inr ⟨w2.heap.size, 0, 1, rfl, Nat.le_refl _, (by omega), #[.int .i64 (lv - 1), .int .i64 s], 60, (0, 0), ?_, fun i u hi => ?_⟩⟩, Reps.secs.2 rfl⟩⟩
  · rw [heap_set3 (by omega)]; exact heap_new w2 _
  · rw [Nat.zero_add, List.getElem?_toArray]; exact hi

theorem secs_fresh {w w' : World} {K : Nat → Prop} {v : Value} {l : List Sec} (h : SlRep (fun b => w.heap.size ≤ b) w' v l) (hK : ∀ b, K b → b < w.heap.size) : SlRep (fun b => ¬ K b) w' v l :=
  h.step (Kp.refl _ _) (fun b _ h hk => absurd (hK b hk) (Nat.not_lt.2 h))

/-- The number that 'Next' asks for. -/
def nextG (r : Kr) (leaf kind : Int) : Int := if findR r.chains leaf kind < 0 then 0 else (r.chains.getD (findR r.chains leaf kind).toNat default).gen

/-- The caller's result cells are its own. -/
theorem nw_more {N : Nat → Prop} {w w3 w4 : World} {p : Nat} {L : List Nd} {lv : Int} {v u : Value} (hN : Nw N w p) (hE : Env (fun b => ArB w p b ∨ N b) w) (ha : IsArG 77 nkey w p (fun b => ArB w p b ∨ N b) L) (h3 : K3 w w3 lv v u) (hb : Below w3.heap.size w3 w4) :
    Nw (fun b => N b ∨ b = w.heap.size + 1 ∨ b = w.heap.size + 2) w4 p ∧ Env (fun b => ArB w4 p b ∨ N b ∨ b = w.heap.size + 1 ∨ b = w.heap.size + 2) w4 ∧
      IsArG 77 nkey w4 p (fun b => ArB w4 p b ∨ N b ∨ b = w.heap.size + 1 ∨ b = w.heap.size + 2) L ∧ ArB w4 p = ArB w p := by
  have hB : Below w.heap.size w w4 := h3.below.trans (hb.mono h3.below.size)
  have hp : ArB w4 p = ArB w p := by
    obtain ⟨v, m, xs, h0, _⟩ := ha
    exact arB_lt (hB.block p (heap_lt h0))
  have r1 := heap_bl hb h3.r1
  have r2 := heap_bl hb h3.r2
  have hs := heap_lt r2
  have har := ha.add (X := fun b => b = w.heap.size + 1 ∨ b = w.heap.size + 2) hB (fun b hb => by omega)
  have e : (fun b => (ArB w p b ∨ N b) ∨ (b = w.heap.size + 1 ∨ b = w.heap.size + 2)) = (fun b => ArB w4 p b ∨ N b ∨ b = w.heap.size + 1 ∨ b = w.heap.size + 2) := by
    funext b; rw [hp, or_assoc]
  rw [e] at har
  refine ⟨⟨fun b hb' => ?_, fun b hb' => ?_⟩, ?_, har, hp⟩
  · rcases hb' with hb' | rfl | rfl
    · obtain ⟨cs, T, h1, h2⟩ := hN.typed b hb'
      exact ⟨cs, T, heap_bl hB h1, h2⟩
    · exact ⟨_, _, r1, by decide, by decide, by decide, by decide, by decide⟩
    · exact ⟨_, _, r2, by decide, by decide, by decide, by decide, by decide⟩
  · rcases hb' with hb' | rfl | rfl
    · rw [hp]; exact hN.far b hb'
    · exact har.notB r1 (by decide) (by decide)
    · exact har.notB r2 (by decide) (by decide)
  · rw [← e]
    exact hE.step ⟨Kp.of_all hB, fun b hb => hb.imp id (fun h => by omega)⟩

/-- What 'Key' has told is handed on. -/
theorem next_kx {N : Nat → Prop} {w w3 w4 w5 : World} {p : Nat} {L : List Nd} {lv : Int} {v u : Value} {q : GK × Kr × Int × List Nd} {en : Ending} (hN : Nw N w p) (ha : IsArG 77 nkey w p (fun b => ArB w p b ∨ N b) L) (h3 : K3 w w3 lv v u) (hb : Below w3.heap.size w3 w4)
    (hn4 : Nw (fun b => N b ∨ b = w.heap.size + 1 ∨ b = w.heap.size + 2) w4 p) (hp : ArB w4 p = ArB w p) (h : KeyPost (fun b => N b ∨ b = w.heap.size + 1 ∨ b = w.heap.size + 2) w4 p q en w5) :
    ∃ v2 u2, en = .returned (.tuple #[.agg #[.int .i64 q.1.gen, .int .i64 q.1.key, .int .i64 q.1.nonce], .agg #[.int .i64 q.2.1.leaves, v2, u2], .int .i64 q.2.2.1]) ∧
      Kx N w p (fun b => ArB w5 p b ∨ N b ∨ b = w.heap.size + 1 ∨ b = w.heap.size + 2) w5 q.2.2.2 ∧
      SlRep (fun b => ¬ (ArB w5 p b ∨ N b ∨ b = w.heap.size + 1 ∨ b = w.heap.size + 2)) w5 v2 q.2.1.nodes ∧ SlRep (fun b => ¬ (ArB w5 p b ∨ N b ∨ b = w.heap.size + 1 ∨ b = w.heap.size + 2)) w5 u2 q.2.1.chains := by
  obtain ⟨v2, u2, he, k1, k2, k3, k4⟩ := h
  have hB : Below w.heap.size w w4 := h3.below.trans (hb.mono h3.below.size)
  have r1 := heap_bl hb h3.r1
  have r2 := heap_bl hb h3.r2
  have n1 := hn4.far _ (.inr (.inl rfl))
  have n2 := hn4.far _ (.inr (.inr rfl))
  refine ⟨v2, u2, he, ⟨hN, k1, ⟨⟨k2.kp.os.trans hB.os, k2.kp.tape.trans hB.tape, k2.kp.output.trans hB.output, Nat.le_trans hB.size k2.kp.size, fun b hb' hk => ?_⟩, fun b hb' => ?_⟩,
    ⟨k2.kp.os.trans hB.os, k2.kp.tape.trans hB.tape, k2.kp.output.trans hB.output, Nat.le_trans hB.size k2.kp.size, fun b hb' hk => ?_⟩, fun b hb => .inr (.inl hb), (k2.heap n1 r1).1, (k2.heap n2 r2).1, .inr (.inr (.inl rfl)), .inr (.inr (.inr rfl))⟩, k3, k4⟩
  · rw [k2.kp.block b (Nat.lt_of_lt_of_le hb' hB.size) (by rw [hp]; exact fun h => hk (.inl h))]; exact hB.block b hb'
  · rcases hb' with hb' | hb' | hb' | hb'
    · rcases k2.new b hb' with h | h
      · rw [hp] at h; exact .inl (.inl h)
      · exact .inr (Nat.le_trans hB.size h)
    · exact .inl (.inr hb')
    · exact .inr (by omega)
    · exact .inr (by omega)
  · rw [k2.kp.block b (Nat.lt_of_lt_of_le hb' hB.size) (by rw [hp]; exact hk)]; exact hB.block b hb'

theorem Kx.told {N : Nat → Prop} {w w5 : World} {p : Nat} {r : Kr} {x : GK} {e : Int} {L : List Nd} {v u : Value} {en : Ending} (hx : Kx N w p (fun b => ArB w5 p b ∨ N b ∨ b = w.heap.size + 1 ∨ b = w.heap.size + 2) w5 L)
    (hv : SlRep (fun b => ¬ (ArB w5 p b ∨ N b ∨ b = w.heap.size + 1 ∨ b = w.heap.size + 2)) w5 v r.nodes) (hu : SlRep (fun b => ¬ (ArB w5 p b ∨ N b ∨ b = w.heap.size + 1 ∨ b = w.heap.size + 2)) w5 u r.chains)
    (he : en = .returned (.tuple #[.agg #[.int .i64 x.gen, .int .i64 x.key, .int .i64 x.nonce], .agg #[.int .i64 r.leaves, v, u], .int .i64 e])) :
    KeyPost N w p (x, r, e, L) en ((((((w5.setCell ⟨w.heap.size + 1, 0, none⟩ (.int .i64 x.gen)).setCell ⟨w.heap.size + 1, 1, none⟩ (.int .i64 x.key)).setCell ⟨w.heap.size + 1, 2, none⟩ (.int .i64 x.nonce)).setCell ⟨w.heap.size + 2, 0, none⟩ (.int .i64 r.leaves)).setCell ⟨w.heap.size + 2, 1, none⟩ v).setCell ⟨w.heap.size + 2, 2, none⟩ u) := by
  obtain ⟨W', rfl, h1, h2, h3, h4, _⟩ := hx.fin (.int .i64 x.gen) (.int .i64 x.key) (.int .i64 x.nonce) (.int .i64 r.leaves) v u
  refine ⟨_, _, he, h1, h2, hv.step (h4.mono fun i _ h => ⟨fun e => h (.inr (.inr (.inl e))), fun e => h (.inr (.inr (.inr e)))⟩) (fun b _ h => ?_), hu.step (h4.mono fun i _ h => ⟨fun e => h (.inr (.inr (.inl e))), fun e => h (.inr (.inr (.inr e)))⟩) (fun b _ h => ?_)⟩
  · rw [h3]; exact fun h' => h (h'.imp id .inl)
  · rw [h3]; exact fun h' => h (h'.imp id .inl)

/-- 'Next': the chain has begun, or it begins. -/
theorem sNext_any (N : Nat → Prop) (p : Nat) (L : List Nd) (w : World) (r : Kr) (v u : Value) (leaf kind : Int) (hN : Nw N w p) (hE : Env (fun b => ArB w p b ∨ N b) w) (ha : IsArG 77 nkey w p (fun b => ArB w p b ∨ N b) L)
    (hv : SlRep (fun b => ¬ (ArB w p b ∨ N b)) w v r.nodes) (hu : SlRep (fun b => ¬ (ArB w p b ∨ N b)) w u r.chains) (hr : Rg r) :
    Calls Tryd.prog 10 #[.pointer (some ⟨p, 0, none⟩), .agg #[.int .i64 r.leaves, v, u], .int .i64 leaf, .int .i64 kind] w (KeyPost N w p (keyR L r leaf kind (nextG r leaf kind))) := by
  obtain ⟨va, vc, rfl, _⟩ := hv.form
  obtain ⟨ua, uc, rfl, uc1, uc2, uo⟩ := hu.open
  have h3 := k3_start w r.leaves (.slice va r.nodes.length vc) (.slice ua r.chains.length uc)
  generalize hw3 : (((w.alloc (.cells #[.int .i64 r.leaves, .slice va r.nodes.length vc, .slice ua r.chains.length uc] 32)).alloc (.cells #[.int .i64 0, .int .i64 0, .int .i64 0] 40)).alloc (.cells #[.int .i64 0, .slice none 0 0, .slice none 0 0] 32)) = w3 at h3
  obtain ⟨c0, c1, c2⟩ := row3_cells h3.box
  have H3 := Lib.hid h3
  have HW := Lib.hid hw3
  have HU := Lib.hid hu
  have UO := Lib.hid uo
  have HR := Lib.hid hr
  -- the call of 'Key'
  have hkey : ∀ (w4 : World) (g : Int), Below w3.heap.size w3 w4 → g ≤ 9223372036854775807 → Calls Tryd.prog 9 #[.pointer (some ⟨p, 0, none⟩), .agg #[.int .i64 r.leaves, .slice va r.nodes.length vc, .slice ua r.chains.length uc], .int .i64 leaf, .int .i64 kind, .int .i64 g] w4
      fun en w5 => ∃ v2 u2, en = .returned (.tuple #[.agg #[.int .i64 (keyR L r leaf kind g).1.gen, .int .i64 (keyR L r leaf kind g).1.key, .int .i64 (keyR L r leaf kind g).1.nonce], .agg #[.int .i64 (keyR L r leaf kind g).2.1.leaves, v2, u2], .int .i64 (keyR L r leaf kind g).2.2.1]) ∧
        Kx N w p (fun b => ArB w5 p b ∨ N b ∨ b = w.heap.size + 1 ∨ b = w.heap.size + 2) w5 (keyR L r leaf kind g).2.2.2 ∧
        SlRep (fun b => ¬ (ArB w5 p b ∨ N b ∨ b = w.heap.size + 1 ∨ b = w.heap.size + 2)) w5 v2 (keyR L r leaf kind g).2.1.nodes ∧ SlRep (fun b => ¬ (ArB w5 p b ∨ N b ∨ b = w.heap.size + 1 ∨ b = w.heap.size + 2)) w5 u2 (keyR L r leaf kind g).2.1.chains := by
    intro w4 g hb hg
    obtain ⟨q1, q2, q3, q4⟩ := nw_more hN hE ha H3.out hb
    have hB : Below w.heap.size w w4 := H3.out.below.trans (hb.mono H3.out.below.size)
    have hfresh : ∀ b, b < w.heap.size → ¬ (ArB w p b ∨ N b) → ¬ (ArB w4 p b ∨ N b ∨ b = w.heap.size + 1 ∨ b = w.heap.size + 2) := fun b hl hn h => by
      rw [q4] at h
      rcases h with h | h | h | h
      · exact hn (.inl h)
      · exact hn (.inr h)
      · omega
      · omega
    refine (sKey_any _ p L w4 r _ _ leaf kind g q1 q2 q3 (hv.step (Kp.of_all hB) hfresh) (hu.step (Kp.of_all hB) hfresh) hr hg).mono ?_
    intro en w5 h
    exact next_kx hN ha H3.out hb q1 q4 h
  have HK := Lib.hid hkey
  have HFI := Lib.hid (sFind_any _ r.leaves (.slice va r.nodes.length vc) _ r.chains leaf kind w3 (hu.step (Kp.of_all h3.below) (fun _ _ h => h)))
  clear hkey hw3 h3 hN hE ha hv hu uo
  have hend : ∀ {q : GK × Kr × Int × List Nd} {w5 : World} {v2 u2 : Value}, Kx N w p (fun b => ArB w5 p b ∨ N b ∨ b = w.heap.size + 1 ∨ b = w.heap.size + 2) w5 q.2.2.2 → True := fun _ => trivial
  clear hend
  by_cases hf : findR r.chains leaf kind < 0
  · have hg : nextG r leaf kind = 0 := by unfold nextG; rw [if_pos hf]
    rw [hg]
    have d1 : decide (findR r.chains leaf kind ≥ 0) = false := by simp; omega
    have HK0 := Lib.hid (fun w4 hb => HK.out w4 0 hb (by decide))
    generalize keyR L r leaf kind 0 = kq at HK0 ⊢
    obtain ⟨x, r2, e, L2⟩ := kq
    clear hf hg HK
    go_enter Tryd.func10, Tryd.ntmps10
    go_wp2_with (first
      | (go_at_call 20; rw [HW.out]; refine HFI.out.mono ?_; rintro en w4 ⟨rfl, hb4⟩; obtain ⟨k0, k1, k2⟩ := row3_cells (heap_bl hb4 H3.out.box); have HB4 := Lib.hid hb4; clear hb4)
      | (go_at_call 9; refine (HK0.out _ HB4.out).mono ?_; rintro en w5 ⟨v2, u2, rfl, hx5, hv5, hu5⟩; obtain ⟨va2, vc2, hv2, _⟩ := hv5.form; obtain ⟨ua2, uc2', hu2, _⟩ := hu5.form; subst hv2; subst hu2; obtain ⟨⟨x0, x1, x2⟩, ⟨y0, y1, y2⟩, ⟨f0, f1, f2⟩, ⟨g0, g1, g2⟩⟩ := res_cells hx5.r1 hx5.r2; have HX5 := Lib.hid hx5; have HV5 := Lib.hid hv5; have HU5 := Lib.hid hu5; clear hx5 hv5 hu5))
    obtain ⟨W', e', ⟨m0, m1, m2⟩, n0, n1, n2⟩ := HX5.out.res (.int .i64 x.gen) (.int .i64 x.key) (.int .i64 x.nonce) (.int .i64 r2.leaves) (.slice va2 r2.nodes.length vc2) (.slice ua2 r2.chains.length uc2')
    subst e'
    refine bodyPost_ret (v := .tuple #[.agg #[.int .i64 x.gen, .int .i64 x.key, .int .i64 x.nonce], .agg #[.int .i64 r2.leaves, .slice va2 r2.nodes.length vc2, .slice ua2 r2.chains.length uc2'], .int .i64 e]) (by simp [results, Tryd.results10, go_sem, m0, m1, m2, n0, n1, n2]) rfl ?_
    exact HX5.out.told HV5.out HU5.out rfl
  · obtain ⟨j, c, hfj, hcj, _⟩ := findR_at hf
    have hg : nextG r leaf kind = c.gen := by unfold nextG; rw [if_neg hf, hfj, Int.toNat_natCast, List.getD_eq_getElem?_getD, hcj]; rfl
    rw [hg]
    have hgb := (HR.out.kept c (List.mem_of_getElem? hcj)).2.2
    have hjl := getElem?_lt hcj
    obtain ⟨b, off, rfl, _, hbl, hi⟩ := UO.out (by omega)
    obtain ⟨cs, ⟨kv, rfl, _⟩, hi'⟩ := hi j c hcj
    have hc2 : w.cell? ⟨b, off + j * 5 + 2, none⟩ = some (.int .i64 c.gen) := by have := hi' 2 _ rfl; rw [← Nat.add_assoc] at this; exact this
    have d1 : decide ((j : Int) ≥ 0) = true := by simp
    have hj1 : (0 : Int) ≤ (j : Int) := by omega
    have hj2 : (j : Int) < (r.chains.length : Int) := by omega
    have HK0 := Lib.hid (fun w4 hb => HK.out w4 c.gen hb (by omega))
    rw [hfj] at HFI
    have HC2 := Lib.hid hc2
    generalize keyR L r leaf kind c.gen = kq at HK0 ⊢
    obtain ⟨x, r2, e, L2⟩ := kq
    clear hf hg HK hfj hcj hi hi' UO hc2 hgb
    go_enter Tryd.func10, Tryd.ntmps10
    go_wp2_with (first
      | (go_at_call 20; rw [HW.out]; refine HFI.out.mono ?_; rintro en w4 ⟨rfl, hb4⟩; obtain ⟨k0, k1, k2⟩ := row3_cells (heap_bl hb4 H3.out.box); have k3 := cell_bl (H3.out.below.trans (hb4.mono H3.out.below.size)) HC2.out; have HB4 := Lib.hid hb4; clear hb4)
      | (go_at_call 9; refine (HK0.out _ HB4.out).mono ?_; rintro en w5 ⟨v2, u2, rfl, hx5, hv5, hu5⟩; obtain ⟨va2, vc2, hv2, _⟩ := hv5.form; obtain ⟨ua2, uc2', hu2, _⟩ := hu5.form; subst hv2; subst hu2; obtain ⟨⟨x0, x1, x2⟩, ⟨y0, y1, y2⟩, ⟨f0, f1, f2⟩, ⟨g0, g1, g2⟩⟩ := res_cells hx5.r1 hx5.r2; have HX5 := Lib.hid hx5; have HV5 := Lib.hid hv5; have HU5 := Lib.hid hu5; clear hx5 hv5 hu5))
    obtain ⟨W', e', ⟨m0, m1, m2⟩, n0, n1, n2⟩ := HX5.out.res (.int .i64 x.gen) (.int .i64 x.key) (.int .i64 x.nonce) (.int .i64 r2.leaves) (.slice va2 r2.nodes.length vc2) (.slice ua2 r2.chains.length uc2')
    subst e'
    refine bodyPost_ret (v := .tuple #[.agg #[.int .i64 x.gen, .int .i64 x.key, .int .i64 x.nonce], .agg #[.int .i64 r2.leaves, .slice va2 r2.nodes.length vc2, .slice ua2 r2.chains.length uc2'], .int .i64 e]) (by simp [results, Tryd.results10, go_sem, m0, m1, m2, n0, n1, n2]) rfl ?_
    exact HX5.out.told HV5.out HU5.out rfl

end Go.Proofs.YtnkndplbcbehkaaDoor
