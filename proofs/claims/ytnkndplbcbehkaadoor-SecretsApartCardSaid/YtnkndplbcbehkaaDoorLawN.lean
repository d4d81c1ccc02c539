/-
  SecretsNext: its walk.
-/
import Derived.Test.YtnkndplbcbehkaaDoorNxt
set_option linter.unusedVariables false
set_option linter.unusedSimpArgs false
namespace Go.Proofs.YtnkndplbcbehkaaDoor
open Go.RowKit Go.Cas
set_option maxHeartbeats 16000000
set_option maxRecDepth 20000

theorem Kl.trans {N : Nat → Prop} {p : Nat} {w w' w'' : World} (h : Kl N p w w') (k : Kl N p w' w'') : Kl N p w w'' :=
  ⟨fun b o ho hn hb => k.heap b o (h.heap b o ho hn hb) (h.out b o ho hn) hb, fun b o ho hn => by
    by_cases hb : N b
    · intro h'
      exact absurd h' (by
        have h1 := h.out b o ho hn
        have hl : b < w'.heap.size := Nat.lt_of_lt_of_le (heap_lt ho) h.base.2.2.2
        exact k.out b _ (Array.getElem?_eq_getElem hl) h1)
    · exact k.out b o (h.heap b o ho hn hb) (h.out b o ho hn), k.base.1.trans h.base.1, k.base.2.1.trans h.base.2.1, k.base.2.2.1.trans h.base.2.2.1, Nat.le_trans h.base.2.2.2 k.base.2.2.2⟩

theorem Ls.set3 {w0 : World} {N : Nat → Prop} {w : World} {p : Nat} {L : List Nd} (h : Ls w0 N w p L) {b : Nat} (hb : N b) (x y z : Value) :
    Ls w0 N (((w.setCell ⟨b, 0, none⟩ x).setCell ⟨b, 1, none⟩ y).setCell ⟨b, 2, none⟩ z) p L ∧ Kl N p w (((w.setCell ⟨b, 0, none⟩ x).setCell ⟨b, 1, none⟩ y).setCell ⟨b, 2, none⟩ z) := by
  obtain ⟨h1, k1⟩ := h.set hb 0 x
  obtain ⟨h2, k2⟩ := h1.set hb 1 y
  obtain ⟨h3, k3⟩ := h2.set hb 2 z
  exact ⟨h3, (k1.trans k2).trans k3⟩

/-- A key ring in one of the law's cells. -/
structure Rb (N : Nat → Prop) (w : World) (p b : Nat) (r : Kr) (v u : Value) : Prop where
  ring : Ring N w p r v u
  at_ : w.heap[b]? = some (.cells #[.int .i64 r.leaves, v, u] 32 (0, 0))

theorem rem_idx (x : Int) (m : Nat) (h0 : 0 < m) (h1 : m ≤ 1000) : ∃ j : Nat, j < m ∧ (wrap64 (x.tmod m + m)).tmod m = (j : Int) := by
  have a1 := Int.tmod_lt_of_pos x (b := (m : Int)) (by omega)
  have a2 := Int.lt_tmod_of_pos x (b := (m : Int)) (by omega)
  have a3 : wrap64 (x.tmod m + m) = x.tmod m + m := by unfold wrap64; omega
  rw [a3, Int.tmod_eq_emod_of_nonneg (by omega)]
  have a4 := Int.emod_lt_of_pos (x.tmod m + m) (b := (m : Int)) (by omega)
  have a5 := Int.emod_nonneg (x.tmod m + m) (b := (m : Int)) (by omega)
  exact ⟨((x.tmod m + m) % (m : Int)).toNat, by omega, by omega⟩

theorem lv_idx (x : Int) : ∃ lv : Int, (lv = 1 ∨ lv = 2 ∨ lv = 4 ∨ lv = 8) ∧ 0 ≤ (wrap64 (x.tmod 4 + 4)).tmod 4 ∧ (wrap64 (x.tmod 4 + 4)).tmod 4 < 4 ∧
    ∀ h, ([Value.int .i64 1, .int .i64 2, .int .i64 4, .int .i64 8][((wrap64 (x.tmod 4 + 4)).tmod 4).toNat]'h) = .int .i64 lv := by
  obtain ⟨j, hj, e⟩ := rem_idx x 4 (by omega) (by omega)
  have e' : (wrap64 (x.tmod 4 + 4)).tmod 4 = (j : Int) := e
  rw [e']
  simp only [Int.toNat_natCast]
  rcases (by omega : j = 0 ∨ j = 1 ∨ j = 2 ∨ j = 3) with rfl | rfl | rfl | rfl
  · exact ⟨1, .inl rfl, by omega, by omega, fun _ => rfl⟩
  · exact ⟨2, .inr (.inl rfl), by omega, by omega, fun _ => rfl⟩
  · exact ⟨4, .inr (.inr (.inl rfl)), by omega, by omega, fun _ => rfl⟩
  · exact ⟨8, .inr (.inr (.inr rfl)), by omega, by omega, fun _ => rfl⟩

/-- The two cells of the law's own. -/
theorem own_two {w0 w3 : World} {p : Nat} {L : List Nd} {lv : Int} {v : Value} (h : Ls w0 (fun _ => False) w3 p L) (hr : Ring (fun _ => False) w3 p (ring0 lv) v (.slice none 0 0)) :
    ∃ N : Nat → Prop, N w3.heap.size ∧ N (w3.heap.size + 1) ∧
      Ls w0 N ((w3.alloc (.cells #[.int .i64 lv, v, .slice none 0 0] 32)).alloc (.cells #[.int .i64 lv, v, .slice none 0 0] 32)) p L ∧
      Rb N ((w3.alloc (.cells #[.int .i64 lv, v, .slice none 0 0] 32)).alloc (.cells #[.int .i64 lv, v, .slice none 0 0] 32)) p w3.heap.size (ring0 lv) v (.slice none 0 0) ∧
      Rb N ((w3.alloc (.cells #[.int .i64 lv, v, .slice none 0 0] 32)).alloc (.cells #[.int .i64 lv, v, .slice none 0 0] 32)) p (w3.heap.size + 1) (ring0 lv) v (.slice none 0 0) := by
  obtain ⟨h1, _, r1⟩ := h.more #[.int .i64 lv, v, .slice none 0 0] (T := 32) (by decide)
  obtain ⟨h2, _, r2⟩ := h1.more #[.int .i64 lv, v, .slice none 0 0] (T := 32) (by decide)
  obtain ⟨_, b1, b2⟩ := two_new (w := w3) (T := 32) (U := 32) (cs := #[.int .i64 lv, v, .slice none 0 0]) (ds := #[.int .i64 lv, v, .slice none 0 0])
  have hr2 := r2 _ _ _ (r1 _ _ _ hr)
  exact ⟨_, .inl (.inr rfl), .inr (World.alloc_size _ _).symm, h2, ⟨hr2, b1⟩, ⟨hr2, b2⟩⟩

theorem full4 {lv : Int} (h : lv = 1 ∨ lv = 2 ∨ lv = 4 ∨ lv = 8) : fullB lv = true := by
  rcases h with rfl | rfl | rfl | rfl <;> decide +kernel

/-- 'Next' of the law's. -/
theorem next_law {w0 : World} {N : Nat → Prop} {w : World} {p : Nat} {L : List Nd} {r : Kr} {v u : Value} (leaf kind : Int) (h : Ls w0 N w p L) (hr : Ring N w p r v u) (hg : Rg r) :
    Calls Tryd.prog 10 #[.pointer (some ⟨p, 0, none⟩), .agg #[.int .i64 r.leaves, v, u], .int .i64 leaf, .int .i64 kind] w fun en w' => ∃ v2 u2,
      en = .returned (.tuple #[.agg #[.int .i64 (keyR L r leaf kind (nextG r leaf kind)).1.gen, .int .i64 (keyR L r leaf kind (nextG r leaf kind)).1.key, .int .i64 (keyR L r leaf kind (nextG r leaf kind)).1.nonce], .agg #[.int .i64 (keyR L r leaf kind (nextG r leaf kind)).2.1.leaves, v2, u2], .int .i64 (keyR L r leaf kind (nextG r leaf kind)).2.2.1]) ∧
      Ls w0 N w' p (keyR L r leaf kind (nextG r leaf kind)).2.2.2 ∧ Ring N w' p (keyR L r leaf kind (nextG r leaf kind)).2.1 v2 u2 ∧ Kl N p w w' ∧ (∀ b o, w.heap[b]? = some o → N b → w'.heap[b]? = some o) := by
  refine (sNext_any N p L w r v u leaf kind h.nw h.env h.ar hr.1 hr.2 hg).mono ?_
  intro en w' hk
  obtain ⟨v2, u2, he, q1, q2, q3, q4⟩ := key_ls (r := r) (v := v) (u := u) (leaf := leaf) (kind := kind) (gen := 0) h hk
  exact ⟨v2, u2, he, q1, q2, q3, q4⟩

theorem Rb.step {N : Nat → Prop} {w w' : World} {p b : Nat} {r : Kr} {v u : Value} (h : Rb N w p b r v u) (k : Kl N p w w') (hn : ∀ b o, w.heap[b]? = some o → N b → w'.heap[b]? = some o) (hb : N b) : Rb N w' p b r v u :=
  ⟨h.ring.kl k, hn b _ h.at_ hb⟩

theorem Rb.bl {w0 : World} {N : Nat → Prop} {w w' : World} {p b : Nat} {L : List Nd} {r : Kr} {v u : Value} (h : Rb N w p b r v u) (hl : Ls w0 N w p L) (hb : Below w.heap.size w w') : Rb N w' p b r v u :=
  ⟨h.ring.kl (hl.bl hb).2, heap_bl hb h.at_⟩

theorem sNext_walk (w : World) (lv0 leaf kind many : Int) (hE : Env (fun _ => False) w) :
    Calls Tryd.prog 5 #[.int .i64 lv0, .int .i64 leaf, .int .i64 kind, .int .i64 many] w fun e w' => e = .returned (.bool true) ∧ Below w.heap.size w w' := by
  have HE := Lib.hid hE
  obtain ⟨lv, hlv, hx0, hx1, hget⟩ := lv_idx lv0
  obtain ⟨M, hM, hmn⟩ := rem_idx many 20 (by omega) (by omega)
  have hmn' : (wrap64 (many.tmod 20 + 20)).tmod 20 = (M : Int) := hmn
  have HLV := Lib.hid hlv
  have HGET := Lib.hid hget
  clear hE hlv hget hmn
  go_enter Tryd.func5, Tryd.ntmps5
  go_wp2_with (first
    | (go_at_call 6; refine (live_any w HE.out).mono ?_; rintro en w1 ⟨rfl, hb1⟩; have HB1 := Lib.hid (hb1.alloc hb1.size (.cells #[.int .i64 1, .int .i64 2, .int .i64 4, .int .i64 8] 3)); clear hb1))
  simp only [HGET.out]
  generalize w1.alloc (.cells #[.int .i64 1, .int .i64 2, .int .i64 4, .int .i64 8] 3) = w1' at HB1 ⊢
  go_wp2_with (first
    | (go_at_call 7; refine (two_any w1' (HE.out.below HB1.out)).mono ?_; rintro en w2 ⟨p, q, rfl, hb2, ha2, hf2⟩; have LS2 := Lib.hid (ls_start HE.out (HB1.out.trans (hb2.mono HB1.out.size)) ha2 (fun b hb => Nat.le_trans HB1.out.size (hf2 b hb))); clear hb2 ha2 hf2)
    | (go_at_call 8; refine (sNew_any p _ (atoms 3) w2 lv 0 LS2.out.ar (full4 HLV.out) (by decide) (by decide)).mono ?_; rintro en w3 ⟨v, rfl, hb3, hv3⟩; obtain ⟨va, vc, hv, _⟩ := hv3.form; subst hv; have RN3 := Lib.hid (ring_new LS2.out hb3 hv3); have LS3 := Lib.hid (LS2.out.bl hb3).1; clear hb3 hv3))
  obtain ⟨N, hN1, hN2, ls, rb1, rb2⟩ := own_two (v := .slice va 1 vc) LS3.out RN3.out
  have NN1 := Lib.hid hN1
  have NN2 := Lib.hid hN2
  generalize (w3.alloc (.cells #[.int .i64 lv, .slice va 1 vc, .slice none 0 0] 32)).alloc (.cells #[.int .i64 lv, .slice va 1 vc, .slice none 0 0] 32) = W0 at ls rb1 rb2 ⊢
  have LS := Lib.hid ls
  have RB1 := Lib.hid rb1
  have RB2 := Lib.hid rb2
  clear ls rb1 rb2 LS3 RN3 LS2 HGET hN1 hN2
  by_cases hg : 0 ≤ leaf ∧ leaf < lv ∧ (kind = 0 ∨ kind = 1)
  · have HG := Lib.hid hg
    clear hg
    go_loopw [48] (fun i wr => ∃ (k : Nat) (v1 u1 v2 u2 : Value), k ≤ M ∧ i = .int .i64 k ∧ Hid (Ls w N wr p (nxSt leaf kind lv k).1) ∧ Hid (Rb N wr p w3.heap.size (nxSt leaf kind lv k).2 v1 u1) ∧ Hid (Rb N wr p (w3.heap.size + 1) (nxSt leaf kind lv k).2 v2 u2)) (fun i _ => M - (intOf i).toNat)
    case atStart => exact ⟨0, _, _, _, _, Nat.zero_le _, rfl, LS, RB1, RB2⟩
    case round =>
      obtain ⟨k, v1, u1, v2, u2, hk, rfl, HL, H1, H2⟩ := hrel
      clear LS RB1 RB2
      by_cases hlt : k < M
      · obtain ⟨rg, a0, b0, ab, ag, ar, rg2, st⟩ := nx_step HLV.out HG.out.1 HG.out.2.1 HG.out.2.2 (i := k) (by omega)
        have ST := Lib.hid st
        clear st
        generalize (nxSt leaf kind lv k).1 = L at rg a0 b0 ab ag ar rg2 ST HL
        generalize (nxSt leaf kind lv k).2 = r at rg a0 b0 ab ag ar rg2 ST H1 H2
        have hnx := next_law leaf kind HL.out H1.out.ring rg
        have hky := fun (w4 W : World) (ls : Ls w N w4 p (keyR L r leaf kind (nextG r leaf kind)).2.2.2) (rn : Ring N w4 p r v2 u2) (hb : Below w4.heap.size w4 W) => key_law leaf kind (k : Int) ls rn rg hb (by omega)
        rw [a0] at hnx
        rw [b0, ← ab, ← ar] at hky
        generalize hbL : (keyR (keyR L r leaf kind (nextG r leaf kind)).2.2.2 r leaf kind (k : Int)).2.2.2 = Lb at hky ST
        generalize keyR L r leaf kind (nextG r leaf kind) = a at ag rg2 hnx hky ST
        obtain ⟨x, r', ea, La⟩ := a
        dsimp only at ag rg2 hnx hky ST
        have dg : (x.gen != (k : Int)) = false := by simp [ag]
        have HNX := Lib.hid hnx
        have HKY := Lib.hid hky
        have RG2 := Lib.hid rg2
        obtain ⟨v1a, v1c, hv1, _⟩ := H1.out.ring.1.form
        subst hv1
        obtain ⟨u1a, u1c, hu1, _⟩ := H1.out.ring.2.form
        subst hu1
        obtain ⟨v2a, v2c, hv2, _⟩ := H2.out.ring.1.form
        subst hv2
        obtain ⟨u2a, u2c, hu2, _⟩ := H2.out.ring.2.form
        subst hu2
        obtain ⟨c0, c1, c2⟩ := row3_cells H1.out.at_
        clear rg a0 b0 ab ag ar rg2 hnx hky hbL
        go_wp2_with (first
          | (go_at_call 9; obtain ⟨bw, b16, b17⟩ := two_new (w := w4) (T := 40) (U := 32) (cs := #[.int .i64 x.gen, .int .i64 x.key, .int .i64 x.nonce]) (ds := #[.int .i64 r'.leaves, .slice v4a r'.nodes.length v4c, .slice u4a r'.chains.length u4c]); refine (HKY.out _ _ LS4.out RBK.out.ring bw).mono ?_; rintro en w5 ⟨v5, u5, rfl, ls5, rn5, lsW, kl5, nk5, _⟩; obtain ⟨v5a, v5c, hv5, _⟩ := rn5.1.form; subst hv5; obtain ⟨u5a, u5c, hu5, _⟩ := rn5.2.form; subst hu5; have n16 : ¬ N w4.heap.size := (fun h => by obtain ⟨_, _, h1, _⟩ := LS4.out.nw.typed _ h; have := heap_lt h1; omega); have n17 : ¬ N (w4.heap.size + 1) := (fun h => by obtain ⟨_, _, h1, _⟩ := LS4.out.nw.typed _ h; have := heap_lt h1; omega); have h16 := lsW.keepc kl5 b16 (by decide) (by decide) n16; have h17 := lsW.keepc kl5 b17 (by decide) (by decide) n17; have RWA := Lib.hid ((RN4.out.kl (LS4.out.bl bw).2).kl kl5); have RB14 := Lib.hid ((RBK.out.bl LS4.out bw).step kl5 nk5 NN2.out); have RB12 := Lib.hid ((RBJ.out.bl LS4.out bw).step kl5 nk5 NN1.out); have LS5 := Lib.hid ls5; have RN5 := Lib.hid rn5; have H16 := Lib.hid h16; have H17 := Lib.hid h17; clear ls5 rn5 lsW kl5 nk5 n16 n17 h16 h17 b16 b17 bw s0 s1 s2)
          | (go_at_call 10; refine HNX.out.mono ?_; rintro en w4 ⟨v4, u4, rfl, ls4, rn4, kl4, nk4⟩; obtain ⟨v4a, v4c, hv4, _⟩ := rn4.1.form; subst hv4; obtain ⟨u4a, u4c, hu4, _⟩ := rn4.2.form; subst hu4; have RBJ := Lib.hid (H1.out.step kl4 nk4 NN1.out); have RBK := Lib.hid (H2.out.step kl4 nk4 NN2.out); obtain ⟨bw, _, _⟩ := two_new (w := w4) (T := 40) (U := 32) (cs := #[.int .i64 x.gen, .int .i64 x.key, .int .i64 x.nonce]) (ds := #[.int .i64 r'.leaves, .slice v4a r'.nodes.length v4c, .slice u4a r'.chains.length u4c]); obtain ⟨s0, s1, s2⟩ := row3_cells (heap_bl bw RBK.out.at_); have LS4 := Lib.hid ls4; have RN4 := Lib.hid rn4; clear ls4 rn4 kl4 nk4 bw))
        obtain ⟨bw5, b19, b20⟩ := two_new (w := w5) (T := 40) (U := 32) (cs := #[.int .i64 x.gen, .int .i64 x.key, .int .i64 x.nonce]) (ds := #[.int .i64 r'.leaves, .slice v5a r'.nodes.length v5c, .slice u5a r'.chains.length u5c])
        have b16 := heap_bl bw5 H16.out
        have b17 := heap_bl bw5 H17.out
        obtain ⟨lsW, klW⟩ := LS5.out.bl bw5
        have ra := RWA.out.kl klW
        have rb := RN5.out.kl klW
        have r12 := RB12.out.bl LS5.out bw5
        have r14 := RB14.out.bl LS5.out bw5
        generalize hW5 : ((w5.alloc (.cells #[.int .i64 x.gen, .int .i64 x.key, .int .i64 x.nonce] 40)).alloc (.cells #[.int .i64 r'.leaves, .slice v5a r'.nodes.length v5c, .slice u5a r'.chains.length u5c] 32)) = W5 at bw5 b16 b17 b19 b20 lsW klW ra rb r12 r14 ⊢
        have RW4 := Lib.hid (fun (W' : World) (hb : Below W5.heap.size W5 W') => ra.kl (lsW.bl hb).2)
        have RW5 := Lib.hid (fun (W' : World) (hb : Below W5.heap.size W5 W') => rb.kl (lsW.bl hb).2)
        have B16 := Lib.hid b16
        have B17 := Lib.hid b17
        have B19 := Lib.hid b19
        have B20 := Lib.hid b20
        have LSW := Lib.hid lsW
        have R12 := Lib.hid r12
        have R14 := Lib.hid r14
        have HB6 := Lib.hid ((Below.refl W5.heap.size W5).drew)
        have hlt5 : w3.heap.size + 1 < w5.heap.size := heap_lt RB14.out.at_
        obtain ⟨y0, y1, y2⟩ := row3_cells b16
        obtain ⟨y3, y4, y5⟩ := row3_cells b19
        obtain ⟨y6, y7, y8⟩ := row3_cells b17
        obtain ⟨y9, y10, y11⟩ := row3_cells b20
        clear hW5 bw5 b16 b17 b19 b20 lsW klW ra rb r12 r14 RWA RN5 RB12 RB14 LS5 H16 H17 LS4 RN4 RBJ RBK HNX HKY c0 c1 c2
        go_region_held3 (fun w' => (w'.cell? ⟨w4.heap.size, 0, none⟩ = some (.int .i64 x.gen) ∧ w'.cell? ⟨w4.heap.size, 1, none⟩ = some (.int .i64 x.key) ∧ w'.cell? ⟨w4.heap.size, 2, none⟩ = some (.int .i64 x.nonce)) ∧ (w'.cell? ⟨w5.heap.size, 0, none⟩ = some (.int .i64 x.gen) ∧ w'.cell? ⟨w5.heap.size, 1, none⟩ = some (.int .i64 x.key) ∧ w'.cell? ⟨w5.heap.size, 2, none⟩ = some (.int .i64 x.nonce)) ∧ (w'.cell? ⟨w4.heap.size + 1, 0, none⟩ = some (.int .i64 r'.leaves) ∧ w'.cell? ⟨w4.heap.size + 1, 1, none⟩ = some (.slice v4a r'.nodes.length v4c) ∧ w'.cell? ⟨w4.heap.size + 1, 2, none⟩ = some (.slice u4a r'.chains.length u4c)) ∧ (w'.cell? ⟨w5.heap.size + 1, 0, none⟩ = some (.int .i64 r'.leaves) ∧ w'.cell? ⟨w5.heap.size + 1, 1, none⟩ = some (.slice v5a r'.nodes.length v5c) ∧ w'.cell? ⟨w5.heap.size + 1, 2, none⟩ = some (.slice u5a r'.chains.length u5c))) (go_keep) (first
          | (go_at_call 11; refine (SameInts_any (fun _ => True) _ _ (hasR r') (hasR r') _ HO7.out HO8.out).mono ?_; rintro en w9 ⟨rfl, hb9⟩; rw [show decide (hasR r' = hasR r') = true from decide_eq_true rfl]; have hB9 : Below W5.heap.size W5 w9 := HB8.out.trans (hb9.mono HB8.out.size); obtain ⟨y0, y1, y2⟩ := row3_cells (heap_bl hB9 B16.out); obtain ⟨y3, y4, y5⟩ := row3_cells (heap_bl hB9 B19.out); obtain ⟨y6, y7, y8⟩ := row3_cells (heap_bl hB9 B17.out); obtain ⟨y9, y10, y11⟩ := row3_cells (heap_bl hB9 B20.out); have HB9 := Lib.hid hB9; clear hb9 hB9)
          | (go_at_call 12; refine (sHas_any _ _ _ r' _ (RW5.out _ HB7.out).1 (RW5.out _ HB7.out).2 RG2.out.nodes (by have := RG2.out.chains; omega) (fun c hc => (RG2.out.kept c hc).1)).mono ?_; rintro en w8 ⟨v8, rfl, hb8, ho8⟩; obtain ⟨v8a, v8c, hv8⟩ := own_slice ho8; subst hv8; have hB8 : Below W5.heap.size W5 w8 := HB7.out.trans (hb8.mono HB7.out.size); obtain ⟨y0, y1, y2⟩ := row3_cells (heap_bl hB8 B16.out); obtain ⟨y3, y4, y5⟩ := row3_cells (heap_bl hB8 B19.out); obtain ⟨y6, y7, y8⟩ := row3_cells (heap_bl hB8 B17.out); obtain ⟨y9, y10, y11⟩ := row3_cells (heap_bl hB8 B20.out); have HB8 := Lib.hid hB8; have HO8 := Lib.hid (SlRep.of_ints (SlR.of_own (K := fun _ => True) ho8 (fun _ _ => trivial))); have HO7 := Lib.hid (HO7.out.step (Kp.of_all hb8) (fun _ _ h => h)); clear hb8 ho8 hB8)
          | (go_at_call 12; refine (sHas_any _ _ _ r' _ (RW4.out _ HB6.out).1 (RW4.out _ HB6.out).2 RG2.out.nodes (by have := RG2.out.chains; omega) (fun c hc => (RG2.out.kept c hc).1)).mono ?_; rintro en w7 ⟨v7, rfl, hb7, ho7⟩; obtain ⟨v7a, v7c, hv7⟩ := own_slice ho7; subst hv7; have hB7 : Below W5.heap.size W5 w7 := HB6.out.trans (hb7.mono HB6.out.size); obtain ⟨y0, y1, y2⟩ := row3_cells (heap_bl hB7 B16.out); obtain ⟨y3, y4, y5⟩ := row3_cells (heap_bl hB7 B19.out); obtain ⟨y6, y7, y8⟩ := row3_cells (heap_bl hB7 B17.out); obtain ⟨y9, y10, y11⟩ := row3_cells (heap_bl hB7 B20.out); have HB7 := Lib.hid hB7; have HO7 := Lib.hid (SlRep.of_ints (SlR.of_own (K := fun _ => True) ho7 (fun _ _ => trivial))); clear hb7 ho7 hB7))
        have h12 := heap_bl HB9.out R12.out.at_
        have h14 := heap_bl HB9.out R14.out.at_
        obtain ⟨z0, z1, z2⟩ := row3_cells h12
        obtain ⟨z3, z4, z5⟩ := row3_cells h14
        have f0 := frozen_of_row _ _ 0 _ _ h12
        have f1 := frozen_of_row _ _ 1 _ _ h12
        have f2 := frozen_of_row _ _ 2 _ _ h12
        have f3 := frozen_of_row _ _ 0 _ _ h14
        have f4 := frozen_of_row _ _ 1 _ _ h14
        have f5 := frozen_of_row _ _ 2 _ _ h14
        have ne1 : ¬ (w3.heap.size = w5.heap.size + 1) := by omega
        have ne2 : ¬ (w3.heap.size + 1 = w5.heap.size + 1) := by omega
        obtain ⟨l1, k1⟩ := ((LSW.out.bl HB9.out).1).set3 NN1.out (.int .i64 r'.leaves) (.slice v4a r'.nodes.length v4c) (.slice u4a r'.chains.length u4c)
        obtain ⟨l2, k2⟩ := l1.set3 NN2.out (.int .i64 r'.leaves) (.slice v5a r'.nodes.length v5c) (.slice u5a r'.chains.length u5c)
        have L2 := Lib.hid l2
        have RB1' := Lib.hid (Rb.mk (((RW4.out _ HB9.out).kl k1).kl k2) (by rw [heap_set3 (by omega)]; exact same_set3 h12 _ _ _) : Rb N _ p w3.heap.size r' _ _)
        have RB2' := Lib.hid (Rb.mk (((RW5.out _ HB9.out).kl k1).kl k2) (same_set3 (by rw [heap_set3 (by omega)]; exact h14) _ _ _) : Rb N _ p (w3.heap.size + 1) r' _ _)
        clear h12 h14 l1 k1 l2 k2
        go_wp2_with fail
        go_round
        case rel => exact ⟨k + 1, _, _, _, _, by omega, by go_num, by rw [ST.out]; exact L2, by rw [ST.out]; exact RB1', by rw [ST.out]; exact RB2'⟩
        case measure => simp [intOf]; omega
      · obtain rfl : k = M := by omega
        go_wp2_with fail
        go_ret
        exact ⟨rfl, HL.out.below⟩
  · have hbad : ∀ g, keyR (atoms 3) (ring0 lv) leaf kind g = (⟨0, 0, 0⟩, ⟨0, [], []⟩, 1, atoms 3) := by
      intro g
      unfold keyR
      rw [if_pos]
      show leaf < 0 ∨ lv ≤ leaf ∨ (kind ≠ 0 ∧ kind ≠ 1) ∨ g < 0
      omega
    have hrg : Rg (ring0 lv) := by
      refine ⟨?_, by simp [ring0], by simp [ring0], fun c hc => by simp [ring0] at hc⟩
      show lv ≤ 100000
      have := HLV.out; omega
    have HRG := Lib.hid hrg
    have hnx := next_law leaf kind LS.out RB1.out.ring hrg
    have hky := fun (i : Nat) (hi : i ≤ 20) (w4 W : World) (ls : Ls w N w4 p (atoms 3)) (rn : Ring N w4 p (ring0 lv) (.slice va 1 vc) (.slice none 0 0)) (hb : Below w4.heap.size w4 W) => key_law leaf kind (i : Int) ls rn hrg hb (by omega)
    simp only [hbad] at hnx hky
    have HNX := Lib.hid hnx
    have HKY := Lib.hid hky
    clear hg hbad hrg hnx hky
    obtain ⟨c0, c1, c2⟩ := row3_cells RB1.out.at_
    go_loopw [48] (fun i wr => i = .int .i64 0 ∧ wr = W0) (fun _ _ => 0)
    case atStart => exact ⟨rfl, rfl⟩
    case round =>
      obtain ⟨rfl, rfl⟩ := hrel
      by_cases h0 : 0 < M
      · go_wp2_with (first
          | (go_at_call 9; refine (HKY.out 0 (by omega) _ _ LS4.out RN4.out BW4.out).mono ?_; rintro en w5 ⟨v5, u5, rfl, ls5, rn5, _⟩; obtain ⟨v5a, v5c, hv5, _⟩ := rn5.1.form; subst hv5; obtain ⟨u5a, u5c, hu5, _⟩ := rn5.2.form; subst hu5; have LS5 := Lib.hid ls5; clear ls5 rn5)
          | (go_at_call 10; refine HNX.out.mono ?_; rintro en w4 ⟨v4, u4, rfl, ls4, rn4, kl4, nk4⟩; obtain ⟨v4a, v4c, hv4, _⟩ := rn4.1.form; subst hv4; obtain ⟨u4a, u4c, hu4, _⟩ := rn4.2.form; subst hu4; have rb4 := RB2.out.step kl4 nk4 NN2.out; obtain ⟨bw, _, _⟩ := two_new (w := w4) (T := 40) (U := 32) (cs := #[.int .i64 0, .int .i64 0, .int .i64 0]) (ds := #[.int .i64 0, .slice v4a 0 v4c, .slice u4a 0 u4c]); obtain ⟨s0, s1, s2⟩ := row3_cells (heap_bl bw rb4.at_); have LS4 := Lib.hid ls4; have RN4 := Lib.hid rb4.ring; have BW4 := Lib.hid bw; clear ls4 rn4 kl4 nk4 rb4 bw))
        go_ret
        exact ⟨rfl, (LS5.out.bl (((Below.refl _ _).alloc (Nat.le_refl _) _).alloc (by simp) _)).1.below⟩
      · obtain rfl : M = 0 := by omega
        go_wp2_with fail
        go_ret
        exact ⟨rfl, LS.out.below⟩

end Go.Proofs.YtnkndplbcbehkaaDoor
