/-
  SecretsOrder: its walk.
-/
import Derived.Test.YtnkndplbcbehkaaDoorLawO
set_option linter.unusedVariables false
set_option linter.unusedSimpArgs false
namespace Go.Proofs.YtnkndplbcbehkaaDoor
open Go.RowKit Go.Cas
set_option maxHeartbeats 16000000
set_option maxRecDepth 20000

theorem sOrder_walk (w : World) (lv0 : Int) (lv_ : Value) (l : List OpR) (hE : Env (fun _ => False) w) (hl : OpsAt w lv_ l) (hw : ∀ o ∈ l, In64 o.leaf ∧ In64 o.kind ∧ In64 o.gen) :
    Calls Tryd.prog 3 #[.int .i64 lv0, lv_] w fun e w' => e = .returned (.bool true) ∧ Below w.heap.size w w' := by
  obtain ⟨la, lc, rfl, _, hlm, hlo⟩ := hl
  unfold maxLen at hlm
  have HE := Lib.hid hE
  have HLO := Lib.hid hlo
  have HW := Lib.hid hw
  obtain ⟨lv, hlv, hx0, hx1, hget⟩ := lv_idx lv0
  have HLV := Lib.hid hlv
  have HGET := Lib.hid hget
  have hmm := @run_makeMap Tryd.prog
  clear hE hlv hget hlo hw
  by_cases hlen : l.length ≤ 25
  · go_enter Tryd.func3, Tryd.ntmps3
    go_wp2_with (first
      | (go_at_call 6; refine (live_any w HE.out).mono ?_; rintro en w1 ⟨rfl, hb1⟩; have HB1 := Lib.hid (hb1.alloc hb1.size (.cells #[.int .i64 1, .int .i64 2, .int .i64 4, .int .i64 8] 3)); clear hb1))
    simp only [HGET.out]
    generalize w1.alloc (.cells #[.int .i64 1, .int .i64 2, .int .i64 4, .int .i64 8] 3) = w1' at HB1 ⊢
    go_wp2_with (first
      | (go_at_call 7; refine (two_any w1' (HE.out.below HB1.out)).mono ?_; rintro en w2 ⟨p, q, rfl, hb2, ha2, hf2⟩; have LS2 := Lib.hid (ls_start HE.out (HB1.out.trans (hb2.mono HB1.out.size)) ha2 (fun b hb => Nat.le_trans HB1.out.size (hf2 b hb))); clear hb2 ha2 hf2)
      | (go_at_call 8; refine (sNew_any p _ (atoms 3) (w3.alloc (.cells #[.int .i64 lv, .slice va 1 vc, .slice none 0 0] 32)) lv 0 LS3.out.ar (full4 HLV.out) (by decide) (by decide)).mono ?_; rintro en w4 ⟨v4, rfl, hb4, hv4⟩; obtain ⟨v4a, v4c, hv, _⟩ := hv4.form; subst hv; have rn4 := ring_new LS3.out hb4 hv4; have rb4 := RB3.out.bl LS3.out hb4; obtain ⟨N, hN, hNN, ls4, r4, r4'⟩ := own_one (v := .slice v4a 1 v4c) (LS3.out.bl hb4).1 rn4; have OD := Lib.hid (od_start ls4 (r4' _ _ _ _ rb4) r4); have NST := Lib.hid (show w3.heap.size ≠ w4.heap.size by have h := hb4.size; rw [World.alloc_size] at h; omega); have NT := Lib.hid hN; have NS := Lib.hid (hNN _ NS3.out); clear hb4 hv4 rn4 rb4 hNN hN ls4 r4 r4')
      | (go_at_call 8; refine (sNew_any p _ (atoms 3) w2 lv 0 LS2.out.ar (full4 HLV.out) (by decide) (by decide)).mono ?_; rintro en w3 ⟨v, rfl, hb3, hv3⟩; obtain ⟨va, vc, hv, _⟩ := hv3.form; subst hv; have rn3 := ring_new LS2.out hb3 hv3; obtain ⟨N3, hN3, _, ls3, rb3, _⟩ := own_one (v := .slice va 1 vc) (LS2.out.bl hb3).1 rn3; have NS3 := Lib.hid hN3; have LS3 := Lib.hid ls3; have RB3 := Lib.hid rb3; clear hb3 hv3 rn3 hN3 ls3 rb3))
    rw [World.alloc_size] at OD
    have BD := Lib.hid (bd_start HLV.out)
    clear RB3 LS3 LS2 HGET hmm
    generalize (w4.alloc (.cells #[.int .i64 lv, .slice v4a 1 v4c, .slice none 0 0] 32)).alloc (.map #[] 0) = W0 at OD ⊢
    go_loopw [62] (fun i wr => ∃ (k : Nat) (L : List Nd) (D : DataW Unit) (r1 : Kr) (v1 u1 : Value), k ≤ l.length ∧ i = .int .i64 k ∧ Hid (Od w N wr p (w4.heap.size + 1) w3.heap.size w4.heap.size lv k L D r1 (ring0 lv) v1 u1 (.slice v4a 1 v4c) (.slice none 0 0)) ∧ Hid (Bd k r1)) (fun i _ => l.length - (intOf i).toNat)
    case atStart => exact ⟨0, _, _, _, _, _, Nat.zero_le _, rfl, OD, BD⟩
    case round =>
      obtain ⟨k, L, D, r1, v1, u1, hk, rfl, OD, BD⟩ := hrel
      by_cases hlt : k < l.length
      · obtain ⟨b, off, rfl, hi⟩ := HLO.out (by omega)
        obtain ⟨x, hx⟩ : ∃ x, l[k]? = some x := ⟨_, List.getElem?_eq_getElem hlt⟩
        have hi' := hi k x hx
        have hi2 := fun j u hj => cell_bl OD.out.ls.below (hi' j u hj)
        have hc0 : wr.cell? ⟨b, off + k * 4, none⟩ = some _ := (by have := hi2 0 _ rfl; rw [← Nat.add_assoc] at this; exact this)
        have hc1 : wr.cell? ⟨b, off + k * 4 + 1, none⟩ = some _ := (by have := hi2 1 _ rfl; rw [← Nat.add_assoc] at this; exact this)
        have hc2 : wr.cell? ⟨b, off + k * 4 + 2, none⟩ = some _ := (by have := hi2 2 _ rfl; rw [← Nat.add_assoc] at this; exact this)
        have hc3 : wr.cell? ⟨b, off + k * 4 + 3, none⟩ = some _ := (by have := hi2 3 _ rfl; rw [← Nat.add_assoc] at this; exact this)
        obtain ⟨hw1, hw2, hw3⟩ := HW.out x (List.mem_of_getElem? hx)
        obtain ⟨kl, hkl⟩ := op_key x.leaf x.kind x.gen false hw1 hw2 hw3
        have HKL := Lib.hid hkl
        have HG := Lib.hid hw3
        clear hi hi' hi2 hx hw1 hw2 hw3 hkl
        obtain ⟨v1a, v1c, hv1, _⟩ := OD.out.one.ring.1.form
        subst hv1
        obtain ⟨u1a, u1c, hu1, _⟩ := OD.out.one.ring.2.form
        subst hu1
        have hbW : Below wr.heap.size wr (wr.alloc (.cells #[.int .i64 x.leaf, .int .i64 x.kind, .int .i64 x.gen, .bool false] 38)) := (Below.refl _ _).alloc (Nat.le_refl _) _
        obtain ⟨hpre, hok⟩ := keyR_spec L r1 x.leaf x.kind x.gen OD.out.ri1
        have hbd := fun h => keyR_bd (L := L) (leaf := x.leaf) (kind := x.kind) (gen := x.gen) BD.out h
        have hky := key_law x.leaf x.kind x.gen OD.out.ls OD.out.one.ring (BD.out.rg (by omega)) hbW HG.out.2
        have hbx := heap_new wr (.cells #[.int .i64 x.leaf, .int .i64 x.kind, .int .i64 x.gen, .bool false] 38)
        have odW := OD.out.bl hbW
        have hsB := heap_lt OD.out.one.at_
        have nbx : ¬ N wr.heap.size := (fun h => by obtain ⟨_, _, h1, _⟩ := OD.out.ls.nw.typed _ h; have := heap_lt h1; omega)
        obtain ⟨b0, b1, b2⟩ := row3_cells odW.one.at_
        have ODW := Lib.hid odW
        generalize keyR L r1 x.leaf x.kind x.gen = a at hpre hok hbd hky
        obtain ⟨y, r', ea, La⟩ := a
        dsimp only at hpre hok hbd hky
        have HKY := Lib.hid hky
        have HPRE := Lib.hid hpre
        have HBX := Lib.hid hbx
        have NBX := Lib.hid nbx
        have HSB := Lib.hid hsB
        clear hky hpre hbx nbx hsB hbW odW
        by_cases h0 : ea = 0
        · subst h0
          obtain ⟨_, hks, hri⟩ := hok rfl
          have HKS := Lib.hid hks
          have HRI := Lib.hid hri
          have HBD := Lib.hid (hbd rfl)
          clear hok hks hri hbd
          go_wp2_with (first
            | (go_at_call 9; refine HKY.out.mono ?_; rintro en w6 ⟨v6, u6, rfl, ls6, rn6, lsW, kl6, nk6, _⟩; obtain ⟨v6a, v6c, hv6, _⟩ := rn6.1.form; subst hv6; obtain ⟨u6a, u6c, hu6, _⟩ := rn6.2.form; subst hu6; have hb6 := two_new (w := w6) (T := 40) (U := 32) (cs := #[.int .i64 y.gen, .int .i64 y.key, .int .i64 y.nonce]) (ds := #[.int .i64 r'.leaves, .slice v6a r'.nodes.length v6c, .slice u6a r'.chains.length u6c]); have od6 := (ODW.out.key NS.out NT.out ls6 kl6 nk6 HPRE.out).bl hb6.1; have OD7 := Lib.hid (od6.set1 NS.out NT.out NST.out (rn6.kl (ls6.bl hb6.1).2) HRI.out); obtain ⟨p0, p1, p2, p3⟩ := row4_cells (heap_bl hb6.1 (lsW.keepc kl6 HBX.out (by decide) (by decide) NBX.out)); have hs6 := od6.one.at_; obtain ⟨z0, z1, z2⟩ := row3_cells hs6; have g0 := frozen_of_row _ _ 0 _ _ hs6; have g1 := frozen_of_row _ _ 1 _ _ hs6; have g2 := frozen_of_row _ _ 2 _ _ hs6; have hz6 := kl6.base.2.2.2; rw [World.alloc_size] at hz6; have n1 : ¬ (w3.heap.size = w6.heap.size) := (by have := HSB.out; omega); have n2 : ¬ (w3.heap.size = w6.heap.size + 1) := (by have := HSB.out; omega); have n3 : ¬ (wr.heap.size = w3.heap.size) := (by have := HSB.out; omega); have n4 : ¬ (w6.heap.size = w3.heap.size) := (by omega); have n5 : ¬ (w6.heap.size + 1 = w3.heap.size) := (by omega); clear ls6 rn6 lsW kl6 nk6 hb6 od6 hs6 hz6)
            | (at_mapUpdate; refine wpList_mapUpdate_own _ rfl _ _ _ 36 rfl 38 40 op_law Tryd.underlying36 gkRd (w4.heap.size + 1) k D rfl OD7.out.map (by unfold maxLen; omega) _ _ _ rfl rfl HKL.out _ [] (gkRd_mk _ _ _) ?_; intro w8 ho8 hg8; have OD8 := Lib.hid (OD7.out.put ho8 hg8 (OD7.out.ti.put OD7.out.map.isMap HKL.out HKS.out)); clear ho8 hg8))
          go_round
          case rel => exact ⟨k + 1, _, _, _, _, _, by omega, by go_num, OD8, HBD⟩
          case measure => simp [intOf]; omega
        · have d0 : (ea == 0) = false := by simpa using h0
          clear hok hbd h0
          go_wp2_with (first
            | (go_at_call 9; refine HKY.out.mono ?_; rintro en w6 ⟨v6, u6, rfl, ls6, rn6, lsW, kl6, nk6, _⟩; obtain ⟨v6a, v6c, hv6, _⟩ := rn6.1.form; subst hv6; obtain ⟨u6a, u6c, hu6, _⟩ := rn6.2.form; subst hu6; have hb6 := two_new (w := w6) (T := 40) (U := 32) (cs := #[.int .i64 y.gen, .int .i64 y.key, .int .i64 y.nonce]) (ds := #[.int .i64 r'.leaves, .slice v6a r'.nodes.length v6c, .slice u6a r'.chains.length u6c]); have OD6 := Lib.hid ((ODW.out.key NS.out NT.out ls6 kl6 nk6 HPRE.out).bl hb6.1); clear ls6 rn6 lsW kl6 nk6 hb6))
          go_round
          case rel => exact ⟨k + 1, _, _, _, _, _, by omega, by go_num, Lib.hid OD6.out.more, Lib.hid (BD.out.mono (Nat.le_succ _))⟩
          case measure => simp [intOf]; omega
      · obtain rfl : k = l.length := by omega
        clear hlt
        obtain ⟨v1a, v1c, hv1, _⟩ := OD.out.one.ring.1.form
        subst hv1
        obtain ⟨u1a, u1c, hu1, _⟩ := OD.out.one.ring.2.form
        subst hu1
        have BD2 := Lib.hid (bd_start HLV.out)
        generalize hn0 : l.length = n0 at *
        have HN0 := Lib.hid hn0
        clear hn0 BD
        go_wp2_with fail
        go_loopw [89] (fun i wr => ∃ (k : Nat) (L : List Nd) (r2 : Kr) (v2 u2 : Value), k ≤ n0 ∧ i = .int .i64 k ∧ Hid (Od w N wr p (w4.heap.size + 1) w3.heap.size w4.heap.size lv n0 L D r1 r2 (.slice v1a r1.nodes.length v1c) (.slice u1a r1.chains.length u1c) v2 u2) ∧ Hid (Bd k r2)) (fun i _ => n0 - (intOf i).toNat)
        case atStart => exact ⟨0, _, _, _, _, Nat.zero_le _, rfl, OD, BD2⟩
        case round =>
          clear OD BD2
          obtain ⟨k, L, r2, v2, u2, hk, rfl, OD, BD⟩ := hrel
          by_cases hlt : k < n0
          · obtain ⟨b, off, rfl, hi⟩ := HLO.out (by omega)
            obtain ⟨x, hx⟩ : ∃ x, l[n0 - 1 - k]? = some x := ⟨_, List.getElem?_eq_getElem (by rw [HN0.out]; omega)⟩
            have hi' := hi (n0 - 1 - k) x hx
            have hxw := HW.out x (List.mem_of_getElem? hx)
            have hi2 := fun i u hj => cell_bl OD.out.ls.below (hi' i u hj)
            have hc0 : wr.cell? ⟨b, off + (n0 - 1 - k) * 4, none⟩ = some _ := (by have := hi2 0 _ rfl; rw [← Nat.add_assoc] at this; exact this)
            have hc1 : wr.cell? ⟨b, off + (n0 - 1 - k) * 4 + 1, none⟩ = some _ := (by have := hi2 1 _ rfl; rw [← Nat.add_assoc] at this; exact this)
            have hc2 : wr.cell? ⟨b, off + (n0 - 1 - k) * 4 + 2, none⟩ = some _ := (by have := hi2 2 _ rfl; rw [← Nat.add_assoc] at this; exact this)
            have hc3 : wr.cell? ⟨b, off + (n0 - 1 - k) * 4 + 3, none⟩ = some _ := (by have := hi2 3 _ rfl; rw [← Nat.add_assoc] at this; exact this)
            obtain ⟨hw1, hw2, hw3⟩ := hxw
            obtain ⟨kl, hkl⟩ := op_key x.leaf x.kind x.gen false hw1 hw2 hw3
            have HKL := Lib.hid hkl
            have HG := Lib.hid hw3
            clear hi hi' hi2 hx hw1 hw2 hw3 hkl
            obtain ⟨v2a, v2c, hv2, _⟩ := OD.out.two.ring.1.form
            subst hv2
            obtain ⟨u2a, u2c, hu2, _⟩ := OD.out.two.ring.2.form
            subst hu2
            have hbW : Below wr.heap.size wr (wr.alloc (.cells #[.int .i64 x.leaf, .int .i64 x.kind, .int .i64 x.gen, .bool false] 38)) := (Below.refl _ _).alloc (Nat.le_refl _) _
            obtain ⟨hpre, hok⟩ := keyR_spec L r2 x.leaf x.kind x.gen OD.out.ri2
            have hbd := fun h => keyR_bd (L := L) (leaf := x.leaf) (kind := x.kind) (gen := x.gen) BD.out h
            have hky := key_law x.leaf x.kind x.gen OD.out.ls OD.out.two.ring (BD.out.rg (by omega)) hbW HG.out.2
            have hbx := heap_new wr (.cells #[.int .i64 x.leaf, .int .i64 x.kind, .int .i64 x.gen, .bool false] 38)
            have odW := OD.out.bl hbW
            have hsB := heap_lt OD.out.two.at_
            have nbx : ¬ N wr.heap.size := (fun h => by obtain ⟨_, _, h1, _⟩ := OD.out.ls.nw.typed _ h; have := heap_lt h1; omega)
            obtain ⟨b0, b1, b2⟩ := row3_cells odW.two.at_
            have ODW := Lib.hid odW
            generalize keyR L r2 x.leaf x.kind x.gen = a at hpre hok hbd hky
            obtain ⟨y, r', ea, La⟩ := a
            dsimp only at hpre hok hbd hky
            have HKY := Lib.hid hky
            have HPRE := Lib.hid hpre
            have HBX := Lib.hid hbx
            have NBX := Lib.hid nbx
            have HSB := Lib.hid hsB
            clear hky hpre hbx nbx hsB hbW odW
            by_cases h0 : ea = 0
            · subst h0
              obtain ⟨_, hks, hri⟩ := hok rfl
              have HKS := Lib.hid hks
              have HRI := Lib.hid hri
              have HBD := Lib.hid (hbd rfl)
              clear hok hbd
              have TI := Lib.hid (OD.out.ti.mono HPRE.out)
              by_cases hh : Maps.has D kl = true
              · have HAT := Lib.hid (fun hn => TI.out.same (L := La) hn HKL.out hks hh (gkD 0 0 0))
                have HH := Lib.hid hh
                clear hks hri hh
                go_wp2_with (first
                  | (go_at_call 9; refine HKY.out.mono ?_; rintro en w6 ⟨v6, u6, rfl, ls6, rn6, lsW, kl6, nk6, _⟩; obtain ⟨v6a, v6c, hv6, _⟩ := rn6.1.form; subst hv6; obtain ⟨u6a, u6c, hu6, _⟩ := rn6.2.form; subst hu6; have hb6 := two_new (w := w6) (T := 40) (U := 32) (cs := #[.int .i64 y.gen, .int .i64 y.key, .int .i64 y.nonce]) (ds := #[.int .i64 r'.leaves, .slice v6a r'.nodes.length v6c, .slice u6a r'.chains.length u6c]); have HAT := Lib.hid (HAT.out (by obtain ⟨_, _, _, _, _, _, _, _, _, _, _, _, h⟩ := ls6.ar; exact h.1)); have od6 := (ODW.out.key NS.out NT.out ls6 kl6 nk6 HPRE.out).bl hb6.1; have OD7 := Lib.hid (od6.set2 NS.out NT.out NST.out (rn6.kl (ls6.bl hb6.1).2) HRI.out); obtain ⟨p0, p1, p2, p3⟩ := row4_cells (heap_bl hb6.1 (lsW.keepc kl6 HBX.out (by decide) (by decide) NBX.out)); have hs6 := od6.two.at_; obtain ⟨z0, z1, z2⟩ := row3_cells hs6; have g0 := frozen_of_row _ _ 0 _ _ hs6; have g1 := frozen_of_row _ _ 1 _ _ hs6; have g2 := frozen_of_row _ _ 2 _ _ hs6; have hz6 := kl6.base.2.2.2; rw [World.alloc_size] at hz6; have n1 : ¬ (w4.heap.size = w6.heap.size) := (by have := HSB.out; omega); have n2 : ¬ (w4.heap.size = w6.heap.size + 1) := (by have := HSB.out; omega); have n3 : ¬ (wr.heap.size = w4.heap.size) := (by have := HSB.out; omega); have n4 : ¬ (w6.heap.size = w4.heap.size) := (by omega); have n5 : ¬ (w6.heap.size + 1 = w4.heap.size) := (by omega); clear ls6 rn6 lsW kl6 nk6 hb6 od6 hs6 hz6)
                  | (at_lookup; refine look_gk rfl _ _ rfl (w4.heap.size + 1) n0 D rfl OD7.out.map _ _ rfl HKL.out _ _ _ HAT.out true HH.out ?_))
                go_round
                case rel => exact ⟨k + 1, _, _, _, _, by omega, by go_num, Lib.hid (OD7.out.bl ((Below.refl _ _).alloc (Nat.le_refl _) _)), HBD⟩
                case measure => simp [intOf]; omega
              · have hh' : Maps.has D kl = false := by simpa using hh
                have HAT := Lib.hid (Maps.atKey_of_not_has hh' (gkD 0 0 0))
                have HH := Lib.hid hh'
                clear hks hri hh hh'
                go_wp2_with (first
                  | (go_at_call 9; refine HKY.out.mono ?_; rintro en w6 ⟨v6, u6, rfl, ls6, rn6, lsW, kl6, nk6, _⟩; obtain ⟨v6a, v6c, hv6, _⟩ := rn6.1.form; subst hv6; obtain ⟨u6a, u6c, hu6, _⟩ := rn6.2.form; subst hu6; have hb6 := two_new (w := w6) (T := 40) (U := 32) (cs := #[.int .i64 y.gen, .int .i64 y.key, .int .i64 y.nonce]) (ds := #[.int .i64 r'.leaves, .slice v6a r'.nodes.length v6c, .slice u6a r'.chains.length u6c]); have od6 := (ODW.out.key NS.out NT.out ls6 kl6 nk6 HPRE.out).bl hb6.1; have OD7 := Lib.hid (od6.set2 NS.out NT.out NST.out (rn6.kl (ls6.bl hb6.1).2) HRI.out); obtain ⟨p0, p1, p2, p3⟩ := row4_cells (heap_bl hb6.1 (lsW.keepc kl6 HBX.out (by decide) (by decide) NBX.out)); have hs6 := od6.two.at_; obtain ⟨z0, z1, z2⟩ := row3_cells hs6; have g0 := frozen_of_row _ _ 0 _ _ hs6; have g1 := frozen_of_row _ _ 1 _ _ hs6; have g2 := frozen_of_row _ _ 2 _ _ hs6; have hz6 := kl6.base.2.2.2; rw [World.alloc_size] at hz6; have n1 : ¬ (w4.heap.size = w6.heap.size) := (by have := HSB.out; omega); have n2 : ¬ (w4.heap.size = w6.heap.size + 1) := (by have := HSB.out; omega); have n3 : ¬ (wr.heap.size = w4.heap.size) := (by have := HSB.out; omega); have n4 : ¬ (w6.heap.size = w4.heap.size) := (by omega); have n5 : ¬ (w6.heap.size + 1 = w4.heap.size) := (by omega); clear ls6 rn6 lsW kl6 nk6 hb6 od6 hs6 hz6)
                  | (at_lookup; refine look_gk rfl _ _ rfl (w4.heap.size + 1) n0 D rfl OD7.out.map _ _ rfl HKL.out _ _ _ HAT.out false HH.out ?_))
                go_round
                case rel => exact ⟨k + 1, _, _, _, _, by omega, by go_num, Lib.hid (OD7.out.bl ((Below.refl _ _).alloc (Nat.le_refl _) _)), HBD⟩
                case measure => simp [intOf]; omega
            · have d0 : (ea != 0) = true := by simpa using h0
              clear hok hbd h0
              go_wp2_with (first
                | (go_at_call 9; refine HKY.out.mono ?_; rintro en w6 ⟨v6, u6, rfl, ls6, rn6, lsW, kl6, nk6, _⟩; obtain ⟨v6a, v6c, hv6, _⟩ := rn6.1.form; subst hv6; obtain ⟨u6a, u6c, hu6, _⟩ := rn6.2.form; subst hu6; have hb6 := two_new (w := w6) (T := 40) (U := 32) (cs := #[.int .i64 y.gen, .int .i64 y.key, .int .i64 y.nonce]) (ds := #[.int .i64 r'.leaves, .slice v6a r'.nodes.length v6c, .slice u6a r'.chains.length u6c]); have OD6 := Lib.hid ((ODW.out.key NS.out NT.out ls6 kl6 nk6 HPRE.out).bl hb6.1); clear ls6 rn6 lsW kl6 nk6 hb6))
              go_round
              case rel => exact ⟨k + 1, _, _, _, _, by omega, by go_num, OD6, Lib.hid (BD.out.mono (Nat.le_succ _))⟩
              case measure => simp [intOf]; omega
          · obtain rfl : k = n0 := by omega
            go_wp2_with fail
            go_ret
            exact ⟨rfl, OD.out.ls.below⟩
  · go_enter Tryd.func3, Tryd.ntmps3
    go_wp2_with (first
      | (go_at_call 6; refine (live_any w HE.out).mono ?_; rintro en w1 ⟨rfl, hb1⟩; have HB1 := Lib.hid hb1; clear hb1))
    go_ret
    exact ⟨rfl, HB1.out⟩

end Go.Proofs.YtnkndplbcbehkaaDoor
