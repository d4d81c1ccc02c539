/-
  SecretsApart: its walk.
-/
import Derived.Test.YtnkndplbcbehkaaDoorLawA
set_option linter.unusedVariables false
set_option linter.unusedSimpArgs false
namespace Go.Proofs.YtnkndplbcbehkaaDoor
open Go.RowKit Go.Cas
set_option maxHeartbeats 16000000
set_option maxRecDepth 20000

theorem sApart_walk (w : World) (lv0 : Int) (lv_ : Value) (l : List OpR) (hE : Env (fun _ => False) w) (hl : OpsAt w lv_ l) (hw : ∀ o ∈ l, o.gen ≤ 9223372036854775807) :
    Calls Tryd.prog 4 #[.int .i64 lv0, lv_] w fun e w' => e = .returned (.bool true) ∧ Below w.heap.size w w' := by
  obtain ⟨la, lc, rfl, _, hlm, hlo⟩ := hl
  unfold maxLen at hlm
  have HE := Lib.hid hE
  have HLO := Lib.hid hlo
  have HW := Lib.hid hw
  obtain ⟨lv, hlv, hx0, hx1, hget⟩ := lv_idx lv0
  have HLV := Lib.hid hlv
  have HGET := Lib.hid hget
  have hmm := @run_makeMap Tryd.prog
  clear hE hlv hget hlo hw
  by_cases hlen : l.length ≤ 25
  · go_enter Tryd.func4, Tryd.ntmps4
    go_wp2_with (first
      | (go_at_call 6; refine (live_any w HE.out).mono ?_; rintro en w1 ⟨rfl, hb1⟩; have HB1 := Lib.hid (hb1.alloc hb1.size (.cells #[.int .i64 1, .int .i64 2, .int .i64 4, .int .i64 8] 3)); clear hb1))
    simp only [HGET.out]
    generalize w1.alloc (.cells #[.int .i64 1, .int .i64 2, .int .i64 4, .int .i64 8] 3) = w1' at HB1 ⊢
    go_wp2_with (first
      | (go_at_call 7; refine (two_any w1' (HE.out.below HB1.out)).mono ?_; rintro en w2 ⟨p, q, rfl, hb2, ha2, hf2⟩; have LS2 := Lib.hid (ls_start HE.out (HB1.out.trans (hb2.mono HB1.out.size)) ha2 (fun b hb => Nat.le_trans HB1.out.size (hf2 b hb))); clear hb2 ha2 hf2)
      | (go_at_call 8; refine (sNew_any p _ (atoms 3) w2 lv 0 LS2.out.ar (full4 HLV.out) (by decide) (by decide)).mono ?_; rintro en w3 ⟨v, rfl, hb3, hv3⟩; obtain ⟨va, vc, hv, _⟩ := hv3.form; subst hv; have RN3 := Lib.hid (ring_new LS2.out hb3 hv3); have LS3 := Lib.hid (LS2.out.bl hb3).1; clear hb3 hv3))
    have AP := Lib.hid (ap_start LS3.out RN3.out)
    clear LS3 RN3 LS2 HGET hmm
    generalize (w3.alloc (.cells #[.int .i64 lv, .slice va 1 vc, .slice none 0 0] 32)).alloc (.map #[] 0) = W0 at AP ⊢
    go_loopw [45] (fun i wr => ∃ (k : Nat) (L : List Nd) (D : DataW Unit), k ≤ l.length ∧ i = .int .i64 k ∧ Hid (Ap w wr p (w3.heap.size + 1) w3.heap.size lv (.slice va 1 vc) k L D)) (fun i _ => l.length - (intOf i).toNat)
    case atStart => exact ⟨0, _, _, Nat.zero_le _, rfl, AP⟩
    case round =>
      obtain ⟨k, L, D, hk, rfl, AP⟩ := hrel
      by_cases hlt : k < l.length
      · obtain ⟨b, off, rfl, hi⟩ := HLO.out (by omega)
        obtain ⟨x, hx⟩ : ∃ x, l[k]? = some x := ⟨_, List.getElem?_eq_getElem hlt⟩
        have hi' := hi k x hx
        have hi2 := fun j u hj => cell_bl AP.out.ls.below (hi' j u hj)
        have hc0 : wr.cell? ⟨b, off + k * 4, none⟩ = some _ := (by have := hi2 0 _ rfl; rw [← Nat.add_assoc] at this; exact this)
        have hc1 : wr.cell? ⟨b, off + k * 4 + 1, none⟩ = some _ := (by have := hi2 1 _ rfl; rw [← Nat.add_assoc] at this; exact this)
        have hc2 : wr.cell? ⟨b, off + k * 4 + 2, none⟩ = some _ := (by have := hi2 2 _ rfl; rw [← Nat.add_assoc] at this; exact this)
        have hc3 : wr.cell? ⟨b, off + k * 4 + 3, none⟩ = some _ := (by have := hi2 3 _ rfl; rw [← Nat.add_assoc] at this; exact this)
        have hgen := HW.out x (List.mem_of_getElem? hx)
        clear hi hi' hi2 hx
        have hri : RI L lv (ring0 lv) := ri_start L lv
        obtain ⟨hpre, hok⟩ := keyR_spec L (ring0 lv) x.leaf x.kind x.gen hri
        have hrg : Rg (ring0 lv) := by
          refine ⟨?_, by simp [ring0], by simp [ring0], fun c hc => by simp [ring0] at hc⟩
          show lv ≤ 100000
          have := HLV.out; omega
        have hbW : Below wr.heap.size wr (wr.alloc (.cells #[.int .i64 x.leaf, .int .i64 x.kind, .int .i64 x.gen, .bool false] 38)) := (Below.refl _ _).alloc (Nat.le_refl _) _
        have hky := key_law x.leaf x.kind x.gen AP.out.ls AP.out.ring hrg hbW hgen
        have hbx := heap_new wr (.cells #[.int .i64 x.leaf, .int .i64 x.kind, .int .i64 x.gen, .bool false] 38)
        have APW := Lib.hid (AP.out.bl hbW)
        obtain ⟨b0, b1, b2⟩ := row3_cells APW.out.box
        generalize keyR L (ring0 lv) x.leaf x.kind x.gen = a at hpre hok hky
        obtain ⟨y, r', ea, La⟩ := a
        dsimp only at hpre hok hky
        have HKY := Lib.hid hky
        have HPRE := Lib.hid hpre
        have HBX := Lib.hid hbx
        clear hri hrg hky hpre hbx hgen hbW
        by_cases h0 : ea = 0
        · subst h0
          obtain ⟨hkd, hks, _⟩ := hok rfl
          have HKD := Lib.hid hkd
          have HKS := Lib.hid hks
          clear hok hkd hks
          have hap : (y.key == y.nonce) = false := by simpa using HKS.out.apart
          by_cases hh : Maps.has D (.int .i64 y.key) = true
          · obtain ⟨ka, kb, kc, z, hat, hkb, hkz, hky⟩ := AP.out.mi _ hh
            obtain ⟨n0, hz0⟩ := AP.out.zero
            obtain ⟨rfl, rfl, rfl⟩ := KS.inj ⟨n0, hz0.mono HPRE.out⟩ HKD.out hkb HKS.out (hkz.mono HPRE.out) hky.symm
            have HAT := Lib.hid (hat (opD 0 0 0 false))
            have HH := Lib.hid hh
            clear hat hkb hkz hky hz0 hh
            go_wp2_with (first
              | (go_at_call 9; refine HKY.out.mono ?_; rintro en w4 ⟨v4, u4, rfl, ls4, rn4, lsW, kl4, _⟩; obtain ⟨v4a, v4c, hv4, _⟩ := rn4.1.form; subst hv4; obtain ⟨u4a, u4c, hu4, _⟩ := rn4.2.form; subst hu4; have hkk := KS.range ls4 HKS.out; have hb4 := two_new (w := w4) (T := 40) (U := 32) (cs := #[.int .i64 y.gen, .int .i64 y.key, .int .i64 y.nonce]) (ds := #[.int .i64 r'.leaves, .slice v4a r'.nodes.length v4c, .slice u4a r'.chains.length u4c]); have AP4 := Lib.hid ((APW.out.key ls4 kl4 HPRE.out).bl hb4.1); have hx4 := heap_bl hb4.1 (lsW.keepc kl4 HBX.out (by decide) (by decide) (fun h => h)); obtain ⟨p0, p1, p2, p3⟩ := row4_cells hx4; obtain ⟨q0, q1, q2, q3⟩ := row4_cells (heap_al (.cells #[.int .i64 x.leaf, .int .i64 x.kind, .int .i64 x.gen, .bool false] 38) hx4); have hy4 := hb4.2.1; have HY4 := Lib.hid hy4; have HX4 := Lib.hid hx4; have HKK := Lib.hid hkk; clear ls4 rn4 lsW kl4 hkk hb4 hx4 hy4)
              | (at_lookup; refine look_op rfl _ _ rfl (w3.heap.size + 1) k D rfl AP4.out.map _ _ rfl HKK.out _ _ _ _ HAT.out true HH.out ?_)
              | (at_mapUpdate; have ap5 := AP4.out.bl ((Below.refl _ _).alloc (Nat.le_refl _) (.cells #[.int .i64 x.leaf, .int .i64 x.kind, .int .i64 x.gen, .bool false] 38)); refine wpList_mapUpdate_own _ rfl _ _ _ 45 rfl 3 38 int_law Tryd.underlying45 opRd (w3.heap.size + 1) k D rfl ap5.map (by unfold maxLen; omega) _ _ _ rfl rfl HKK.out _ [] (opRd_mk _ _ _ _) ?_; intro w6 ho6 hg6; have AP6 := Lib.hid (ap5.put ho6 hg6 (ap5.mi.put ap5.map.isMap HKD.out HKS.out)); have y6 := heap_grown hg6 (heap_al _ HY4.out) (fun e => by have h1 := Option.some.inj e; obtain ⟨es, ck, h2, _⟩ := AP4.out.map; rw [← h1, HY4.out] at h2; cases h2); obtain ⟨r0, r1, r2⟩ := row3_cells y6; clear ap5 ho6 hg6 y6))
            go_round
            case rel => exact ⟨k + 1, _, _, by omega, by go_num, AP6⟩
            case measure => simp [intOf]; omega
          · have hh' : Maps.has D (.int .i64 y.key) = false := by simpa using hh
            have HAT := Lib.hid (Maps.atKey_of_not_has hh' (opD 0 0 0 false))
            have HH := Lib.hid hh'
            clear hh hh'
            go_wp2_with (first
              | (go_at_call 9; refine HKY.out.mono ?_; rintro en w4 ⟨v4, u4, rfl, ls4, rn4, lsW, kl4, _⟩; obtain ⟨v4a, v4c, hv4, _⟩ := rn4.1.form; subst hv4; obtain ⟨u4a, u4c, hu4, _⟩ := rn4.2.form; subst hu4; have hkk := KS.range ls4 HKS.out; have hb4 := two_new (w := w4) (T := 40) (U := 32) (cs := #[.int .i64 y.gen, .int .i64 y.key, .int .i64 y.nonce]) (ds := #[.int .i64 r'.leaves, .slice v4a r'.nodes.length v4c, .slice u4a r'.chains.length u4c]); have AP4 := Lib.hid ((APW.out.key ls4 kl4 HPRE.out).bl hb4.1); have hx4 := heap_bl hb4.1 (lsW.keepc kl4 HBX.out (by decide) (by decide) (fun h => h)); obtain ⟨p0, p1, p2, p3⟩ := row4_cells hx4; obtain ⟨q0, q1, q2, q3⟩ := row4_cells (heap_al (.cells #[.int .i64 0, .int .i64 0, .int .i64 0, .bool false] 38) hx4); have hy4 := hb4.2.1; have HY4 := Lib.hid hy4; have HX4 := Lib.hid hx4; have HKK := Lib.hid hkk; clear ls4 rn4 lsW kl4 hkk hb4 hx4 hy4)
              | (at_lookup; refine look_op rfl _ _ rfl (w3.heap.size + 1) k D rfl AP4.out.map _ _ rfl HKK.out _ _ _ _ HAT.out false HH.out ?_)
              | (at_mapUpdate; have ap5 := AP4.out.bl ((Below.refl _ _).alloc (Nat.le_refl _) (.cells #[.int .i64 0, .int .i64 0, .int .i64 0, .bool false] 38)); refine wpList_mapUpdate_own _ rfl _ _ _ 45 rfl 3 38 int_law Tryd.underlying45 opRd (w3.heap.size + 1) k D rfl ap5.map (by unfold maxLen; omega) _ _ _ rfl rfl HKK.out _ [] (opRd_mk _ _ _ _) ?_; intro w6 ho6 hg6; have AP6 := Lib.hid (ap5.put ho6 hg6 (ap5.mi.put ap5.map.isMap HKD.out HKS.out)); have y6 := heap_grown hg6 (heap_al _ HY4.out) (fun e => by have h1 := Option.some.inj e; obtain ⟨es, ck, h2, _⟩ := AP4.out.map; rw [← h1, HY4.out] at h2; cases h2); obtain ⟨r0, r1, r2⟩ := row3_cells y6; clear ap5 ho6 hg6 y6))
            go_round
            case rel => exact ⟨k + 1, _, _, by omega, by go_num, AP6⟩
            case measure => simp [intOf]; omega
        · have d0 : (ea != 0) = true := by simpa using h0
          clear hok h0
          go_wp2_with (first
            | (go_at_call 9; refine HKY.out.mono ?_; rintro en w4 ⟨v4, u4, rfl, ls4, rn4, lsW, kl4, _⟩; obtain ⟨v4a, v4c, hv4, _⟩ := rn4.1.form; subst hv4; obtain ⟨u4a, u4c, hu4, _⟩ := rn4.2.form; subst hu4; have AP4 := Lib.hid ((APW.out.key ls4 kl4 HPRE.out).bl (two_new (w := w4) (T := 40) (U := 32) (cs := #[.int .i64 y.gen, .int .i64 y.key, .int .i64 y.nonce]) (ds := #[.int .i64 r'.leaves, .slice v4a r'.nodes.length v4c, .slice u4a r'.chains.length u4c])).1); clear ls4 rn4 lsW kl4))
          go_round
          case rel => exact ⟨k + 1, _, _, by omega, by go_num, Lib.hid AP4.out.more⟩
          case measure => simp [intOf]; omega
      · obtain rfl : k = l.length := by omega
        go_wp2_with fail
        go_ret
        exact ⟨rfl, AP.out.ls.below⟩
  · go_enter Tryd.func4, Tryd.ntmps4
    go_wp2_with (first
      | (go_at_call 6; refine (live_any w HE.out).mono ?_; rintro en w1 ⟨rfl, hb1⟩; have HB1 := Lib.hid hb1; clear hb1))
    go_ret
    exact ⟨rfl, HB1.out⟩

end Go.Proofs.YtnkndplbcbehkaaDoor
