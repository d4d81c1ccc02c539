/-
  secrets: begin, the walk.
-/
import Derived.Test.YtnkndplbcbehkaaGreatDoorSecI
set_option linter.unusedVariables false
set_option linter.unusedSimpArgs false
namespace Go.Proofs.YtnkndplbcbehkaaGreatDoor
open Go.RowKit Go.Cas
set_option maxHeartbeats 400000
set_option maxRecDepth 20000

set_option maxHeartbeats 10000000 in
theorem sBegin_any (d p o : Nat) (F : Nat → Prop) (L : List Nd) (e : Int) (w : World) (r : Kr) (v u : Value) (ks : List Value) (leaf : Int) (hd : IsD d p F w L e) (ho : IsO o F w r v u ks)
    (b0 : 0 ≤ leaf) (b1 : leaf ≤ 100000) (b2 : r.nodes.length ≤ 1000) (b3 : r.chains.length ≤ 1000) :
    Calls Tryz.prog 20 #[.pointer (some ⟨d, 0, none⟩), .pointer (some ⟨o, 0, none⟩), .int .i64 leaf] w (BeginPost w F d p o ks (beginR L e r leaf)) := by
  have hB : Below w.heap.size w (w.alloc (.cells #[.int .i64 leaf] 3)) := (Below.refl _ _).alloc (Nat.le_refl _) _
  obtain ⟨hd0, hg0⟩ := hd.below hB
  have ho0 := ho.below (F' := F) (fun _ h => h) hB
  have hbox := heap_new w (.cells #[.int .i64 leaf] 3)
  have hnb : ¬ F w.heap.size := fun h => by have := hd.ar.lt h; omega
  have hst0 : St F w F (w.alloc (.cells #[.int .i64 leaf] 3)) := St.all hB
  generalize hw0 : w.alloc (.cells #[.int .i64 leaf] 3) = w0 at hd0 ho0 hbox hst0 hg0
  have hsl : SlRep (fun _ => True) w0 v r.nodes := ⟨_, SlR.of_own ho0.nodes (fun _ _ => trivial), Reps.secs.2 rfl⟩
  obtain ⟨a, cp, rfl, hc, hm, hop⟩ := hsl.open
  have o1 : w0.cell? ⟨o, 1, none⟩ = some (.slice a r.nodes.length cp) := by rw [cell_of_row _ _ _ _ _ _ ho0.at_]; rfl
  have cb : w0.cell? ⟨w.heap.size, 0, none⟩ = some (.int .i64 leaf) := by rw [cell_of_row _ _ _ _ _ _ hbox]; rfl
  have HD := Lib.hid hd0
  have HO := Lib.hid ho0
  have HST := Lib.hid hst0
  have HG := Lib.hid (show Dg (BX d o w) p F w F w0 from hg0.mono fun _ h => h.elim)
  have hxv : ∀ b, (Value.slice a r.nodes.length cp).ownBlock = some b → BX d o w b := fun b hb => by
    obtain ⟨cu, hc⟩ := own_type ho.nodes hb
    exact .inr (.inr ⟨_, _, _, hc, .inl rfl⟩)
  have hxu : ∀ b, u.ownBlock = some b → BX d o w b := fun b hb => by
    obtain ⟨cu, hc⟩ := own_type ho.chains hb
    exact .inr (.inr ⟨_, _, _, hc, .inr rfl⟩)
  have HXV := Lib.hid hxv
  have HXU := Lib.hid hxu
  clear hxv hxu
  have HBX := Lib.hid hbox
  have HW0 := Lib.hid hw0
  have HOP := Lib.hid hop
  clear hd ho hd0 ho0 hg0 hst0 hbox hsl hop hm
  go_enter Tryz.func20, Tryz.ntmps20
  go_wp2_with fail
  go_loopw [7, 29] (fun at_ i wr => ∃ k : Nat, k ≤ r.nodes.length ∧ i = .int .i64 k ∧ at_ = .int .i64 (lastF (fun x => aboveB x.node leaf) r.nodes k) ∧ Hid (Below w0.heap.size w0 wr)) (fun _ i _ => r.nodes.length - (intOf i).toNat)
  case atStart => exact ⟨0, Nat.zero_le _, rfl, rfl, Lib.hid (Below.refl _ _)⟩
  case round =>
    obtain ⟨k, hk, rfl, rfl, HB⟩ := hrel
    have e1 := cell_bl HB.out cb
    have e2 := cell_bl HB.out o1
    clear cb o1
    by_cases hlt : k < r.nodes.length
    · obtain ⟨b, off, rfl, _, hbl, hi⟩ := HOP.out (by omega)
      obtain ⟨x, hx⟩ : ∃ x, r.nodes[k]? = some x := ⟨_, List.getElem?_eq_getElem hlt⟩
      obtain ⟨cs, hcs, hi'⟩ := hi k x hx
      obtain rfl : cs = x.cs := hcs
      have hi2 := fun j u hj => cell_bl HB.out (hi' j u hj)
      have hc0 : wr.cell? ⟨b, off + k * 2, none⟩ = some _ := (by have := hi2 0 _ rfl; rw [← Nat.add_assoc] at this; exact this)
      have hc1 : wr.cell? ⟨b, off + k * 2 + 1, none⟩ = some _ := (by have := hi2 1 _ rfl; rw [← Nat.add_assoc] at this; exact this)
      clear hi hi' hi2
      have e3 := cell_al (.cells #[.int .i64 x.node, .int .i64 x.sk] 58) e1
      have hB2 : Below wr.heap.size wr (wr.alloc (.cells #[.int .i64 x.node, .int .i64 x.sk] 58)) := (Below.refl _ _).alloc (Nat.le_refl _) _
      have HAB := Lib.hid (sAbove_any x.node leaf _ ((HD.out.env.below (HB.out)).below hB2).bru)
      have hl1 : lastF (fun x => aboveB x.node leaf) r.nodes (k + 1) = if aboveB x.node leaf = true then (k : Int) else lastF (fun x => aboveB x.node leaf) r.nodes k := by rw [lastF, hx]
      have HL1 := Lib.hid hl1
      have HB2 := Lib.hid (HB.out.trans (hB2.mono HB.out.size))
      clear hl1 hx hB2
      cases hq : aboveB x.node leaf
      all_goals
        rw [hq] at HAB
        have HQ := Lib.hid hq
        clear hq
        go_wp2_with (go_at_call 34; refine HAB.out.mono ?_; rintro en w' ⟨rfl, rfl⟩)
        go_round
        case rel => exact ⟨k + 1, by omega, by go_num, by rw [HL1.out, HQ.out]; simp, HB2⟩
        case measure => simp [intOf]; omega
    · obtain rfl : k = r.nodes.length := by omega
      have hd1 := HD.out.below HB.out
      have ho1 := HO.out.below (F' := F) (fun _ h => h) HB.out
      have HD1 := Lib.hid hd1.1
      have HO1 := Lib.hid ho1
      have HST1 := Lib.hid (HST.out.trans (St.all HB.out))
      have HBX1 := Lib.hid (heap_bl HB.out HBX.out)
      have HB0 := HB
      have HG1 := Lib.hid (HG.out.trans ((HD.out.below HB.out).2.mono (Y := BX d o w) fun _ h => h.elim))
      clear hd1 ho1 HD HO HST HBX HB hlt hk
      rcases lastF_at (fun x => aboveB x.node leaf) r.nodes r.nodes.length with hat | ⟨i, y, hin, hat, hiy, hqy⟩
      · have hres : beginR L e r leaf = (4, r, L, e) := by unfold beginR; simp only [hat]; rfl
        have HRES := Lib.hid hres
        rw [hat]
        clear hres hat
        go_wp2_with fail
        go_ret
        rw [HRES.out]
        exact ⟨rfl, F, HD1.out, HST1.out, fun _ h => h, HG1.out, fun h => absurd h (by show ¬ ((4 : Int) = 0); decide)⟩
      · obtain ⟨b, off, rfl, _, hbl, hi⟩ := HOP.out (by omega)
        obtain ⟨cs, hcs, hi'⟩ := hi i y hiy
        obtain rfl : cs = y.cs := hcs
        obtain ⟨ob, ocu, hob⟩ : ∃ ob ocu, off = 0 ∧ wr.heap[b]? = some (.cells ocu 58 (0, 0)) := by
          rcases HO1.out.nodes.2 with ⟨h, _⟩ | ⟨g', cap, cu, h, _, hg', _⟩
          · cases h
          · simp only [Value.slice.injEq, Option.some.injEq, Addr.mk.injEq] at h
            exact ⟨0, cu, h.1.2.1, by rw [h.1.1]; exact hg'⟩
        obtain ⟨rfl, hob⟩ := hob
        have hc0 : wr.cell? ⟨b, i * 2, none⟩ = some (.int .i64 y.node) := by have := cell_bl HB0.out (hi' 0 _ rfl); simpa [Rp.sz] using this
        have hc1 : wr.cell? ⟨b, i * 2 + 1, none⟩ = some (.int .i64 y.sk) := by have := cell_bl HB0.out (hi' 1 _ rfl); simpa [Rp.sz] using this
        have hi0 : decide ((i : Int) < 0) = false := by simp
        have hdl := fun n => deleteSecret_any 0 (.slice (some ⟨b, 0, none⟩) r.nodes.length cp) r.nodes.length (r.nodes.flatMap Sec.cs) i _ (isO_drewN n HO1.out).nodes (secs_one _) hin (by omega)
        rw [show ((i + 1 : Nat) : Int) = (i : Int) + 1 from rfl] at hdl
        have HDL := Lib.hid hdl
        clear hdl
        clear hi hi' hob
        rw [hat]
        have HAT := Lib.hid hat
        clear hat
        go_wp2_with fail
        go_quiet (fail)
        go_wp2_with fail
        have HO2 := Lib.hid (isO_drewN nq HO1.out)
        have HD2 := Lib.hid (isD_drewN nq HD1.out)
        have HST2 := Lib.hid (st_drewN nq HST1.out)
        have HG2 := Lib.hid (HG1.out.trans (dg_drewN nq HD1.out))
        have HBX2 : Hid ((wr.drewN nq).heap[w.heap.size]? = some (.cells #[.int .i64 leaf] 3 (0, 0))) := Lib.hid HBX1.out
        have HDL2 := Lib.hid (HDL.out nq)
        clear HO1 HD1 HST1 HG1 HBX1 HDL hc0 hc1 e1 e2 HB0
        generalize wr.drewN nq = w1 at HO2 HD2 HST2 HG2 HBX2 HDL2 ⊢
        go_wp2_with (go_at_call 35; refine HDL2.out.mono ?_; rintro en w3 ⟨v3, rfl, hg3, hs3, hv3, ho3⟩; have q0 : w3.cell? ⟨o, 1, none⟩ = _ := (hg3.cell_far ⟨o, 1, none⟩ (by have := heap_lt HO2.out.at_; exact this) (own_ne HO2.out.nodes HO2.out.at_ (by decide))).trans (cell_of_row _ _ 1 _ _ _ HO2.out.at_); have q1 := (hg3.frozen_far ⟨o, 1, none⟩ (by have := heap_lt HO2.out.at_; exact this) (own_ne HO2.out.nodes HO2.out.at_ (by decide))).trans (frozen_of_row _ _ _ _ _ HO2.out.at_); simp only [List.getElem?_toArray, List.getElem?_cons_succ, List.getElem?_cons_zero] at q0; obtain ⟨kc3, rfl⟩ := own_form ho3 hv3; have HG3 := Lib.hid hg3; have HV3 := Lib.hid hv3; have HO3 := Lib.hid ho3; clear hs3 hg3 hv3 ho3)
        have hnl : (r.nodes.take i ++ r.nodes.drop (i + 1)).length = r.nodes.length - 1 := by simp; omega
        obtain ⟨F3, hd3, hio3, hst3, hF3, hdg3⟩ := io_nodes (v2 := .slice (some ⟨b, 0, none⟩) (r.nodes.length - 1) kc3) (l := r.nodes.take i ++ r.nodes.drop (i + 1)) HD2.out HO2.out HG3.out (by rw [hnl, List.flatMap_append, secs_take, secs_drop]; exact HO3.out) (.inl HV3.out)
        have HDN : Hid (Dn w F d p o leaf r u ks F3 (w3.setCell ⟨o, 1, none⟩ (.slice (some ⟨b, 0, none⟩) (r.nodes.length - 1) kc3)) L e (r.nodes.take i ++ r.nodes.drop (i + 1)) (.slice (some ⟨b, 0, none⟩) (r.nodes.length - 1) kc3)) :=
          Lib.hid ⟨hd3, hio3, HST2.out.trans hst3, hF3, (hst3.heap hnb HBX2.out).1, (hst3.heap hnb HBX2.out).2, HG2.out.trans (hdg3.mono fun b hb => hb.elim (fun h => .inr (.inl h)) (fun h => HXV.out b h)), fun b hb => .inl (HXV.out b (hb.trans rfl)), HXU.out⟩
        clear HO2 HD2 HST2 HG2 HBX2 HDL2 HG3 HV3 HO3 hd3 hio3 hst3 hF3 hdg3 q0 q1
        generalize w3.setCell ⟨o, 1, none⟩ (.slice (some ⟨b, 0, none⟩) (r.nodes.length - 1) kc3) = w4 at HDN ⊢
        have hz : ∃ z, begL 10 leaf y.node y.sk (r.nodes.take i ++ r.nodes.drop (i + 1)) L e = z := ⟨_, rfl⟩
        obtain ⟨z, hz⟩ := hz
        have hres : beginR L e r leaf = (match z.1 with
            | none => (4, r, z.2.1, z.2.2)
            | some (s, nodes) =>
              (let h := dexpR z.2.1 z.2.2 s ⟨#[104, 97, 110, 100, 115, 104, 97, 107, 101]⟩ ⟨#[]⟩
               let p := dexpR h.2.2 h.2.1 s ⟨#[97, 112, 112, 108, 105, 99, 97, 116, 105, 111, 110]⟩ ⟨#[]⟩
               let i := if findB (fun c : Ch => decide (c.leaf > leaf)) r.chains < 0 then r.chains.length else (findB (fun c : Ch => decide (c.leaf > leaf)) r.chains).toNat
               (p.2.1, ⟨r.leaves, nodes, r.chains.take i ++ [⟨leaf, 0, 0, h.1, []⟩, ⟨leaf, 1, 0, p.1, []⟩] ++ r.chains.drop i⟩, p.2.2, p.2.1))) := by
          unfold beginR
          simp only [HAT.out]
          rw [if_neg (by omega)]
          simp only [Int.toNat_natCast, List.getD_eq_getElem?_getD, hiy, Option.getD_some, hz]
          rcases z with ⟨_ | ⟨s, nodes⟩, z2, z3⟩ <;> rfl
        have HRES := Lib.hid hres
        have HZ := Lib.hid hz
        have hnl2 : (r.nodes.take i ++ r.nodes.drop (i + 1)).length ≤ 1000 := by rw [hnl]; omega
        clear hres hz HAT hiy hqy hnl hbl
        generalize r.nodes.take i ++ r.nodes.drop (i + 1) = nodes0 at HDN HZ hnl2 ⊢
        go_loopw [10, 11] (fun x s wr => ∃ (n : Nat) (xv sv : Int) (F' : Nat → Prop) (L' : List Nd) (e' : Int) (nodes : List Sec) (v' : Value), x = .int .i64 xv ∧ s = .int .i64 sv ∧ farF xv < n ∧ n ≤ 10 ∧ nodes.length + n ≤ 1010 ∧
            Hid (Dn w F d p o leaf r u ks F' wr L' e' nodes v') ∧ Hid (begL n leaf xv sv nodes L' e' = z))
          (fun x _ _ => farF (intOf x))
        case atStart => exact ⟨10, _, _, F3, L, e, nodes0, _, rfl, rfl, farF_lt _, Nat.le_refl _, by omega, HDN, HZ⟩
        case round =>
          obtain ⟨n, x, s, F', L', e', nodes, v', rfl, rfl, hfar, hn10, hnn, HN, HZ'⟩ := hrel
          have e1 : wr.cell? ⟨w.heap.size, 0, none⟩ = some (.int .i64 leaf) := by rw [cell_of_row _ _ _ _ _ _ HN.out.box]; rfl
          by_cases hx : x = 2 * leaf
          · obtain ⟨m, rfl⟩ : ∃ m, n = m + 1 := ⟨n - 1, by omega⟩
            have hz' := HZ'.out
            rw [begL, if_pos hx] at hz'
            have hres' := HRES.out
            rw [← hz'] at hres'
            dsimp only at hres'
            generalize hra : dexpR L' e' s ⟨#[104, 97, 110, 100, 115, 104, 97, 107, 101]⟩ ⟨#[]⟩ = ra at hres'
            generalize hrb : dexpR ra.2.2 ra.2.1 s ⟨#[97, 112, 112, 108, 105, 99, 97, 116, 105, 111, 110]⟩ ⟨#[]⟩ = rb at hres'
            have HRA := Lib.hid hra
            have HRB := Lib.hid hrb
            have HRS := Lib.hid hres'
            clear hra hrb hz' hres' HRES HZ HZ' HDN
            have hsu := HN.out.iso.reads
            obtain ⟨au, cu, rfl, hcu1, hcu2, _⟩ := hsu.open
            rcases findB_two (fun c : Ch => decide (c.leaf > leaf)) r.chains with hfj | ⟨j, hjl, hfj⟩
            · skip
              have hrs := HRS.out
              rw [hfj, if_pos (by decide)] at hrs
              have HRT := Lib.hid hrs
              clear hrs HRS
              go_wp2_with (first
                | (go_at_call 38; refine (dn_expand HN.out s _ _).mono ?_; rw [HRA.out]; rintro en w7 ⟨rfl, F7, hn7⟩; have HN7 := Lib.hid hn7; clear hn7 HRA)
                | (go_at_call 38; refine (dn_expand HN7.out s _ _).mono ?_; rw [HRB.out]; rintro en w8 ⟨rfl, F8, hn8⟩; have HN8 := Lib.hid hn8; have e8 : w8.cell? ⟨o, 2, none⟩ = some (.slice au r.chains.length cu) := (by rw [cell_of_row _ _ _ _ _ _ HN8.out.iso.at_]; rfl); have f8 : w8.cell? ⟨w.heap.size, 0, none⟩ = some (.int .i64 leaf) := (by rw [cell_of_row _ _ _ _ _ _ HN8.out.box]; rfl); have hix := (indexCh_any 43 #[.pointer (some ⟨w.heap.size, 0, none⟩)] (fun c : Ch => decide (c.leaf > leaf)) (fun _ => True) _ r.chains w8 HN8.out.iso.reads (fun x v w' hb => sBegin2_any _ leaf x v w' (cell_bl hb f8)) Tryz.call43); rw [hfj] at hix; have HIX := Lib.hid hix; clear hn8 HRB hix)
                | (go_at_call 32; refine HIX.out.mono ?_; rintro en w9 ⟨rfl, hb9⟩; have HN9 := Lib.hid (dn_below HN8.out hb9); have e9 : w9.cell? ⟨o, 2, none⟩ = some (.slice au r.chains.length cu) := (by rw [cell_of_row _ _ _ _ _ _ HN9.out.iso.at_]; rfl); have f9 : w9.cell? ⟨w.heap.size, 0, none⟩ = some (.int .i64 leaf) := (by rw [cell_of_row _ _ _ _ _ _ HN9.out.box]; rfl); clear hb9 e8 f8))
              have hj : r.chains.length ≤ r.chains.length := Nat.le_refl _
              have hst := chCells_take r.chains ks HN9.out.iso.len r.chains.length hj
              have HNb := Lib.hid (dn_below (dn_drewN 1 HN9.out) ((Below.refl _ _).alloc (Nat.le_refl _) (.cells #[.int .i64 leaf, .int .i64 0, .int .i64 0, .int .i64 ra.1, .slice none 0 0, .int .i64 leaf, .int .i64 1, .int .i64 0, .int .i64 rb.1, .slice none 0 0] 71)))
              have hvb : (Value.slice au r.chains.length cu).ownBlock ≠ some w9.heap.size := fun h => by have := (HN9.out.iso.chains.lt _ h).2; omega
              have HIN := Lib.hid (insertChain_any 0 (.slice au r.chains.length cu) r.chains.length (chCells r.chains ks) r.chains.length w9.heap.size 2 [.int .i64 leaf, .int .i64 0, .int .i64 0, .int .i64 ra.1, .slice none 0 0, .int .i64 leaf, .int .i64 1, .int .i64 0, .int .i64 rb.1, .slice none 0 0] _ HNb.out.iso.chains (chCells_one _ _ HN9.out.iso.ks_one) hj (by omega) (Nat.zero_le _) (heap_new (w9.drewN 1) _) rfl (by simp [Value.oneCell']) (by omega) (by omega) hvb)
              have hl1 := cell_al (.cells #[.int .i64 leaf, .int .i64 0, .int .i64 0, .int .i64 ra.1, .slice none 0 0, .int .i64 leaf, .int .i64 1, .int .i64 0, .int .i64 rb.1, .slice none 0 0] 71) e9
              have hl2 := cell_al (.cells #[.int .i64 leaf, .int .i64 0, .int .i64 0, .int .i64 ra.1, .slice none 0 0, .int .i64 leaf, .int .i64 1, .int .i64 0, .int .i64 rb.1, .slice none 0 0] 71) f9
              go_region_law (first | (go_simp; go_at_call 44; refine HIN.out.mono ?_; rintro en w3 ⟨v3, rfl, hg3, hat3, ho3⟩; obtain ⟨g3, kc3, rfl, _, _⟩ := ho3.form (by omega); have q0 := (hg3.cell_far ⟨o, 2, none⟩ (by have := heap_lt HNb.out.iso.at_; exact this) (own_ne HNb.out.iso.chains HNb.out.iso.at_ (by decide))).trans hl1; have q1 := (hg3.frozen_far ⟨o, 2, none⟩ (by have := heap_lt HNb.out.iso.at_; exact this) (own_ne HNb.out.iso.chains HNb.out.iso.at_ (by decide))).trans (frozen_of_row _ _ _ _ _ HNb.out.iso.at_); have HG3 := Lib.hid hg3; have HA3 := Lib.hid hat3; have HO3 := Lib.hid ho3; clear hg3 hat3 ho3))
              all_goals
                obtain ⟨F3, hd3, hs3, hf3, hex3⟩ := dn_end (c1 := ⟨leaf, 0, 0, ra.1, []⟩) (c2 := ⟨leaf, 1, 0, rb.1, []⟩) HNb.out hj rfl rfl HG3.out HO3.out (HA3.out.imp id (fun ⟨b, h1, h2⟩ => ⟨b, h1, h2⟩))
                have e10 := cell_of_row _ _ 1 _ _ _ hd3.at_
                simp only [List.getElem?_toArray, List.getElem?_cons_succ, List.getElem?_cons_zero] at e10
                have HX3 := Lib.hid (And.intro hd3 (And.intro hs3 (And.intro hf3 hex3)))
                clear hd3 hs3 hf3 hex3
                go_wp2_with fail
                go_ret
                rw [HRT.out]
                exact ⟨rfl, F3, HX3.out.1, HX3.out.2.1, HX3.out.2.2.1, HX3.out.2.2.2.1, fun _ => HX3.out.2.2.2.2⟩
            · skip
              have hrs := HRS.out
              rw [hfj, if_neg (by omega), Int.toNat_natCast] at hrs
              have HRT := Lib.hid hrs
              clear hrs HRS
              go_wp2_with (first
                | (go_at_call 38; refine (dn_expand HN.out s _ _).mono ?_; rw [HRA.out]; rintro en w7 ⟨rfl, F7, hn7⟩; have HN7 := Lib.hid hn7; clear hn7 HRA)
                | (go_at_call 38; refine (dn_expand HN7.out s _ _).mono ?_; rw [HRB.out]; rintro en w8 ⟨rfl, F8, hn8⟩; have HN8 := Lib.hid hn8; have e8 : w8.cell? ⟨o, 2, none⟩ = some (.slice au r.chains.length cu) := (by rw [cell_of_row _ _ _ _ _ _ HN8.out.iso.at_]; rfl); have f8 : w8.cell? ⟨w.heap.size, 0, none⟩ = some (.int .i64 leaf) := (by rw [cell_of_row _ _ _ _ _ _ HN8.out.box]; rfl); have hix := (indexCh_any 43 #[.pointer (some ⟨w.heap.size, 0, none⟩)] (fun c : Ch => decide (c.leaf > leaf)) (fun _ => True) _ r.chains w8 HN8.out.iso.reads (fun x v w' hb => sBegin2_any _ leaf x v w' (cell_bl hb f8)) Tryz.call43); rw [hfj] at hix; have HIX := Lib.hid hix; clear hn8 HRB hix)
                | (go_at_call 32; refine HIX.out.mono ?_; rintro en w9 ⟨rfl, hb9⟩; have HN9 := Lib.hid (dn_below HN8.out hb9); have e9 : w9.cell? ⟨o, 2, none⟩ = some (.slice au r.chains.length cu) := (by rw [cell_of_row _ _ _ _ _ _ HN9.out.iso.at_]; rfl); have f9 : w9.cell? ⟨w.heap.size, 0, none⟩ = some (.int .i64 leaf) := (by rw [cell_of_row _ _ _ _ _ _ HN9.out.box]; rfl); clear hb9 e8 f8))
              have hj : j ≤ r.chains.length := by omega
              have hst := chCells_take r.chains ks HN9.out.iso.len j hj
              have HNb := Lib.hid (dn_below (dn_drewN 1 HN9.out) ((Below.refl _ _).alloc (Nat.le_refl _) (.cells #[.int .i64 leaf, .int .i64 0, .int .i64 0, .int .i64 ra.1, .slice none 0 0, .int .i64 leaf, .int .i64 1, .int .i64 0, .int .i64 rb.1, .slice none 0 0] 71)))
              have hvb : (Value.slice au r.chains.length cu).ownBlock ≠ some w9.heap.size := fun h => by have := (HN9.out.iso.chains.lt _ h).2; omega
              have HIN := Lib.hid (insertChain_any 0 (.slice au r.chains.length cu) r.chains.length (chCells r.chains ks) j w9.heap.size 2 [.int .i64 leaf, .int .i64 0, .int .i64 0, .int .i64 ra.1, .slice none 0 0, .int .i64 leaf, .int .i64 1, .int .i64 0, .int .i64 rb.1, .slice none 0 0] _ HNb.out.iso.chains (chCells_one _ _ HN9.out.iso.ks_one) hj (by omega) (Nat.zero_le _) (heap_new (w9.drewN 1) _) rfl (by simp [Value.oneCell']) (by omega) (by omega) hvb)
              have hl1 := cell_al (.cells #[.int .i64 leaf, .int .i64 0, .int .i64 0, .int .i64 ra.1, .slice none 0 0, .int .i64 leaf, .int .i64 1, .int .i64 0, .int .i64 rb.1, .slice none 0 0] 71) e9
              have hl2 := cell_al (.cells #[.int .i64 leaf, .int .i64 0, .int .i64 0, .int .i64 ra.1, .slice none 0 0, .int .i64 leaf, .int .i64 1, .int .i64 0, .int .i64 rb.1, .slice none 0 0] 71) f9
              go_region_law (first | (go_simp; go_at_call 44; refine HIN.out.mono ?_; rintro en w3 ⟨v3, rfl, hg3, hat3, ho3⟩; obtain ⟨g3, kc3, rfl, _, _⟩ := ho3.form (by omega); have q0 := (hg3.cell_far ⟨o, 2, none⟩ (by have := heap_lt HNb.out.iso.at_; exact this) (own_ne HNb.out.iso.chains HNb.out.iso.at_ (by decide))).trans hl1; have q1 := (hg3.frozen_far ⟨o, 2, none⟩ (by have := heap_lt HNb.out.iso.at_; exact this) (own_ne HNb.out.iso.chains HNb.out.iso.at_ (by decide))).trans (frozen_of_row _ _ _ _ _ HNb.out.iso.at_); have HG3 := Lib.hid hg3; have HA3 := Lib.hid hat3; have HO3 := Lib.hid ho3; clear hg3 hat3 ho3))
              all_goals
                obtain ⟨F3, hd3, hs3, hf3, hex3⟩ := dn_end (c1 := ⟨leaf, 0, 0, ra.1, []⟩) (c2 := ⟨leaf, 1, 0, rb.1, []⟩) HNb.out hj rfl rfl HG3.out HO3.out (HA3.out.imp id (fun ⟨b, h1, h2⟩ => ⟨b, h1, h2⟩))
                have e10 := cell_of_row _ _ 1 _ _ _ hd3.at_
                simp only [List.getElem?_toArray, List.getElem?_cons_succ, List.getElem?_cons_zero] at e10
                have HX3 := Lib.hid (And.intro hd3 (And.intro hs3 (And.intro hf3 hex3)))
                clear hd3 hs3 hf3 hex3
                go_wp2_with fail
                go_ret
                rw [HRT.out]
                exact ⟨rfl, F3, HX3.out.1, HX3.out.2.1, HX3.out.2.2.1, HX3.out.2.2.2.1, fun _ => HX3.out.2.2.2.2⟩
          · by_cases hc : childB x = true
            · obtain ⟨m, rfl⟩ : ∃ m, n = m + 1 := ⟨n - 1, by omega⟩
              have hz' := HZ'.out
              rw [begL, if_neg hx, if_pos hc] at hz'
              dsimp only at hz'
              generalize hra : dexpR L' e' s ⟨#[116, 114, 101, 101]⟩ ⟨#[108, 101, 102, 116]⟩ = ra at hz'
              generalize hrb : dexpR ra.2.2 ra.2.1 s ⟨#[116, 114, 101, 101]⟩ ⟨#[114, 105, 103, 104, 116]⟩ = rb at hz'
              have HRA := Lib.hid hra
              have HRB := Lib.hid hrb
              have HZ2 := Lib.hid hz'
              clear hra hrb hz'
              have HML := Lib.hid (fun w5 (h : Env F' w5) => mLeft_any x w5 h.bru)
              have HMR := Lib.hid (fun w5 (h : Env F' w5) => mRight_any x w5 h.bru)
              have HC := Lib.hid hc
              have hcc := farF_child x hc
              go_wp2_with (first
                | (go_at_call 36; refine (HML.out _ HN.out.isd.env).mono ?_; rw [if_pos HC.out, if_pos HC.out]; rintro en w5 ⟨rfl, hb5⟩; have HN5 := Lib.hid (dn_below HN.out hb5); clear hb5)
                | (go_at_call 37; refine (HMR.out _ HN5.out.isd.env).mono ?_; rw [if_pos HC.out, if_pos HC.out]; rintro en w6 ⟨rfl, hb6⟩; have HN6 := Lib.hid (dn_below HN5.out hb6); clear hb6)
                | (go_at_call 38; refine (dn_expand HN6.out s _ _).mono ?_; rw [HRA.out]; rintro en w7 ⟨rfl, F7, hn7⟩; have HN7 := Lib.hid hn7; clear hn7 HRA)
                | (go_at_call 38; refine (dn_expand HN7.out s _ _).mono ?_; rw [HRB.out]; rintro en w8 ⟨rfl, F8, hn8⟩; have HN8o := Lib.hid hn8; have HN8 := Lib.hid (dn_below hn8 ((Below.refl _ _).alloc (Nat.le_refl _) (.cells #[.int .i64 (rightF x), .int .i64 rb.1] 58))); have HX8 := Lib.hid (heap_new w8 (.cells #[.int .i64 (rightF x), .int .i64 rb.1] 58)); have e8 : (w8.alloc (.cells #[.int .i64 (rightF x), .int .i64 rb.1] 58)).cell? ⟨w.heap.size, 0, none⟩ = some (.int .i64 leaf) := (by rw [cell_of_row _ _ _ _ _ _ HN8.out.box]; rfl); clear hn8 HRB))
              cases hq : aboveB (leftF x) leaf
              · have HAB := Lib.hid (sAbove_any (leftF x) leaf _ HN8.out.isd.env.bru)
                rw [hq] at HAB
                have HQ := Lib.hid hq
                clear hq
                have f0 := frozen_of_row _ _ 0 _ _ HX8.out
                have f1 := frozen_of_row _ _ 1 _ _ HX8.out
                have g0 := cell_of_row _ _ 0 _ _ _ HX8.out
                have g1 := cell_of_row _ _ 1 _ _ _ HX8.out
                simp only [List.getElem?_toArray, List.getElem?_cons_succ, List.getElem?_cons_zero] at g0 g1
                go_wp2_with (go_at_call 34; refine HAB.out.mono ?_; rintro en w9 ⟨rfl, rfl⟩)
                have hz3 := HZ2.out
                rw [HQ.out, if_neg (by decide), if_neg (by decide), if_neg (by decide)] at hz3
                have HZ3 := Lib.hid hz3
                have hf2 := hcc.2
                clear hz3 HZ2 HAB HQ HC HML HMR hcc f0 f1 g0 g1 HX8 HN8 HN7 HN6 HN5 e8 e1 HZ'
                generalize leftF x = on at HZ3 ⊢
                generalize ra.1 = os at HZ3 ⊢
                generalize rightF x = x2 at HZ3 hf2 ⊢
                generalize rb.1 = s2 at HZ3 ⊢
                -- TAIL
                have HN9 := Lib.hid (dn_below HN8o.out ((Below.refl _ _).alloc (Nat.le_refl _) (.cells #[.int .i64 on, .int .i64 os] 58)))
                have HX9 := Lib.hid (heap_new w8 (.cells #[.int .i64 on, .int .i64 os] 58))
                have hvq : v'.ownBlock ≠ some w8.heap.size := fun h => by have := (HN8o.out.iso.nodes.lt _ h).2; omega
                generalize w8.alloc (.cells #[.int .i64 on, .int .i64 os] 58) = w9 at HN9 HX9 ⊢
                clear HN8o
                generalize w8.heap.size = q at HX9 hvq ⊢
                obtain ⟨a', c', rfl, hc1, hc2⟩ : ∃ a c, v' = .slice a nodes.length c ∧ nodes.length ≤ c ∧ c ≤ maxLen := by
                  rcases HN9.out.iso.nodes.2 with ⟨rfl, h0⟩ | ⟨g2, cap, cu, rfl, _, _, h1, h2, _⟩
                  · exact ⟨none, 0, by rw [h0], Nat.le_of_eq h0, Nat.zero_le _⟩
                  · exact ⟨_, _, rfl, h1, h2⟩
                have HSR := Lib.hid (fun n => searchSecret_any (fun _ => True) (.slice a' nodes.length c') nodes on (w9.drewN n) ⟨_, SlR.of_own (dn_drewN n HN9.out).iso.nodes (fun _ _ => trivial), Reps.secs.2 rfl⟩ (by omega))
                have k1 : w9.cell? ⟨o, 1, none⟩ = some (.slice a' nodes.length c') := by rw [cell_of_row _ _ _ _ _ _ HN9.out.iso.at_]; rfl
                have g0 : w9.cell? ⟨q, 0, none⟩ = some (.int .i64 on) := by rw [cell_of_row _ _ _ _ _ _ HX9.out]; rfl
                go_region_law (first | (go_simp; go_at_call 39; refine (HSR.out 1).mono ?_; rintro en wa ⟨⟨bb, rfl⟩, hba⟩; have HNa := Lib.hid (dn_below (dn_drewN 1 HN9.out) hba); have HXa := Lib.hid (heap_bl hba (show (w9.drewN 1).heap[q]? = _ from HX9.out)); clear hba))
                all_goals
                  have kk1 : wa.cell? ⟨o, 1, none⟩ = some (.slice a' nodes.length c') := by rw [cell_of_row _ _ _ _ _ _ HNa.out.iso.at_]; rfl
                  have gg0 : wa.cell? ⟨q, 0, none⟩ = some (.int .i64 on) := by rw [cell_of_row _ _ _ _ _ _ HXa.out]; rfl
                  have gg1 : wa.cell? ⟨q, 1, none⟩ = some (.int .i64 os) := by rw [cell_of_row _ _ _ _ _ _ HXa.out]; rfl
                  have HNb := Lib.hid (dn_below (dn_drewN 1 HNa.out) ((Below.refl _ _).alloc (Nat.le_refl _) (.cells #[.int .i64 on, .int .i64 os] 58)))
                  have hbs := bsR_le nodes on 0 nodes.length (Nat.zero_le _)
                  have hvb : (Value.slice a' nodes.length c').ownBlock ≠ some wa.heap.size := fun h => by have := (HNa.out.iso.nodes.lt _ h).2; omega
                  have HIN := Lib.hid (insertSecret_any 0 (.slice a' nodes.length c') nodes.length (nodes.flatMap Sec.cs) (bsR nodes on 0 nodes.length) wa.heap.size 1 [.int .i64 on, .int .i64 os] _ HNb.out.iso.nodes (secs_one _) hbs (by omega) (Nat.zero_le _) (heap_new (wa.drewN 1) (.cells #[.int .i64 on, .int .i64 os] 58)) rfl (by simp [Value.oneCell']) (by omega) (by omega) hvb)
                  have hl1 := cell_al (.cells #[.int .i64 on, .int .i64 os] 58) kk1
                  have hl2 := cell_al (.cells #[.int .i64 on, .int .i64 os] 58) gg0
                  have hl3 := cell_al (.cells #[.int .i64 on, .int .i64 os] 58) gg1
                  clear k1 g0 hvb hvq
                  go_wp2_with fail
                  go_region_law (first | (go_simp; go_at_call 42; refine HIN.out.mono ?_; rintro en w3 ⟨v3, rfl, hg3, hat3, ho3⟩; obtain ⟨g3, kc3, rfl, _, _⟩ := ho3.form (by omega); have q0 := (hg3.cell_far ⟨o, 1, none⟩ (by have := heap_lt HNb.out.iso.at_; exact this) (own_ne HNb.out.iso.nodes HNb.out.iso.at_ (by decide))).trans hl1; have q1 := (hg3.frozen_far ⟨o, 1, none⟩ (by have := heap_lt HNb.out.iso.at_; exact this) (own_ne HNb.out.iso.nodes HNb.out.iso.at_ (by decide))).trans (frozen_of_row _ _ _ _ _ HNb.out.iso.at_); have HG3 := Lib.hid hg3; have HA3 := Lib.hid hat3; have HO3 := Lib.hid ho3; clear hg3 hat3 ho3))
                  all_goals
                    go_wp2_with fail
                    go_round
                    case rel =>
                      obtain ⟨F3, hk3⟩ := dn_nodes (l := nodes.take (bsR nodes on 0 nodes.length) ++ [⟨on, os⟩] ++ nodes.drop (bsR nodes on 0 nodes.length)) HNb.out HG3.out (secs_ins hbs HO3.out) (HA3.out.imp id (fun ⟨b, h1, h2⟩ => ⟨b, h1, h2⟩))
                      exact ⟨m, x2, s2, F3, _, _, _, _, rfl, rfl, by omega, by omega, by simp; omega, Lib.hid hk3, HZ3⟩
                    case measure => show farF x2 < farF x; exact hf2
              · have HAB := Lib.hid (sAbove_any (leftF x) leaf _ HN8.out.isd.env.bru)
                rw [hq] at HAB
                have HQ := Lib.hid hq
                clear hq
                go_wp2_with (go_at_call 34; refine HAB.out.mono ?_; rintro en w9 ⟨rfl, rfl⟩)
                have hz3 := HZ2.out
                rw [HQ.out, if_pos rfl, if_pos rfl, if_pos rfl] at hz3
                have HZ3 := Lib.hid hz3
                have hf2 := hcc.1
                clear hz3 HZ2 HAB HQ HC HML HMR hcc HX8 HN8 HN7 HN6 HN5 e8 e1 HZ'
                generalize leftF x = x2 at HZ3 hf2 ⊢
                generalize ra.1 = s2 at HZ3 ⊢
                generalize rightF x = on at HZ3 ⊢
                generalize rb.1 = os at HZ3 ⊢
                -- TAIL (the same)
                have HN9 := Lib.hid (dn_below HN8o.out ((Below.refl _ _).alloc (Nat.le_refl _) (.cells #[.int .i64 on, .int .i64 os] 58)))
                have HX9 := Lib.hid (heap_new w8 (.cells #[.int .i64 on, .int .i64 os] 58))
                have hvq : v'.ownBlock ≠ some w8.heap.size := fun h => by have := (HN8o.out.iso.nodes.lt _ h).2; omega
                generalize w8.alloc (.cells #[.int .i64 on, .int .i64 os] 58) = w9 at HN9 HX9 ⊢
                clear HN8o
                generalize w8.heap.size = q at HX9 hvq ⊢
                obtain ⟨a', c', rfl, hc1, hc2⟩ : ∃ a c, v' = .slice a nodes.length c ∧ nodes.length ≤ c ∧ c ≤ maxLen := by
                  rcases HN9.out.iso.nodes.2 with ⟨rfl, h0⟩ | ⟨g2, cap, cu, rfl, _, _, h1, h2, _⟩
                  · exact ⟨none, 0, by rw [h0], Nat.le_of_eq h0, Nat.zero_le _⟩
                  · exact ⟨_, _, rfl, h1, h2⟩
                have HSR := Lib.hid (fun n => searchSecret_any (fun _ => True) (.slice a' nodes.length c') nodes on (w9.drewN n) ⟨_, SlR.of_own (dn_drewN n HN9.out).iso.nodes (fun _ _ => trivial), Reps.secs.2 rfl⟩ (by omega))
                have k1 : w9.cell? ⟨o, 1, none⟩ = some (.slice a' nodes.length c') := by rw [cell_of_row _ _ _ _ _ _ HN9.out.iso.at_]; rfl
                have g0 : w9.cell? ⟨q, 0, none⟩ = some (.int .i64 on) := by rw [cell_of_row _ _ _ _ _ _ HX9.out]; rfl
                go_region_law (first | (go_simp; go_at_call 39; refine (HSR.out 1).mono ?_; rintro en wa ⟨⟨bb, rfl⟩, hba⟩; have HNa := Lib.hid (dn_below (dn_drewN 1 HN9.out) hba); have HXa := Lib.hid (heap_bl hba (show (w9.drewN 1).heap[q]? = _ from HX9.out)); clear hba))
                all_goals
                  have kk1 : wa.cell? ⟨o, 1, none⟩ = some (.slice a' nodes.length c') := by rw [cell_of_row _ _ _ _ _ _ HNa.out.iso.at_]; rfl
                  have gg0 : wa.cell? ⟨q, 0, none⟩ = some (.int .i64 on) := by rw [cell_of_row _ _ _ _ _ _ HXa.out]; rfl
                  have gg1 : wa.cell? ⟨q, 1, none⟩ = some (.int .i64 os) := by rw [cell_of_row _ _ _ _ _ _ HXa.out]; rfl
                  have HNb := Lib.hid (dn_below (dn_drewN 1 HNa.out) ((Below.refl _ _).alloc (Nat.le_refl _) (.cells #[.int .i64 on, .int .i64 os] 58)))
                  have hbs := bsR_le nodes on 0 nodes.length (Nat.zero_le _)
                  have hvb : (Value.slice a' nodes.length c').ownBlock ≠ some wa.heap.size := fun h => by have := (HNa.out.iso.nodes.lt _ h).2; omega
                  have HIN := Lib.hid (insertSecret_any 0 (.slice a' nodes.length c') nodes.length (nodes.flatMap Sec.cs) (bsR nodes on 0 nodes.length) wa.heap.size 1 [.int .i64 on, .int .i64 os] _ HNb.out.iso.nodes (secs_one _) hbs (by omega) (Nat.zero_le _) (heap_new (wa.drewN 1) (.cells #[.int .i64 on, .int .i64 os] 58)) rfl (by simp [Value.oneCell']) (by omega) (by omega) hvb)
                  have hl1 := cell_al (.cells #[.int .i64 on, .int .i64 os] 58) kk1
                  have hl2 := cell_al (.cells #[.int .i64 on, .int .i64 os] 58) gg0
                  have hl3 := cell_al (.cells #[.int .i64 on, .int .i64 os] 58) gg1
                  clear k1 g0 hvb hvq
                  go_wp2_with fail
                  go_region_law (first | (go_simp; go_at_call 42; refine HIN.out.mono ?_; rintro en w3 ⟨v3, rfl, hg3, hat3, ho3⟩; obtain ⟨g3, kc3, rfl, _, _⟩ := ho3.form (by omega); have q0 := (hg3.cell_far ⟨o, 1, none⟩ (by have := heap_lt HNb.out.iso.at_; exact this) (own_ne HNb.out.iso.nodes HNb.out.iso.at_ (by decide))).trans hl1; have q1 := (hg3.frozen_far ⟨o, 1, none⟩ (by have := heap_lt HNb.out.iso.at_; exact this) (own_ne HNb.out.iso.nodes HNb.out.iso.at_ (by decide))).trans (frozen_of_row _ _ _ _ _ HNb.out.iso.at_); have HG3 := Lib.hid hg3; have HA3 := Lib.hid hat3; have HO3 := Lib.hid ho3; clear hg3 hat3 ho3))
                  all_goals
                    go_wp2_with fail
                    go_round
                    case rel =>
                      obtain ⟨F3, hk3⟩ := dn_nodes (l := nodes.take (bsR nodes on 0 nodes.length) ++ [⟨on, os⟩] ++ nodes.drop (bsR nodes on 0 nodes.length)) HNb.out HG3.out (secs_ins hbs HO3.out) (HA3.out.imp id (fun ⟨b, h1, h2⟩ => ⟨b, h1, h2⟩))
                      exact ⟨m, x2, s2, F3, _, _, _, _, rfl, rfl, by omega, by omega, by simp; omega, Lib.hid hk3, HZ3⟩
                    case measure => show farF x2 < farF x; exact hf2
            · have HML := Lib.hid (mLeft_any x wr HN.out.isd.env.bru)
              go_wp2_with (go_at_call 36; refine HML.out.mono ?_; rw [if_neg hc]; rintro en w5 ⟨rfl, hb5⟩)
              go_ret
              obtain ⟨m, rfl⟩ : ∃ m, n = m + 1 := ⟨n - 1, by omega⟩
              have hz' := HZ'.out
              rw [begL, if_neg hx, if_neg hc] at hz'
              rw [HRES.out, ← hz']
              have hn := dn_below HN.out hb5
              exact ⟨rfl, F', hn.isd, hn.st, hn.old, hn.dg, fun h => absurd h (by show ¬ ((4 : Int) = 0); decide)⟩

end Go.Proofs.YtnkndplbcbehkaaGreatDoor
