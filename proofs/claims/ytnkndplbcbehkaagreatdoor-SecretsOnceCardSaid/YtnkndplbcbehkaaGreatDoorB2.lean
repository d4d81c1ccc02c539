/-
  Layer 5 (deduce): the walk of 'apart', whole; of 'close'.
-/
import Derived.Test.YtnkndplbcbehkaaGreatDoorB1
import Derived.Deep.LoopGhost
set_option linter.unusedVariables false
set_option linter.unusedSimpArgs false

/-! Layer 5 (deduce): the walk of 'apart', whole; of 'close'. -/
namespace Go.Proofs.YtnkndplbcbehkaaGreatDoor
open Go.RowKit Go.Cas
set_option maxHeartbeats 16000000
set_option maxRecDepth 20000

/-- 'apart'. -/
theorem dApart_any (s : Nat) (L : List Nd) (us : List (List Int)) (x : Sp) (F : Nat → Prop) (vl vu : Value) (ib : Nat) (vo : Value) (t : Int) (w : World) (h : IsSp w s L us x F vl vu ib vo) (hk : Mk L) (hu : UsOk L us) (ht : 0 ≤ t ∧ t < L.length) :
    Calls Tryz.prog 76 #[.pointer (some ⟨s, 0, none⟩), .int .i64 t] w fun e w' => e = .returned (.tuple #[]) ∧ IsSp1 w s L us vl vu ib F (apartR L us x t) w' := by
  by_cases h8 : (ndF L t).op = 8
  · exact dApart_seal s L us x F vl vu ib vo t w h hk ht h8
  by_cases h9 : (ndF L t).op = 9
  · exact dApart_enc s L us x F vl vu ib vo t w h hk ht h9
  by_cases h10 : (ndF L t).op = 10
  · exact dApart_sig s L us x F vl vu ib vo t w h hk hu ht h10
  by_cases h12 : (ndF L t).op = 12
  · exact dApart_blind s L us x F vl vu ib vo t w h hk ht h12
  exact dApart_list s L us x F vl vu ib vo t w h hk ht h8 h9 h10 h12

/-- The last open one is taken off. -/
theorem IsSp.pop {w : World} {s : Nat} {L : List Nd} {us : List (List Int)} {x : Sp} {F : Nat → Prop} {vl vu : Value} {ib : Nat} {oa : Option Addr} {n oc : Nat} (h : IsSp w s L us x F vl vu ib (.slice oa n oc)) {l : List Int} {t : Int} (hs : x.opn = l ++ [t]) :
    n = l.length + 1 ∧ l.length + 1 ≤ oc ∧ oc ≤ maxLen ∧ (∃ g, oa = some ⟨g, 0, none⟩ ∧ w.cell? ⟨g, l.length, none⟩ = some (.int .i64 t)) ∧
    IsSp (w.setCell ⟨s, 3, none⟩ (.slice oa l.length oc)) s L us ⟨x.inn, l⟩ F vl vu ib (.slice oa l.length oc) ∧ St F w F (w.setCell ⟨s, 3, none⟩ (.slice oa l.length oc)) := by
  obtain ⟨a1, a2, a3⟩ := h.apart
  have hkp : Kp (fun b => ¬ F b) w (w.setCell ⟨s, 3, none⟩ (.slice oa l.length oc)) := (Kp.refl _ _).setCell (fun _ hn => hn h.fs) _
  have hn : n = x.opn.length := by obtain ⟨a, c, e⟩ := own_sl h.opn; simp only [Value.slice.injEq] at e; exact e.2.1
  have hl : x.opn.length = l.length + 1 := by rw [hs]; simp
  have hsz : (w.setCell ⟨s, 3, none⟩ (.slice oa l.length oc)).heap.size = w.heap.size := by simp [World.setCell]
  obtain ⟨o1, o2⟩ := h.opn
  rcases o2 with ⟨e, h0⟩ | ⟨g, cap, cur, e, hb, hg, hc, hm, hz, ht⟩
  · omega
  · simp only [Value.slice.injEq] at e
    obtain ⟨rfl, e2, rfl⟩ := e
    have ht' : cur.toList.take (l.length + 1) = l.map (Value.int .i64) ++ [.int .i64 t] := by
      rw [Nat.mul_one, hl] at ht; rw [ht, hs]; simp
    refine ⟨by omega, by omega, hm, ⟨g, rfl, ?_⟩, ⟨?_, h.l.step hkp (fun _ _ h => h), ?_, h.us.step hkp (fun _ _ h => h), ?_, (h.ok.pop hs).1, h.fs, h.fi, h.fo, fun b hf => by rw [hsz]; exact h.lt b hf, h.big⟩, St.keep hkp⟩
    · rw [cell_of_row _ _ _ _ _ _ hg, ← Array.getElem?_toList]
      have h1 : (cur.toList.take (l.length + 1))[l.length]? = some (.int .i64 t) := by
        rw [ht', List.getElem?_append_right (by simp)]; simp
      rw [List.getElem?_take] at h1
      rwa [if_pos (by omega)] at h1
    · have := Lib.heap_setCell_same (i := 3) h.at_ (.slice (some ⟨g, 0, none⟩) l.length oc)
      rw [this]; rfl
    · rw [Below.heap_setCell _ _ _ _ (fun e => a1 e.symm)]; exact h.inn
    · refine ownsRow_setCell_other (base := 0) (e := 3) (size := 1) (v := .slice (some ⟨g, 0, none⟩) l.length oc) (n := l.length) (xs := l.map (Value.int .i64)) ⟨by simp, .inr ⟨g, oc, cur, rfl, hb, hg, by omega, hm, hz, ?_⟩⟩ (fun e' => a2 e'.symm) _
      have h2 := congrArg (List.take l.length) ht'
      rw [List.take_take, Nat.min_eq_left (by omega)] at h2
      rw [Nat.mul_one, h2, List.take_left' (by simp)]

/-- The table of uses in memory, in a block that stays. -/
theorem IsSp.usesK {w : World} {s : Nat} {L : List Nd} {us : List (List Int)} {x : Sp} {F : Nat → Prop} {vl : Value} {ub uo uc : Nat} {ib : Nat} {vo : Value} (h : IsSp w s L us x F vl (.slice (some ⟨ub, uo, none⟩) L.length uc) ib vo) (hu : UsOk L us) {t : Int} (ht : 0 ≤ t ∧ t < L.length) :
    ¬ F ub ∧ ∃ ua c, w.cell? ⟨ub, uo + t.toNat, none⟩ = some (.slice ua (us.getD t.toNat []).length c) ∧ SlRep (fun b => ¬ F b) w (.slice ua (us.getD t.toNat []).length c) (us.getD t.toNat []) := by
  obtain ⟨b, off, c, e, _, hK, _, hi⟩ := h.us.at (by rw [hu.len]; omega)
  simp only [Value.slice.injEq, Option.some.injEq, Addr.mk.injEq, and_true] at e
  obtain ⟨⟨rfl, rfl⟩, _, _⟩ := e
  have hl : t.toNat < us.length := by rw [hu.len]; omega
  have hx : us[t.toNat]? = some (us.getD t.toNat []) := by rw [List.getD_eq_getElem?_getD, List.getElem?_eq_getElem hl]; rfl
  obtain ⟨cs, ⟨v, rfl, hv⟩, hc⟩ := hi _ _ hx
  obtain ⟨a, c', hI⟩ := SlRep.intsAt hv
  obtain rfl := hI.form
  refine ⟨hK, a, c', ?_, hv⟩
  have := hc 0 _ rfl
  rwa [show t.toNat * Rp.sz (List Int) + 0 = t.toNat by show t.toNat * 1 + 0 = _; omega] at this

/-- 'close'. -/
theorem dClose_any (s : Nat) (L : List Nd) (us : List (List Int)) (F : Nat → Prop) (vl vu : Value) (ib : Nat) (vo v : Value) (l : List Int) (w : World) (h : IsSp w s L us (pubR L 0) F vl vu ib vo) (hk : Mk L) (hu : UsOk L us) (h0 : 0 < L.length)
    (hl : SlRep (fun b => ¬ F b) w v l) (hb : ∀ t ∈ l, 0 ≤ t ∧ t < L.length) :
    Calls Tryz.prog 52 #[.pointer (some ⟨s, 0, none⟩), v] w fun e w' => e = .returned (.tuple #[]) ∧ ∃ k x, x = roundsR L us k (startR L l) ∧ x.opn = [] ∧ IsSp1 w s L us vl vu ib F x w' := by
  obtain ⟨nb, no, nc, rfl, _⟩ := h.node h0
  obtain ⟨ub, uo, uc, rfl, _⟩ := h.uses hu h0
  obtain ⟨la, lc, hI⟩ := SlRep.intsAt hl
  obtain rfl := hI.form
  obtain ⟨c0, c1, c2, c3⟩ := h.cells
  have hbig := h.big
  have HH := Lib.hid h
  have HL := Lib.hid hl
  have HK := Lib.hid hk
  have HU := Lib.hid hu
  have HB := Lib.hid hb
  clear h hl hI hk hu hb
  go_enter Tryz.func52, Tryz.ntmps52
  go_wp2_with fail
  go_loopw [14] (fun i wr => ∃ k : Nat, k ≤ L.length ∧ i = .int .i64 k ∧ Hid (IsSp1 w s L us (.slice (some ⟨nb, no, none⟩) L.length nc) (.slice (some ⟨ub, uo, none⟩) L.length uc) ib F (pubR L k) wr)) (fun i _ => L.length - (intOf i).toNat)
  case atStart => exact ⟨0, Nat.zero_le _, rfl, Lib.hid (IsSp1.refl HH.out)⟩
  case round =>
    clear c0 c1 c2 c3
    obtain ⟨k, hk, rfl, HI⟩ := hrel
    by_cases hlt : k < L.length
    · obtain ⟨F1, vo1, h1, hst, hold⟩ := HI.out.ex
      obtain ⟨c0, c1, c2, c3⟩ := h1.cells
      obtain ⟨_, _, _, e, hnd⟩ := h1.node h0
      cases e
      have htb : 0 ≤ (k : Int) ∧ (k : Int) < L.length := by omega
      obtain ⟨nv, n0, n1, n2, n3, n4⟩ := hnd k htb
      rw [Int.toNat_natCast] at n0 n1 n2 n3
      have hpub : pubR L (k + 1) = if (ndF L k).op ≠ 1 ∧ (ndF L k).l = [] then addR (pubR L k) [(k : Int)] else pubR L k := rfl
      clear hnd
      generalize ndF L k = nd0 at *
      generalize pubR L k = x1 at *
      obtain ⟨na, nlc, hN⟩ := SlRep.intsAt n4
      obtain rfl := hN.form
      have hbb : Below wr.heap.size wr (wr.alloc (.cells #[.int .i64 nd0.op, .int .i64 nd0.n, .string nd0.s, .slice na nd0.l.length nlc] 54)) := (Below.refl _ _).alloc (Nat.le_refl _) _
      have hI1 := HI.out.bl hbb
      have HI1 := Lib.hid hI1
      by_cases ha : nd0.op = 1
      · have d1 : (nd0.op != 1) = false := by simpa using ha
        rw [if_neg (fun h => h.1 ha)] at hpub
        have HP := Lib.hid hpub
        clear h1 hst hold hpub n4 hN hI1 hbb ha
        go_wp2_with fail
        go_round
        case rel => exact ⟨k + 1, by omega, by go_num, Lib.hid (by rw [HP.out]; exact HI1.out)⟩
        case measure => simp [intOf]; omega
      · have d1 : (nd0.op != 1) = true := by simpa using ha
        by_cases hz : nd0.l = []
        · have hz' : nd0.l.length = 0 := by rw [hz]; rfl
          rw [if_pos ⟨ha, hz⟩] at hpub
          have HP := Lib.hid hpub
          have hone := (h1.bl hbb).one (k : Int)
          have hADD := dAdd_any s L us x1 F1 _ _ ib vo1 _ [(k : Int)] _ hone.1 hone.2 (by simp; omega)
          simp only [al_size] at hADD
          rw [hz'] at n3 hADD HI1
          have HADD := Lib.hid hADD
          have HS := Lib.hid hst
          have HOL := Lib.hid hold
          clear h1 hst hold hpub n4 hN hI1 hbb hone hADD hz ha hz'
          go_wp2_with (go_at_call 75; refine HADD.out.mono ?_; rintro e w2 ⟨rfl, h2⟩; have H2 := Lib.hid h2; clear h2)
          go_round
          case rel => exact ⟨k + 1, by omega, by go_num, Lib.hid (by rw [HP.out]; exact IsSp1.trans (HS.out.trans (St.all (((Below.refl _ _).alloc (Nat.le_refl _) _).alloc (by simp) _))) HOL.out H2.out)⟩
          case measure => simp [intOf]; omega
        · have hz' : ((nd0.l.length : Int) == 0) = false := by
            have : nd0.l.length ≠ 0 := fun e => hz (List.length_eq_zero_iff.1 e)
            simp; exact hz
          rw [if_neg (fun h => hz h.2)] at hpub
          have HP := Lib.hid hpub
          clear h1 hst hold hpub n4 hN hI1 hbb ha hz
          go_wp2_with fail
          go_round
          case rel => exact ⟨k + 1, by omega, by go_num, Lib.hid (by rw [HP.out]; exact HI1.out)⟩
          case measure => simp [intOf]; omega
    · obtain rfl : k = L.length := by omega
      obtain ⟨F1, vo1, h1, hst, hold⟩ := HI.out.ex
      have HADD := Lib.hid (dAdd_any s L us (pubR L L.length) F1 _ _ ib vo1 _ l _ h1 (HL.out.step hst.kp (fun b hb hn => hst.not hb hn)) HB.out)
      have HS := Lib.hid hst
      have HOL := Lib.hid hold
      clear h1 hst hold
      go_wp2_with (go_at_call 75; refine HADD.out.mono ?_; rintro e w2 ⟨rfl, h2⟩; have H2 := Lib.hid (IsSp1.trans HS.out HOL.out h2); clear h2)
      go_loopg [6] (startR L l).mu (fun g _ wr => ∃ (k : Nat) (x : Sp), Hid (g = x.mu ∧ x = roundsR L us k (startR L l)) ∧ Hid (IsSp1 w s L us (.slice (some ⟨nb, no, none⟩) L.length nc) (.slice (some ⟨ub, uo, none⟩) L.length uc) ib F x wr))
      case atStart => exact ⟨0, _, Lib.hid ⟨rfl, rfl⟩, H2⟩
      case round =>
        clear H2 HADD HS HOL HI
        obtain ⟨k, x, HX, HI⟩ := hrel
        obtain ⟨F1, vo1, h1, hst, hold⟩ := HI.out.ex
        obtain ⟨c0, c1, c2, c3⟩ := h1.cells
        obtain ⟨oa, oc, hvo⟩ := own_sl h1.opn
        subst hvo
        rcases List.eq_nil_or_concat x.opn with hnil | ⟨l', t, hs⟩
        · have hz : x.opn.length = 0 := by rw [hnil]; rfl
          rw [hz] at c3
          have HN := Lib.hid hnil
          clear h1 hst hold hz hnil
          go_wp2_with fail
          go_end0
          exact ⟨rfl, k, x, HX.out.2, HN.out, HI.out⟩
        · rw [List.concat_eq_append] at hs
          obtain ⟨hn, hoc, hm, ⟨g, rfl, hcell⟩, hpop, hstp⟩ := h1.pop hs
          have HMU := Lib.hid (adv_round HK.out HU.out h1.ok hs).2
          have hro := h1.ok.room
          have htb := (h1.ok.pop hs).2.1
          have hf := h1.frz
          rw [hn] at c3 hro
          obtain ⟨ht0, ht1⟩ := htb
          have hw1 : IntKind.i64.wrap (l'.length : Int) = (l'.length : Int) := by rw [IntKind.wrap_i64]; omega
          have hw2 : l'.length ≤ oc := by omega
          have HPOP := Lib.hid hpop
          have HSTP := Lib.hid hstp
          have HSS := Lib.hid hs
          have HS := Lib.hid hst
          have HOL := Lib.hid hold
          have H1 := Lib.hid h1
          clear h1 hst hold hpop hstp hs hn
          go_wp2_with fail
          go_quiet (fail)
          go_wp2_with fail
          have h1' := H1.out.bl (below_dN (Below.refl _ _) nq)
          have hst' : St F w F1 (wr.drewN nq) := HS.out.trans (St.all (below_dN (Below.refl _ _) nq))
          generalize wr.drewN nq = w1 at h1' hst'
          clear c0 c1 c2 c3 hcell HPOP HSTP H1 HS hf
          obtain ⟨c0, c1, c2, c3⟩ := h1'.cells
          obtain ⟨hn, _, _, _, hpop, hstp⟩ := h1'.pop HSS.out
          have hf := h1'.frz 3
          rw [hn] at c3
          have HPOP := Lib.hid hpop
          have HS := Lib.hid (hst'.trans hstp)
          clear hpop hstp h1' hst' hn
          obtain ⟨hnub, ua, uc2, hu1, hu2⟩ := HH.out.usesK HU.out ⟨ht0, ht1⟩
          have hal := HU.out.at (t := t) ⟨ht0, ht1⟩
          have hrr := roundR_at (L := L) (us := us) HSS.out
          generalize us.getD t.toNat [] = ul at hu1 hu2 hal hrr
          have hulm : ul.length ≤ 9223372036854775807 := by obtain ⟨_, _, _, _, hm, _⟩ := hu2.openInt; exact hm
          have HNUB := Lib.hid hnub
          have HU1 := Lib.hid hu1
          have HU2 := Lib.hid hu2
          have HAL := Lib.hid hal
          have HRR := Lib.hid hrr
          clear hnub hu1 hu2 hal hrr
          go_region_law (fail)
          all_goals
            have hp2 := HPOP.out.bl ((Below.refl _ _).drew)
            have hs2 := HS.out.trans (St.all (F := F1) ((Below.refl _ _).drew))
            generalize (w1.setCell ⟨s, 3, none⟩ (.slice (some ⟨g, 0, none⟩) l'.length oc)).drew = w2 at hp2 hs2 ⊢
            have HAP := Lib.hid (dApart_any s L us ⟨x.inn, l'⟩ F1 _ _ ib _ t w2 hp2 HK.out HU.out ⟨ht0, ht1⟩)
            have HS2 := Lib.hid hs2
            clear hp2 hs2 c0 c1 c2 c3 hf
            go_wp2_with (go_at_call 76; refine HAP.out.mono ?_; rintro e w3 ⟨rfl, h3⟩; have h3' := IsSp1.trans HS2.out HOL.out h3; obtain ⟨F3, vo3, i3, st3, _⟩ := h3'.ex; obtain ⟨d0, d1, d2, d3⟩ := i3.cells; have hcu := st3.kp.cell (K := fun b => ¬ F b) HNUB.out HU1.out; have H3 := Lib.hid h3'; clear i3 st3 h3 h3')
            go_loopw [79] (fun i wr => ∃ j : Nat, j ≤ ul.length ∧ i = .int .i64 j ∧ Hid (IsSp1 w s L us (.slice (some ⟨nb, no, none⟩) L.length nc) (.slice (some ⟨ub, uo, none⟩) L.length uc) ib F ((ul.take j).foldl (useS L us) (apartR L us ⟨x.inn, l'⟩ t)) wr)) (fun i _ => ul.length - (intOf i).toNat)
            case atStart => exact ⟨0, Nat.zero_le _, rfl, H3⟩
            case round =>
              clear H3 d0 d1 d2 d3 hcu HAP HS2 HS HPOP HI
              obtain ⟨j, hj, rfl, HI⟩ := hrel
              by_cases hlt : j < ul.length
              · obtain ⟨F4, vo4, h4, hst, hold⟩ := HI.out.ex
                obtain ⟨c0, c1, c2, c3⟩ := h4.cells
                obtain ⟨u, hu⟩ : ∃ u, ul[j]? = some u := ⟨_, List.getElem?_eq_getElem hlt⟩
                obtain ⟨b, off, rfl, hi⟩ := SlRep.get (HU2.out.step hst.kp (fun b hb hn => hst.not hb hn)) (by omega)
                have hcell := hi j u hu
                have hub := HAL.out u (List.mem_of_getElem? hu)
                have hch := h4.has_cell hub
                have hsn : (ul.take (j + 1)).foldl (useS L us) (apartR L us ⟨x.inn, l'⟩ t) = useS L us ((ul.take j).foldl (useS L us) (apartR L us ⟨x.inn, l'⟩ t)) u := by
                  rw [List.take_add_one, hu]; simp [List.foldl_append]
                have hus : ∀ y, useS L us y u = if y.has u = true then apartR L us y u else if ((ndF L u).l.all y.has) = true then addR y [u] else y := fun y => rfl
                obtain ⟨_, _, _, e, hnd⟩ := h4.node h0
                cases e
                obtain ⟨nv, n0, n1, n2, n3, n4⟩ := hnd u hub
                have hpt := HK.out.parts _ (ndF_mem hub).1
                clear hnd
                generalize ndF L u = nd0 at *
                obtain ⟨na, nlc, hN⟩ := SlRep.intsAt n4
                obtain rfl := hN.form
                have HSN := Lib.hid hsn
                have HUSE := Lib.hid hus
                have HS4 := Lib.hid hst
                have HOL4 := Lib.hid hold
                have H4 := Lib.hid h4
                have HN4 := Lib.hid n4
                have HPT := Lib.hid hpt
                have hub2 := hub
                obtain ⟨hub0, hub1⟩ := hub
                have HUB := Lib.hid hub2
                clear hi hu h4 hst hold hsn hus n0 n1 n2 n4 hN hpt hub2
                generalize (ul.take j).foldl (useS L us) (apartR L us ⟨x.inn, l'⟩ t) = y at *
                cases hhq : y.has u with
                | true =>
                  rw [hhq] at hch
                  have husx : useS L us y u = apartR L us y u := by rw [HUSE.out, if_pos hhq]
                  have HUSX := Lib.hid husx
                  have HAP := Lib.hid (dApart_any s L us y F4 _ _ ib _ u _ H4.out HK.out HU.out HUB.out)
                  clear hhq husx
                  go_wp2_with (go_at_call 76; refine HAP.out.mono ?_; rintro e w5 ⟨rfl, h5⟩; have H5 := Lib.hid (IsSp1.trans HS4.out HOL4.out h5); clear h5)
                  go_round
                  case rel => exact ⟨j + 1, by omega, by go_num, Lib.hid (by rw [HSN.out, HUSX.out]; exact H5.out)⟩
                  case measure => simp [intOf]; omega
                | false =>
                  rw [hhq] at hch
                  have HALL := Lib.hid (dAll_any s L us y F4 _ _ ib _ _ _ nd0.l _ H4.out HN4.out HPT.out)
                  cases hall : nd0.l.all y.has with
                  | true =>
                    rw [hall] at HALL
                    have husx : useS L us y u = addR y [u] := by rw [HUSE.out, if_neg (by rw [hhq]; decide), if_pos hall]
                    have HUSX := Lib.hid husx
                    have HADD := Lib.hid (fun W (hb : Below wr.heap.size wr W) => dAdd_any s L us y F4 _ _ ib _ _ [u] _ ((H4.out.bl hb).one u).1 ((H4.out.bl hb).one u).2 (fun t ht => by rw [List.mem_singleton] at ht; rw [ht]; exact HUB.out))
                    clear hhq husx hall
                    go_wp2_with (first
                      | (go_at_call 77; refine HALL.out.mono ?_; rintro e w5 ⟨rfl, hb5⟩; have HB5 := Lib.hid hb5; clear hb5)
                      | (go_at_call 75; refine (HADD.out _ HB5.out).mono ?_; rintro e w6 ⟨rfl, h6⟩; have H6 := Lib.hid (IsSp1.trans ((HS4.out.trans (St.all HB5.out)).trans (St.all ((Below.refl _ _).alloc (Nat.le_refl _) _))) HOL4.out h6); clear h6))
                    go_round
                    case rel => exact ⟨j + 1, by omega, by go_num, Lib.hid (by rw [HSN.out, HUSX.out]; exact H6.out)⟩
                    case measure => simp [intOf]; omega
                  | false =>
                    rw [hall] at HALL
                    have husx : useS L us y u = y := by rw [HUSE.out, if_neg (by rw [hhq]; decide), if_neg (by rw [hall]; decide)]
                    have HUSX := Lib.hid husx
                    clear hhq husx hall
                    go_wp2_with (first
                      | (go_at_call 77; refine HALL.out.mono ?_; rintro e w5 ⟨rfl, hb5⟩; have HB5 := Lib.hid hb5; clear hb5))
                    go_round
                    case rel => exact ⟨j + 1, by omega, by go_num, Lib.hid (by rw [HSN.out, HUSX.out]; exact HI.out.bl HB5.out)⟩
                    case measure => simp [intOf]; omega
              · obtain rfl : j = ul.length := by omega
                rw [List.take_length] at HI
                go_wp2_with fail
                go_roundg (roundR L us x).mu
                case rel => exact ⟨k + 1, roundR L us x, Lib.hid ⟨rfl, by rw [HX.out.2]; rfl⟩, by rw [HRR.out]; exact HI⟩
                case measure =>
                  rw [HX.out.1]; exact HMU.out
end Go.Proofs.YtnkndplbcbehkaaGreatDoor
