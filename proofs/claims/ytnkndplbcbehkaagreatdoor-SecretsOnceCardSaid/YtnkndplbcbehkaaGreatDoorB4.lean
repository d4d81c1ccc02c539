/-
  Layer 5 (deduce): the walk of 'look'.
-/
import Derived.Test.YtnkndplbcbehkaaGreatDoorB3
import Derived.Deep.OwnRows
set_option linter.unusedVariables false
set_option linter.unusedSimpArgs false

/-! Layer 5 (deduce): the walk of 'look'. -/
namespace Go.Proofs.YtnkndplbcbehkaaGreatDoor
open Go.RowKit Go.Cas Go.Deep
set_option maxHeartbeats 16000000
set_option maxRecDepth 20000

theorem reps_rows {K : Nat → Prop} {w : World} : ∀ {us : List (List Int)} {vs : List Value}, vs.length = us.length → (∀ (i : Nat) (l : List Int) (v : Value), us[i]? = some l → vs[i]? = some v → SlRep K w v l) → Reps K w vs us
  | [], [], _, _ => rfl
  | [], _ :: _, h, _ => by simp at h
  | _ :: _, [], h, _ => by simp at h
  | l :: us, v :: vs, h, hi => ⟨[v], vs, rfl, ⟨v, rfl, hi 0 l v rfl rfl⟩, reps_rows (by simpa using h) (fun i l' v' h1 h2 => hi (i + 1) l' v' (by simpa using h1) (by simpa using h2))⟩

/-- The space is made. -/
theorem LkC.toSp {w0 wr : World} {S0 sb bx ib ub : Nat} {L : List Nd} {vl : Value} {us : List (List Int)} (h : LkC w0 wr S0 sb bx ib ub L vl us) (hb : L.length ≤ 100000) :
    IsSp wr sb L us (pubR L 0) (fun b => b = sb ∨ b = ib) vl (.slice (some ⟨ub, 0, none⟩) L.length L.length) ib (.slice none 0 0) := by
  obtain ⟨l1, l2, l3, l4, l5, l6, l7⟩ := h.lo
  obtain ⟨vs, a1, a2, a3, a4⟩ := h.us.ex
  have hiu : ib ≠ ub := fun e => by
    have h1 := h.inn
    rw [e, a2] at h1
    simp only [Option.some.injEq, Obj.cells.injEq] at h1
    exact absurd h1.2.1 (by decide)
  have hnot : ∀ (i : Nat) (l : List Int) (v : Value), us[i]? = some l → vs[i]? = some v → SlRep (fun b => ¬ (b = sb ∨ b = ib)) wr v l := fun i l v hl hv => by
    have ho := a3 i l v hl hv
    refine SlRep.of_ints (SlR.of_own ho fun b hb' e => ?_)
    rcases e with e | e
    · exact own_ne ho h.at_ (by decide) (by rw [hb', e])
    · exact own_ne ho h.inn (by decide) (by rw [hb', e])
  refine ⟨h.at_, h.l.step (Kp.refl _ _) (fun b _ hb' e => ?_), h.inn, ⟨vs, ⟨?_, ?_, .inr ⟨ub, 0, L.length, ?_, Nat.le_of_eq h.us.len, fun e => ?_, _, _, _, a2, fun i u hi => ?_⟩⟩, reps_rows (by rw [a1, h.us.len]) hnot⟩, World.ownsRow_nil _ _ _ _, pub_ok L 0 (Nat.zero_le _), .inl rfl, .inr rfl, fun b hb' => (by cases hb'), fun b hb' => ?_, hb⟩
  · rcases e with e | e
    · exact hb'.2 e
    · have := hb'.1; omega
  · rw [a1, h.us.len]; show L.length = L.length * 1; omega
  · rw [h.us.len]; unfold maxLen; omega
  · rw [h.us.len]
  · rcases e with e | e
    · omega
    · exact hiu e.symm
  · rw [Nat.zero_add, List.getElem?_toArray]; exact hi
  · rcases hb' with rfl | rfl
    · exact heap_lt h.at_
    · exact heap_lt h.inn

theorem useR_len {us : List (List Int)} {x t : Int} {B : Nat} (h : ∀ l ∈ us, l.length ≤ B) : ∀ l ∈ useR us x t, l.length ≤ B + 1 := by
  intro l hl
  obtain ⟨i, hi, rfl⟩ := List.getElem_of_mem hl
  have h1 : (useR us x t)[i]? = some (useR us x t)[i] := List.getElem?_eq_getElem hi
  unfold useR at h1
  rw [List.getElem?_modify] at h1
  cases hu : us[i]? with
  | none => rw [hu] at h1; simp at h1
  | some l' =>
    rw [hu] at h1
    have := h l' (List.mem_of_getElem? hu)
    have e : (if x.toNat = i then l' ++ [t] else l') = (useR us x t)[i] := Option.some.inj h1
    rw [← e]
    split
    · simp; omega
    · omega

theorem useF_len {t : Int} : ∀ {l : List Int} {us : List (List Int)} {B : Nat}, (∀ l ∈ us, l.length ≤ B) → ∀ m ∈ l.foldl (fun us x => useR us x t) us, m.length ≤ B + l.length
  | [], _, _, h => h
  | x :: l, us, B, h => by
    intro m hm
    have := useF_len (l := l) (useR_len (x := x) (t := t) h) m hm
    rw [List.length_cons]; omega

theorem useX_len {L : List Nd} {us : List (List Int)} {n : Nd} {t : Int} {B : Nat} (h : ∀ l ∈ us, l.length ≤ B) : ∀ m ∈ useXR L us n t, m.length ≤ B + 1 := by
  unfold useXR
  split
  · exact useR_len h
  split
  · exact useR_len h
  · exact fun m hm => Nat.le_succ_of_le (h m hm)

theorem usesK_len {L : List Nd} (hg : ∀ n ∈ L, n.l.length ≤ 64) : ∀ k, k ≤ L.length → ∀ m ∈ usesK L k, m.length ≤ 65 * k
  | 0, _ => fun m hm => by rw [List.eq_of_mem_replicate hm]; exact Nat.zero_le _
  | k + 1, hk => fun m hm => by
    have h1 := usesK_len hg k (by omega)
    have h2 := hg _ (ndF_mem (L := L) (t := (k : Int)) (by omega)).1
    have h3 := useX_len (L := L) (n := ndF L k) (t := (k : Int)) (useF_len (t := (k : Int)) (l := (ndF L k).l) h1) m hm
    omega

/-- The nodes, while the uses are gathered. -/
theorem LkC.node {w0 wr : World} {S0 sb bx ib ub nb no nc : Nat} {L : List Nd} {us : List (List Int)} (h : LkC w0 wr S0 sb bx ib ub L (.slice (some ⟨nb, no, none⟩) L.length nc) us) {t : Int} (ht : 0 ≤ t ∧ t < L.length) :
    ∃ a c, wr.cell? ⟨nb, no + t.toNat * 4, none⟩ = some (.int .i64 (ndF L t).op) ∧ wr.cell? ⟨nb, no + t.toNat * 4 + 1, none⟩ = some (.int .i64 (ndF L t).n) ∧
      wr.cell? ⟨nb, no + t.toNat * 4 + 2, none⟩ = some (.string (ndF L t).s) ∧ wr.cell? ⟨nb, no + t.toNat * 4 + 3, none⟩ = some (.slice a (ndF L t).l.length c) ∧ SlRep (fun b => b < S0 ∧ b ≠ sb) wr (.slice a (ndF L t).l.length c) (ndF L t).l := by
  obtain ⟨b, off, c, e, _, _, _, hi⟩ := h.l.at (by omega)
  simp only [Value.slice.injEq, Option.some.injEq, Addr.mk.injEq, and_true] at e
  obtain ⟨⟨rfl, rfl⟩, _, _⟩ := e
  obtain ⟨cs, ⟨v, rfl, hv⟩, hc⟩ := hi _ _ (ndF_mem ht).2
  obtain ⟨a, c', rfl, _⟩ := hv.form
  refine ⟨a, c', hc 0 _ rfl, ?_, ?_, ?_, hv⟩
  · have := hc 1 _ rfl; rwa [← Nat.add_assoc] at this
  · have := hc 2 _ rfl; rwa [← Nat.add_assoc] at this
  · have := hc 3 _ rfl; rwa [← Nat.add_assoc] at this

theorem made_one (z : Value) (n : Nat) : madeCells #[z] n = (List.replicate n z).toArray := by
  apply Array.ext'
  unfold madeCells
  rw [Array.toList_map]
  show _ = List.replicate n z
  rw [List.eq_replicate_iff]
  refine ⟨by simp, fun b hb => ?_⟩
  obtain ⟨k, _, rfl⟩ := List.mem_map.1 hb
  simp [Nat.mod_one]

/-- What 'look' comes to. -/
def LookPost (w : World) (L : List Nd) : Ending → World → Prop := fun e w' => ∃ s vl vu ib, e = .returned (.pointer (some ⟨s, 0, none⟩)) ∧ Below w.heap.size w w' ∧
  IsSp w' s L (usesR L) (pubR L 0) (fun b => b = s ∨ b = ib) vl vu ib (.slice none 0 0) ∧ w.heap.size ≤ s ∧ w.heap.size ≤ ib

theorem dLook_any (p : Nat) (F0 : Nat → Prop) (L : List Nd) (w : World) (ha : IsArG 82 nkey w p F0 L) (h0 : 0 < L.length) :
    Calls Tryz.prog 49 #[.pointer (some ⟨p, 0, none⟩)] w (LookPost w L) := by
  have hbig := ha.len_le
  have hgood : ∀ n ∈ L, n.l.length ≤ 64 := fun n hn => (ha.wf.good hbig hn).len
  have hmk := ha.wf.mk
  obtain ⟨pa, pc, hp0⟩ := ha.cell0
  obtain ⟨mb, hmb, hmkB⟩ : ∃ mb : Array Value, mb = boolCs (List.replicate L.length false) ∧ ∀ W, (Instr.makeSlice 75 (.int .i64 (L.length : Int)) (.int .i64 (L.length : Int))).run Tryz.prog W = .ok (.slice (some ⟨W.heap.size, 0, none⟩) L.length L.length) (W.alloc (.cells mb 4)) := by
    refine ⟨madeCells #[.bool false] L.length, ?_, fun W => run_make_row' 75 4 (.bool false) 1 Tryz.underlying75 (by kernel_rfl) rfl .i64 .i64 L.length (by omega) (by omega) W⟩
    rw [made_one]; simp [boolCs]
  obtain ⟨mu, hmu, hmkU⟩ : ∃ mu : Array Value, mu = (List.replicate L.length (Value.slice none 0 0)).toArray ∧ ∀ W, (Instr.makeSlice 77 (.int .i64 (L.length : Int)) (.int .i64 (L.length : Int))).run Tryz.prog W = .ok (.slice (some ⟨W.heap.size, 0, none⟩) L.length L.length) (W.alloc (.cells mu 24)) := by
    refine ⟨madeCells #[.slice none 0 0] L.length, ?_, fun W => run_make_row' 77 24 (.slice none 0 0) 24 Tryz.underlying77 (by kernel_rfl) rfl .i64 .i64 L.length (by omega) (by omega) W⟩
    exact made_one _ _
  have hst : LkA w ((w.alloc (.cells #[.slice none 0 0, .slice none 0 0, .slice none 0 0, .slice none 0 0] 79)).alloc (.cells #[.pointer (some ⟨w.heap.size, 0, none⟩)] 72)) w.heap.size (w.heap.size + 1) 0 L (.slice none 0 0) [] (fun b => b = w.heap.size) := by
    refine ⟨((Below.refl _ _).alloc (Nat.le_refl _) _).alloc (by simp) _, heap_al _ (heap_new _ _), ?_, World.ownsRow_nil _ _ _ _, rfl, rfl, fun b hb => (by cases hb), fun b hb => by simp; omega, Nat.le_refl _, Nat.le_succ _⟩
    have := heap_new (w.alloc (.cells #[.slice none 0 0, .slice none 0 0, .slice none 0 0, .slice none 0 0] 79)) (.cells #[.pointer (some ⟨w.heap.size, 0, none⟩)] 72)
    rwa [al_size] at this
  have HLN := Lib.hid (fun o o' => tLen_any p pa L.length pc ((w.alloc o).alloc o') (cell_al o' (cell_al o hp0)))
  have HA := Lib.hid ha
  have HST := Lib.hid hst
  have HG := Lib.hid hgood
  have HMK := Lib.hid hmk
  have HMB := Lib.hid hmb
  have HMU := Lib.hid hmu
  have HMKB := Lib.hid hmkB
  have HMKU := Lib.hid hmkU
  clear ha hst hgood hmk hmb hmu hp0 hmkB hmkU
  go_enter Tryz.func49, Tryz.ntmps49
  go_wp2_with (first | (go_at_call 17; refine (HLN.out _ _).mono ?_; rintro e w' ⟨rfl, rfl⟩))
  generalize (w.alloc (.cells #[.slice none 0 0, .slice none 0 0, .slice none 0 0, .slice none 0 0] 79)).alloc (.cells #[.pointer (some ⟨w.heap.size, 0, none⟩)] 72) = W0 at HST ⊢
  go_loopw [17] (fun i wr => ∃ (k : Nat) (vl : Value) (xs : List Value) (F : Nat → Prop), k ≤ L.length ∧ i = .int .i64 k ∧ Hid (LkA w wr w.heap.size (w.heap.size + 1) k L vl xs F)) (fun i _ => L.length - (intOf i).toNat)
  case atStart => exact ⟨0, _, _, _, Nat.zero_le _, rfl, HST⟩
  case round =>
    clear HST
    obtain ⟨k, vl, xs, F, hk, rfl, HI⟩ := hrel
    by_cases hlt : k < L.length
    · have htb : 0 ≤ (k : Int) ∧ (k : Int) < L.length := by omega
      have HND := Lib.hid (tNode_in 82 nkey p F0 L k wr (HA.out.below HI.out.below) htb)
      have hlk := (ndF_mem (L := L) htb).2
      rw [Int.toNat_natCast] at hlk
      generalize ndF L k = nd at HND hlk
      have HLK := Lib.hid hlk
      obtain ⟨va, vc, rfl⟩ := own_sl HI.out.own
      clear hlk
      go_wp2_with (first | (go_at_call 72; refine HND.out.mono ?_; rintro e w2 ⟨hb2, v2, rfl, hs2⟩; obtain ⟨v2a, v2c, hv2, _⟩ := hs2.form; subst hv2; have HB2 := Lib.hid hb2; have HS2 := Lib.hid hs2; clear hb2 hs2))
      have hb3 : Below w2.heap.size w2 (w2.alloc (.cells #[.int .i64 nd.op, .int .i64 nd.n, .string nd.s, .slice v2a nd.l.length v2c] 54)) := (Below.refl _ _).alloc (Nat.le_refl _) _
      have h3 := (HI.out.bl HB2.out).bl hb3
      have hv3 := HS2.out.step (Kp.of_all hb3) (K' := fun b => ¬ F b) (fun b _ hb hf => by have := HI.out.lt b hf; omega)
      have hb4 := ((Below.refl (w2.alloc (.cells #[.int .i64 nd.op, .int .i64 nd.n, .string nd.s, .slice v2a nd.l.length v2c] 54)).heap.size (w2.alloc (.cells #[.int .i64 nd.op, .int .i64 nd.n, .string nd.s, .slice v2a nd.l.length v2c] 54))).alloc (Nat.le_refl _) (.cells #[.int .i64 nd.op, .int .i64 nd.n, .string nd.s, .slice v2a nd.l.length v2c] 54)).drew
      have HN := Lib.hid (heap_new (w2.alloc (.cells #[.int .i64 nd.op, .int .i64 nd.n, .string nd.s, .slice v2a nd.l.length v2c] 54)) (.cells #[.int .i64 nd.op, .int .i64 nd.n, .string nd.s, .slice v2a nd.l.length v2c] 54))
      have HOW := Lib.hid (own_below h3.own hb4)
      have HP := Lib.hid (fun w6 v' => h3.step (w2 := w6) (v' := v') HLK.out hb4 hv3)
      have c0 : (w2.alloc (.cells #[.int .i64 nd.op, .int .i64 nd.n, .string nd.s, .slice v2a nd.l.length v2c] 54)).cell? ⟨w.heap.size + 1, 0, none⟩ = some (.pointer (some ⟨w.heap.size, 0, none⟩)) := by rw [cell_of_row _ _ _ _ _ _ h3.box]; rfl
      have c1 := (row4_at h3.at_).1.1
      have d0 := cell_al (.cells #[.int .i64 nd.op, .int .i64 nd.n, .string nd.s, .slice v2a nd.l.length v2c] 54) c0
      have d1 := cell_al (.cells #[.int .i64 nd.op, .int .i64 nd.n, .string nd.s, .slice v2a nd.l.length v2c] 54) c1
      have HBX := Lib.hid h3.box
      have HSZ := Lib.hid (Nat.le_trans h3.below.size hb4.size)
      clear hb3 h3 hv3 hb4
      go_region_law (first | (refine step_append_sl (by rfl) _ _ 76 (by rfl) el_nodes w.heap.size (.slice va k vc) k xs (by rfl) HOW.out (K := fun _ => True) (.slice (some ⟨w2.heap.size + 1, 0, none⟩) 1 1) 1 [.int .i64 nd.op, .int .i64 nd.n, .string nd.s, .slice v2a nd.l.length v2c] (by rfl) (SlR.block (cs := #[.int .i64 nd.op, .int .i64 nd.n, .string nd.s, .slice v2a nd.l.length v2c]) (by have h := HN.out; rw [al_size] at h; exact h) 4 1 rfl (by decide)) (by simp [Value.oneCell']) (by omega) (by unfold maxLen; omega) HSZ.out ?_; intro v6 w6 ho6 hg6 _ hb6; obtain ⟨⟨F', p1⟩, p2, p3, p4⟩ := HP.out w6 v6 hg6 ho6 hb6; have b0 : w6.cell? ⟨w.heap.size + 1, 0, none⟩ = some (.pointer (some ⟨w.heap.size, 0, none⟩)) := (by rw [cell_of_row _ _ _ _ _ _ (p4.trans HBX.out)]; rfl); obtain ⟨v6a, v6c, hv6⟩ := own_sl ho6; subst hv6; have HP1 := Lib.hid p1; clear p1 p4 ho6 hg6 hb6))
      all_goals
        go_wp2_with fail
        go_round
        case rel => exact ⟨k + 1, _, _, _, by omega, by go_num, HP1⟩
        case measure => simp [intOf]; omega
    · obtain rfl : k = L.length := by omega
      obtain ⟨va, vc, rfl⟩ := own_sl HI.out.own
      have c0 : wr.cell? ⟨w.heap.size + 1, 0, none⟩ = some (.pointer (some ⟨w.heap.size, 0, none⟩)) := by rw [cell_of_row _ _ _ _ _ _ HI.out.box]; rfl
      obtain ⟨⟨c1, c2, c3, c4⟩, cf⟩ := row4_at HI.out.at_
      have hmkB := HMKB.out
      have z1 : w.heap.size ≠ wr.heap.size := by have := heap_lt HI.out.at_; omega
      have z2 : w.heap.size + 1 ≠ wr.heap.size := by have := heap_lt HI.out.box; omega
      have q1 := cell_al (.cells mb 4) c1
      have q2 := cell_al (.cells mb 4) c2
      have qf := fz_al (o := 1) (.cells mb 4) (heap_lt HI.out.at_) (cf 1)
      have hs1 : ((wr.alloc (.cells mb 4)).setCell ⟨w.heap.size, 1, none⟩ (.slice (some ⟨wr.heap.size, 0, none⟩) L.length L.length)).heap[w.heap.size]? = some (.cells #[.slice va L.length vc, .slice (some ⟨wr.heap.size, 0, none⟩) L.length L.length, .slice none 0 0, .slice none 0 0] 79 (0, 0)) := by
        rw [Lib.heap_setCell_same (heap_al _ HI.out.at_)]; rfl
      obtain ⟨⟨e1, e2, e3, _⟩, ef⟩ := row4_at hs1
      have hx1 : ((wr.alloc (.cells mb 4)).setCell ⟨w.heap.size, 1, none⟩ (.slice (some ⟨wr.heap.size, 0, none⟩) L.length L.length)).heap[w.heap.size + 1]? = some (.cells #[.pointer (some ⟨w.heap.size, 0, none⟩)] 72 (0, 0)) := by
        rw [Below.heap_setCell _ _ _ _ (by simp)]; exact heap_al _ HI.out.box
      have HE := Lib.hid (And.intro hs1 hx1)
      have hsz : ((wr.alloc (.cells mb 4)).setCell ⟨w.heap.size, 1, none⟩ (.slice (some ⟨wr.heap.size, 0, none⟩) L.length L.length)).heap.size = wr.heap.size + 1 := by simp [World.setCell]
      have HSZ := Lib.hid hsz
      clear hs1 hx1 hsz
      go_wp2_with fail
      go_region_held3 (fun w' => w'.cell? ⟨w.heap.size + 1, 0, none⟩ = some (.pointer (some ⟨w.heap.size, 0, none⟩)) ∧ w'.cell? ⟨w.heap.size, 0, none⟩ = some (.slice va L.length vc)) (go_keep) (fail)
      obtain ⟨w1, hw1⟩ : ∃ w1, ((wr.alloc (.cells mb 4)).setCell ⟨w.heap.size, 1, none⟩ (.slice (some ⟨wr.heap.size, 0, none⟩) L.length L.length)).drew = w1 := ⟨_, rfl⟩
      have hs1 : w1.heap[w.heap.size]? = some (.cells #[.slice va L.length vc, .slice (some ⟨wr.heap.size, 0, none⟩) L.length L.length, .slice none 0 0, .slice none 0 0] 79 (0, 0)) := by rw [← hw1]; exact HE.out.1
      have hx1 : w1.heap[w.heap.size + 1]? = some (.cells #[.pointer (some ⟨w.heap.size, 0, none⟩)] 72 (0, 0)) := by rw [← hw1]; exact HE.out.2
      have hsz : w1.heap.size = wr.heap.size + 1 := by rw [← hw1]; exact HSZ.out
      rw [hw1]
      have HW1 := Lib.hid hw1
      clear hw1 c0 c1 c2 c3 c4 cf q1 q2 qf e1 e2 e3 ef hmkB HE
      have hmkU := HMKU.out
      have c0 : w1.cell? ⟨w.heap.size + 1, 0, none⟩ = some (.pointer (some ⟨w.heap.size, 0, none⟩)) := by rw [cell_of_row _ _ _ _ _ _ hx1]; rfl
      obtain ⟨⟨c1, c2, c3, c4⟩, cf⟩ := row4_at hs1
      have z1 : w.heap.size ≠ w1.heap.size := by have := heap_lt hs1; omega
      have z2 : w.heap.size + 1 ≠ w1.heap.size := by have := heap_lt hx1; omega
      have q1 := cell_al (.cells mu 24) c1
      have q2 := cell_al (.cells mu 24) c3
      have qf := fz_al (o := 2) (.cells mu 24) (heap_lt hs1) (cf 2)
      have hs2 : ((w1.alloc (.cells mu 24)).setCell ⟨w.heap.size, 2, none⟩ (.slice (some ⟨wr.heap.size + 1, 0, none⟩) L.length L.length)).heap[w.heap.size]? = some (.cells #[.slice va L.length vc, .slice (some ⟨wr.heap.size, 0, none⟩) L.length L.length, .slice (some ⟨wr.heap.size + 1, 0, none⟩) L.length L.length, .slice none 0 0] 79 (0, 0)) := by
        rw [Lib.heap_setCell_same (heap_al _ hs1)]; rfl
      obtain ⟨⟨e1, e2, e3, _⟩, ef⟩ := row4_at hs2
      have HS1 := Lib.hid hsz
      clear hs1 hx1 hs2
      go_wp2_with fail
      go_region_held3 (fun w' => w'.cell? ⟨w.heap.size + 1, 0, none⟩ = some (.pointer (some ⟨w.heap.size, 0, none⟩)) ∧ w'.cell? ⟨w.heap.size, 0, none⟩ = some (.slice va L.length vc)) (go_keep) (fail)
      obtain ⟨w2, hw2⟩ : ∃ w2, ((w1.alloc (.cells mu 24)).setCell ⟨w.heap.size, 2, none⟩ (.slice (some ⟨wr.heap.size + 1, 0, none⟩) L.length L.length)).drew = w2 := ⟨_, rfl⟩
      have hC := HI.out.fin HMB.out HMU.out HW1.out.symm (w2 := w2) hw2.symm
      rw [hw2]
      clear hw2 c0 c1 c2 c3 c4 cf q1 q2 qf e1 e2 e3 ef hmkU HSZ HW1 HS1 z1 z2 HI
      have HC := Lib.hid hC
      generalize wr.heap.size = S0 at HC
      obtain ⟨b, off, c', e, _, _, _, _⟩ := HC.out.l.at h0
      cases e
      have c0 : w2.cell? ⟨w.heap.size + 1, 0, none⟩ = some (.pointer (some ⟨w.heap.size, 0, none⟩)) := by rw [cell_of_row _ _ _ _ _ _ HC.out.box]; rfl
      obtain ⟨⟨c1, c2, c3, c4⟩, cf⟩ := row4_at HC.out.at_
      clear hC
      go_wp2_with fail
      go_loopw [61] (fun i wr => ∃ k : Nat, k ≤ L.length ∧ i = .int .i64 k ∧ Hid (LkC w wr S0 w.heap.size (w.heap.size + 1) S0 (S0 + 1) L (.slice (some ⟨b, off, none⟩) L.length vc) (usesK L k))) (fun i _ => L.length - (intOf i).toNat)
      case atStart => exact ⟨0, Nat.zero_le _, rfl, HC⟩
      case round =>
        clear c0 c1 c2 c3 c4 cf HC
        obtain ⟨k, hk, rfl, HI⟩ := hrel
        by_cases hlt : k < L.length
        · have htb : 0 ≤ (k : Int) ∧ (k : Int) < L.length := by omega
          obtain ⟨na, nlc, n0, n1, n2, n3, n4⟩ := HI.out.node htb
          rw [Int.toNat_natCast] at n0 n1 n2 n3
          have hpt := HMK.out.parts _ (ndF_mem htb).1
          have har := HMK.out.ar _ (ndF_mem htb).1
          have hpp := fun i hi => HMK.out.part htb (i := i) hi
          have hus : usesK L (k + 1) = useXR L ((ndF L k).l.foldl (fun us x => useR us x k) (usesK L k)) (ndF L k) k := rfl
          have hlen := usesK_len HG.out k (by omega)
          have hl64 := HG.out _ (ndF_mem htb).1
          have hbb : Below wr.heap.size wr (wr.alloc (.cells #[.int .i64 (ndF L k).op, .int .i64 (ndF L k).n, .string (ndF L k).s, .slice na (ndF L k).l.length nlc] 54)) := (Below.refl _ _).alloc (Nat.le_refl _) _
          have hbx := heap_new wr (.cells #[.int .i64 (ndF L k).op, .int .i64 (ndF L k).n, .string (ndF L k).s, .slice na (ndF L k).l.length nlc] 54)
          have hc1 := HI.out.bl hbb
          have hn4 := n4.step (Kp.of_all hbb) (fun _ _ h => h)
          generalize ndF L k = nd at *
          have HUS := Lib.hid hus
          have HLEN := Lib.hid hlen
          have HPT := Lib.hid hpt
          have HAR := Lib.hid har
          have HPP := Lib.hid hpp
          have HC1 := Lib.hid hc1
          have HBX := Lib.hid hbx
          have HN4 := Lib.hid hn4
          clear hpt har hpp hus hlen hbb hbx hc1 hn4 n4
          go_wp2_with fail
          generalize wr.alloc (.cells #[.int .i64 nd.op, .int .i64 nd.n, .string nd.s, .slice na nd.l.length nlc] 54) = w3 at HC1 HBX HN4 ⊢
          generalize hbq : wr.heap.size = bq at HBX ⊢
          clear hbq
          go_loopw [69] (fun i wi => ∃ j : Nat, j ≤ nd.l.length ∧ i = .int .i64 j ∧ Hid (LkC w wi S0 w.heap.size (w.heap.size + 1) S0 (S0 + 1) L (.slice (some ⟨b, off, none⟩) L.length vc) ((nd.l.take j).foldl (fun us x => useR us x k) (usesK L k))) ∧ Hid (wi.heap[bq]? = some (.cells #[.int .i64 nd.op, .int .i64 nd.n, .string nd.s, .slice na nd.l.length nlc] 54 (0, 0))) ∧ Hid (SlRep (fun b => b < S0 ∧ b ≠ w.heap.size) wi (.slice na nd.l.length nlc) nd.l)) (fun i _ => nd.l.length - (intOf i).toNat)
          case atStart => exact ⟨0, Nat.zero_le _, rfl, HC1, HBX, HN4⟩
          case round =>
            clear HC1 HBX HN4
            obtain ⟨j, hj, rfl, HJ, HBX, HN4⟩ := hrel
            by_cases hjt : j < nd.l.length
            · obtain ⟨pb, po, rfl, hp⟩ := SlRep.get HN4.out (by omega)
              obtain ⟨x, hx⟩ : ∃ x, nd.l[j]? = some x := ⟨_, List.getElem?_eq_getElem hjt⟩
              have hcell := hp j x hx
              have hxb := HPT.out x (List.mem_of_getElem? hx)
              have hsn : (nd.l.take (j + 1)).foldl (fun us x => useR us x k) (usesK L k) = useR ((nd.l.take j).foldl (fun us x => useR us x k) (usesK L k)) x k := by
                rw [List.take_add_one, hx]; simp [List.foldl_append]
              have hln : ∀ m ∈ (nd.l.take j).foldl (fun us x => useR us x k) (usesK L k), m.length ≤ 10000000 := fun m hm => by
                have h1 := useF_len (t := (k : Int)) (l := nd.l.take j) HLEN.out m hm
                rw [List.length_take] at h1; omega
              have HU := Lib.hid (dLook1_any w S0 w.heap.size (w.heap.size + 1) S0 (S0 + 1) L _ _ x k _ HJ.out hxb hln)
              have HSN := Lib.hid hsn
              clear hp hx hxb hsn hln
              go_wp2_with (first | (go_at_call 73; refine HU.out.mono ?_; rintro e w5 ⟨rfl, h5, hk5, hk6⟩; have H5 := Lib.hid h5; have HK5 := Lib.hid hk5; have HK6 := Lib.hid hk6; clear h5 hk5 hk6))
              go_round
              case rel => exact ⟨j + 1, by omega, by go_num, Lib.hid (by rw [HSN.out]; exact H5.out), Lib.hid (HK5.out _ _ _ _ HBX.out (by decide) (by decide)), Lib.hid (HN4.out.step (HK6.out.mono fun _ _ h => h.1) (fun _ _ h => h))⟩
              case measure => simp [intOf]; omega
            · obtain rfl : j = nd.l.length := by omega
              rw [List.take_length] at HJ
              obtain ⟨⟨x0, x1, x2, x3⟩, _⟩ := row4_at HBX.out
              have c0 : wr.cell? ⟨w.heap.size + 1, 0, none⟩ = some (.pointer (some ⟨w.heap.size, 0, none⟩)) := by rw [cell_of_row _ _ _ _ _ _ HJ.out.box]; rfl
              obtain ⟨⟨c1, c2, c3, c4⟩, cf⟩ := row4_at HJ.out.at_
              have hln : ∀ m ∈ nd.l.foldl (fun us x => useR us x k) (usesK L k), m.length ≤ 10000000 := fun m hm => by
                have h1 := useF_len (t := (k : Int)) (l := nd.l) HLEN.out m hm
                omega
              have HUX : Hid (usesK L (k + 1) = _) := HUS
              unfold useXR at HUX
              generalize nd.l.foldl (fun us x => useR us x k) (usesK L k) = us1 at HJ hln HUX
              have HLN := Lib.hid hln
              clear hln
              by_cases h8 : nd.op = 8
              · have hl4 := HAR.out.1 h8
                have hp0 := HPP.out 0 (by omega)
                obtain ⟨pb, po, rfl, hp⟩ := SlRep.get HN4.out (by omega)
                have e0 := hp 0 _ (ptF_mem (n := nd) (i := 0) (by omega)).2
                rw [Nat.add_zero] at e0
                obtain ⟨ma, mlc, m0, m1, m2, m3, m4⟩ := HJ.out.node hp0
                have hm7 := (HMK.out.ar _ (ndF_mem hp0).1).2.2.2.2
                have hpm := HMK.out.parts _ (ndF_mem hp0).1
                generalize ndF L (ptF nd 0) = md at *
                rw [h8] at x0
                obtain ⟨hp00, hp01⟩ := hp0
                by_cases h7 : md.op = 7
                · have hm1 := hm7 h7
                  have hq := hpm _ (ptF_mem (n := md) (i := 0) (by omega)).1
                  obtain ⟨mb', mo, rfl, hmp⟩ := SlRep.get m4 (by omega)
                  have g0 := hmp 0 _ (ptF_mem (n := md) (i := 0) (by omega)).2
                  rw [Nat.add_zero] at g0
                  rw [h7] at m0
                  rw [hl4] at x3
                  rw [hm1] at m3
                  have hux := HUX.out
                  rw [if_pos ⟨h8, h7⟩] at hux
                  have HUY := Lib.hid hux
                  have HU := Lib.hid (fun n => dLook1_any w S0 w.heap.size (w.heap.size + 1) S0 (S0 + 1) L _ us1 (ptF md 0) k (wr.drewN n) (HJ.out.bl (below_dN (Below.refl _ _) n)) hq HLN.out)
                  clear hp hmp h8 h7 hm7 hpm hux m4 hl4 hm1 hq
                  go_wp2_with fail
                  go_quiet (fail)
                  go_wp2_with fail
                  go_region_law (first | (go_simp; go_at_call 73; refine (HU.out _).mono ?_; rintro e w5 ⟨rfl, h5, _⟩; have H5 := Lib.hid h5; clear h5))
                  all_goals
                    go_wp2_with fail
                    go_round
                    case rel => exact ⟨k + 1, by omega, by go_num, Lib.hid (by rw [HUY.out]; exact H5.out)⟩
                    case measure => simp [intOf]; omega
                · have d7 : (md.op == 7) = false := by simpa using h7
                  have hux := HUX.out
                  rw [if_neg (fun h => h7 h.2), if_neg (fun h => by rw [h8] at h; exact absurd h.1 (by decide))] at hux
                  have HUY := Lib.hid hux
                  clear hp h8 h7 hm7 hpm hux m4
                  go_wp2_with fail
                  go_quiet (fail)
                  go_wp2_with fail
                  go_quiet (fail)
                  go_wp2_with fail
                  go_round
                  case rel => exact ⟨k + 1, by omega, by go_num, Lib.hid (by rw [HUY.out]; exact HJ.out.bl (below_dN (Below.refl _ _) _))⟩
                  case measure => simp [intOf]; omega
              · have d8 : (nd.op == 8) = false := by simpa using h8
                by_cases h10 : nd.op = 10
                · have hl2 := HAR.out.2.2.1 h10
                  have hp0 := HPP.out 1 (by omega)
                  obtain ⟨pb, po, rfl, hp⟩ := SlRep.get HN4.out (by omega)
                  have e1 := hp 1 _ (ptF_mem (n := nd) (i := 1) (by omega)).2
                  obtain ⟨ma, mlc, m0, m1, m2, m3, m4⟩ := HJ.out.node hp0
                  have hm7 := (HMK.out.ar _ (ndF_mem hp0).1).2.2.2.1
                  have hpm := HMK.out.parts _ (ndF_mem hp0).1
                  generalize ndF L (ptF nd 1) = md at *
                  rw [h10] at x0
                  rw [hl2] at x3
                  obtain ⟨hp00, hp01⟩ := hp0
                  by_cases h7 : md.op = 12
                  · have hm1 := hm7 h7
                    have hq := hpm _ (ptF_mem (n := md) (i := 1) (by omega)).1
                    obtain ⟨mb', mo, rfl, hmp⟩ := SlRep.get m4 (by omega)
                    have g1 := hmp 1 _ (ptF_mem (n := md) (i := 1) (by omega)).2
                    rw [h7] at m0
                    rw [hm1] at m3
                    have hux := HUX.out
                    rw [if_neg (fun h => h8 h.1), if_pos ⟨h10, h7⟩] at hux
                    have HUY := Lib.hid hux
                    have g1' := cell_al (.cells #[.int .i64 12, .int .i64 md.n, .string md.s, .slice (some ⟨mb', mo, none⟩) 2 mlc] 54) g1
                    have HU := Lib.hid (fun W (hb : Below wr.heap.size wr W) => dLook1_any w S0 w.heap.size (w.heap.size + 1) S0 (S0 + 1) L _ us1 (ptF md 1) k W (HJ.out.bl hb) hq HLN.out)
                    clear hp hmp h10 h7 hm7 hpm hux m4 hl2 hm1 hq h8
                    clear g1'
                    go_wp2_with fail
                    go_quiet (fail)
                    go_wp2_with fail
                    have hB1 : Below wr.heap.size wr (wr.drewN nq) := below_dN (Below.refl _ _) nq
                    generalize wr.drewN nq = W1 at hB1
                    replace c0 := cell_bl hB1 c0
                    replace c1 := cell_bl hB1 c1
                    replace x0 := cell_bl hB1 x0
                    replace x3 := cell_bl hB1 x3
                    replace e1 := cell_bl hB1 e1
                    replace m0 := cell_bl hB1 m0
                    replace m1 := cell_bl hB1 m1
                    replace m2 := cell_bl hB1 m2
                    replace m3 := cell_bl hB1 m3
                    replace g1 := cell_bl hB1 g1
                    go_quiet (fail)
                    go_wp2_with fail
                    have hB2 : Below W1.heap.size W1 (W1.drewN nq) := below_dN (Below.refl _ _) nq
                    generalize W1.drewN nq = W2 at hB2
                    replace c0 := cell_bl hB2 c0
                    replace c1 := cell_bl hB2 c1
                    replace x0 := cell_bl hB2 x0
                    replace x3 := cell_bl hB2 x3
                    replace e1 := cell_bl hB2 e1
                    replace m0 := cell_bl hB2 m0
                    replace m1 := cell_bl hB2 m1
                    replace m2 := cell_bl hB2 m2
                    replace m3 := cell_bl hB2 m3
                    replace g1 := cell_bl hB2 g1
                    have HBW := Lib.hid (hB1.trans (hB2.mono hB1.size))
                    clear hB1 hB2
                    have z1 : w.heap.size + 1 ≠ W2.heap.size := by have := World.block_lt_of_cell? W2 _ c0; exact fun e => by simp only at this; omega
                    have z2 : w.heap.size ≠ W2.heap.size := by have := World.block_lt_of_cell? W2 _ c1; exact fun e => by simp only at this; omega
                    have z3 : pb ≠ W2.heap.size := by have := World.block_lt_of_cell? W2 _ e1; exact fun e => by simp only at this; omega
                    have z4 : b ≠ W2.heap.size := by have := World.block_lt_of_cell? W2 _ m0; exact fun e => by simp only at this; omega
                    have z5 : bq ≠ W2.heap.size := by have := World.block_lt_of_cell? W2 _ x3; exact fun e => by simp only at this; omega
                    have g1' := cell_al (.cells #[.int .i64 12, .int .i64 md.n, .string md.s, .slice (some ⟨mb', mo, none⟩) 2 mlc] 54) g1
                    have HBB := Lib.hid (fun n => HBW.out.trans ((below_dN ((Below.refl W2.heap.size W2).alloc (Nat.le_refl _) (.cells #[.int .i64 12, .int .i64 md.n, .string md.s, .slice (some ⟨mb', mo, none⟩) 2 mlc] 54)) n).mono HBW.out.size))
                    go_region_held3 (fun w' => (w'.cell? ⟨w.heap.size + 1, 0, none⟩ = some (.pointer (some ⟨w.heap.size, 0, none⟩)) ∧ w'.cell? ⟨w.heap.size, 0, none⟩ = some (.slice (some ⟨b, off, none⟩) L.length vc) ∧ w'.cell? ⟨bq, 3, none⟩ = some (.slice (some ⟨pb, po, none⟩) 2 nlc) ∧ w'.cell? ⟨pb, po + 1, none⟩ = some (.int .i64 (ptF nd 1))) ∧
                      w'.cell? ⟨b, off + (ptF nd 1).toNat * 4, none⟩ = some (.int .i64 12) ∧ w'.cell? ⟨b, off + (ptF nd 1).toNat * 4 + 1, none⟩ = some (.int .i64 md.n) ∧ w'.cell? ⟨b, off + (ptF nd 1).toNat * 4 + 2, none⟩ = some (.string md.s) ∧ w'.cell? ⟨b, off + (ptF nd 1).toNat * 4 + 3, none⟩ = some (.slice (some ⟨mb', mo, none⟩) 2 mlc)) (go_keep) (fail)
                    all_goals
                      go_wp2_with (first | (go_at_call 73; refine (HU.out _ (HBB.out _)).mono ?_; rintro e w5 ⟨rfl, h5, _⟩; have H5 := Lib.hid h5; clear h5))
                      go_round
                      case rel => exact ⟨k + 1, by omega, by go_num, Lib.hid (by rw [HUY.out]; exact H5.out)⟩
                      case measure => simp [intOf]; omega
                  · have d7 : (md.op == 12) = false := by simpa using h7
                    have hux := HUX.out
                    rw [if_neg (fun h => h8 h.1), if_neg (fun h => h7 h.2)] at hux
                    have HUY := Lib.hid hux
                    clear hp h8 h7 hm7 hpm hux m4 h10
                    go_wp2_with fail
                    go_quiet (fail)
                    go_wp2_with fail
                    go_quiet (fail)
                    go_wp2_with fail
                    go_round
                    case rel => exact ⟨k + 1, by omega, by go_num, Lib.hid (by rw [HUY.out]; exact HJ.out.bl (below_dN (Below.refl _ _) _))⟩
                    case measure => simp [intOf]; omega
                · have d10 : (nd.op == 10) = false := by simpa using h10
                  have hux := HUX.out
                  rw [if_neg (fun h => h8 h.1), if_neg (fun h => h10 h.1)] at hux
                  have HUY := Lib.hid hux
                  clear h8 h10 hux
                  go_wp2_with fail
                  go_quiet (fail)
                  go_wp2_with fail
                  go_quiet (fail)
                  go_wp2_with fail
                  go_round
                  case rel => exact ⟨k + 1, by omega, by go_num, Lib.hid (by rw [HUY.out]; exact HJ.out.bl (below_dN (Below.refl _ _) _))⟩
                  case measure => simp [intOf]; omega
        · obtain rfl : k = L.length := by omega
          have c0 : wr.cell? ⟨w.heap.size + 1, 0, none⟩ = some (.pointer (some ⟨w.heap.size, 0, none⟩)) := by rw [cell_of_row _ _ _ _ _ _ HI.out.box]; rfl
          go_wp2_with fail
          go_ret
          exact ⟨_, _, _, _, rfl, HI.out.below, HI.out.toSp hbig, Nat.le_refl _, HI.out.lo.2.2.2.2.2.2⟩
end Go.Proofs.YtnkndplbcbehkaaGreatDoor
