/-
  secrets: take, where keys are derived.
-/
import Derived.Test.YtnkndplbcbehkaaGreatDoorSecE
set_option linter.unusedVariables false
set_option linter.unusedSimpArgs false
namespace Go.Proofs.YtnkndplbcbehkaaGreatDoor
open Go.RowKit Go.Cas
set_option maxHeartbeats 400000
set_option maxRecDepth 20000

set_option maxHeartbeats 2000000 in
theorem take_run (d p : Nat) (F : Nat → Prop) (L : List Nd) (e : Int) (w : World) (g o : Nat) (cur : Array Value) (k : Value) (c : Ch) (gen : Int) (hd : IsD d p F w L e) (hg : w.heap[g]? = some (.cells cur 71 (0, 0))) (hF : F g)
    (h2 : cur[o + 2]? = some (.int .i64 c.gen)) (h3 : cur[o + 3]? = some (.int .i64 c.secret)) (h4 : cur[o + 4]? = some k) (hk : w.ownsRow 0 39 3 k c.kept.length (c.kept.flatMap GK.cs)) (hkf : ∀ b, k.ownBlock = some b → F b)
    (b0 : 0 ≤ c.gen) (b1 : c.gen ≤ gen) (b2 : gen - c.gen ≤ 8) (b3 : c.gen ≤ 100000) (b4 : c.kept.length ≤ 100) :
    Calls Tryz.prog 21 #[.pointer (some ⟨d, 0, none⟩), .pointer (some ⟨g, o, none⟩), .int .i64 gen] w (TakePost w F d p g o cur k (takeR L e c gen)) := by
  have HT := Lib.hid (tk_entry (gen := gen) hd hg hF h2 h3 h4 hk hkf)
  have hc1 := tk_cells HT.out
  generalize hw0 : (w.alloc (.cells #[.int .i64 gen] 3)).alloc (.cells #[.int .i64 0, .int .i64 0, .int .i64 0] 39) = w0 at HT hc1
  obtain ⟨c2, c3, c4, cb, _⟩ := hc1
  have hlt : decide (gen < c.gen) = false := by simpa using b1
  have hw1 : IntKind.i64.wrap (gen - c.gen) = gen - c.gen := by rw [IntKind.wrap_i64]; omega
  have h8 : decide (gen - c.gen > 8) = false := by simpa using b2
  have hn0 : decide (gen - c.gen < 0) = false := by simpa using b1
  clear hd hg h2 h3 h4 hk hkf
  go_enter Tryz.func21, Tryz.ntmps21
  go_wp2_with fail
  go_quiet (fail)
  go_wp2_with fail
  go_quiet (fail)
  go_wp2_with fail
  go_loopw [] (fun wr => ∃ (n : Nat) (F' : Nat → Prop) (L' : List Nd) (e' : Int) (c' : Ch) (k' : Value) (cur' : Array Value), c'.gen + n = gen ∧ c.gen ≤ c'.gen ∧ c'.kept.length + n ≤ 108 ∧ Hid (Tk w F d p g o cur k gen F' wr L' e' c' k' cur') ∧ Hid (runR n L' e' c' = runR (gen - c.gen).toNat L e c))
    (fun wr => match wr.cell? ⟨g, o + 2, none⟩ with | some v => (gen - intOf v).toNat | none => 0)
  case atStart => exact ⟨(gen - c.gen).toNat, _, L, e, c, k, cur, by omega, Int.le_refl _, by omega, Lib.hid (tk_drewN _ HT.out), Lib.hid rfl⟩
  case round =>
    clear c2 c3 c4 cb hlt hw1 h8 hn0
    obtain ⟨n, F', L', e', c', k', cur', n1, n2, n3, HK, HR⟩ := hrel
    obtain ⟨c2, c3, c4, cb, _⟩ := tk_cells HK.out
    cases n with
    | zero =>
      have hlt : decide (c'.gen < gen) = false := by simpa using (by omega : gen ≤ c'.gen)
      obtain ⟨a, kc, rfl, kc1, kc2⟩ : ∃ a kc, k' = .slice a c'.kept.length kc ∧ c'.kept.length ≤ kc ∧ kc ≤ maxLen := by
        rcases HK.out.kept.2 with ⟨rfl, h0⟩ | ⟨g2, cap, cu, rfl, _, _, h1, h2, _⟩
        · rw [h0]; exact ⟨_, _, rfl, Nat.le_refl _, Nat.zero_le _⟩
        · exact ⟨_, _, rfl, h1, h2⟩
      unfold maxLen at kc2
      go_wp2_with fail
      go_quiet (fail)
      go_wp2_with fail
      have HK1 := Lib.hid (tk_drewN nq HK.out)
      generalize wr.drewN nq = w1 at HK1
      obtain ⟨d2, d3, d4, db, d5⟩ := tk_cells HK1.out
      have hw2 : IntKind.i64.wrap ((c'.kept.length : Int) - 8) = (c'.kept.length : Int) - 8 := by rw [IntKind.wrap_i64]; omega
      clear c2 c3 c4 cb
      obtain ⟨m, hmd⟩ : ∃ m : Nat, m = c'.kept.length - 8 := ⟨_, rfl⟩
      have hm : max ((c'.kept.length : Int) - 8) 0 = (m : Int) := by omega
      have hml : m ≤ c'.kept.length := by omega
      obtain ⟨a2, ha2⟩ : ∃ a2, (if kc = m then a else Option.map (fun x => x.add (m * 3)) a) = a2 := ⟨_, rfl⟩
      have HMD := Lib.hid hmd
      clear hmd
      go_region_law (fail)
      all_goals
        have HTL := Lib.hid (tk_cut (tk_drewN 1 HK1.out) hml ha2)
        obtain ⟨W, hW⟩ : ∃ W, (w1.setCell ⟨g, o + 4, none⟩ (.slice a2 (c'.kept.length - m) (kc - m))).drew = W := ⟨_, rfl⟩
        have HTL2 : Hid (Tl w F d p g o cur k F' W L' e' ⟨c'.leaf, c'.kind, c'.gen, c'.secret, c'.kept.drop m⟩ (.slice a2 (c'.kept.length - m) (kc - m)) (cur'.setIfInBounds (o + 4) (.slice a2 (c'.kept.length - m) (kc - m)))) := by rw [← hW]; exact HTL
        rw [hW]
        clear hW HTL ha2 hm
        go_wp2_with (go_at_call 48; refine (tl_forward HTL2.out (by show 0 ≤ c'.gen; omega) (by show c'.gen ≤ 1000000; omega)).mono ?_; rintro en w2 ⟨rfl, F2, cur2, hk2⟩; have HL2 := Lib.hid hk2; clear hk2)
        obtain ⟨x0, x1, x2, x3, x4⟩ := tl_facts HL2.out (.int .i64 (fwdR L' e' c'.gen c'.secret).1.gen) (.int .i64 (fwdR L' e' c'.gen c'.secret).1.key) (.int .i64 (fwdR L' e' c'.gen c'.secret).1.nonce)
        have l0 := cell_of_row _ _ 0 _ _ _ x4
        have l1 := cell_of_row _ _ 1 _ _ _ x4
        have l2 := cell_of_row _ _ 2 _ _ _ x4
        have m0 := frozen_of_row _ _ 0 _ _ x4
        have m1 := frozen_of_row _ _ 1 _ _ x4
        have m2 := frozen_of_row _ _ 2 _ _ x4
        simp only [List.getElem?_toArray, List.getElem?_cons_succ, List.getElem?_cons_zero] at l0 l1 l2
        have X4 := Lib.hid x4
        clear x4
        have hdt : d ≠ w.heap.size + 1 := fun e => by have h1 := HL2.out.res; rw [← e, HL2.out.isd.at_] at h1; cases h1
        have hdt' : w.heap.size + 1 ≠ d := fun e => hdt e.symm
        have x5 : ((((w2.alloc (.cells #[.int .i64 (fwdR L' e' c'.gen c'.secret).1.gen, .int .i64 (fwdR L' e' c'.gen c'.secret).1.key, .int .i64 (fwdR L' e' c'.gen c'.secret).1.nonce] 39)).setCell ⟨w.heap.size + 1, 0, none⟩ (.int .i64 (fwdR L' e' c'.gen c'.secret).1.gen)).setCell ⟨w.heap.size + 1, 1, none⟩ (.int .i64 (fwdR L' e' c'.gen c'.secret).1.key)).setCell ⟨w.heap.size + 1, 2, none⟩ (.int .i64 (fwdR L' e' c'.gen c'.secret).1.nonce)).cell? ⟨d, 1, none⟩ = some (.int .i64 (fwdR L' e' c'.gen c'.secret).2.2.2) := by
          rw [World.cell?_setCell_other _ _ _ _ (by simp [hdt, hdt']), World.cell?_setCell_other _ _ _ _ (by simp [hdt, hdt']), World.cell?_setCell_other _ _ _ _ (by simp [hdt, hdt'])]; exact x3
        go_region_law (fail)
        all_goals
          go_wp2_with fail
          have hz3 := Lib.heap_setCell_same (i := 2) (Lib.heap_setCell_same (i := 1) (Lib.heap_setCell_same (i := 0) X4.out (.int .i64 (fwdR L' e' c'.gen c'.secret).1.gen)) (.int .i64 (fwdR L' e' c'.gen c'.secret).1.key)) (.int .i64 (fwdR L' e' c'.gen c'.secret).1.nonce)
          have n0 := cell_of_row _ _ 0 _ _ _ hz3
          have n1 := cell_of_row _ _ 1 _ _ _ hz3
          have n2 := cell_of_row _ _ 2 _ _ _ hz3
          simp only [List.setIfInBounds_toArray, List.set_cons_zero, List.set_cons_succ, List.getElem?_toArray, List.getElem?_cons_succ, List.getElem?_cons_zero] at n0 n1 n2
          refine bodyPost_ret (v := .tuple #[.agg #[.int .i64 (fwdR L' e' c'.gen c'.secret).1.gen, .int .i64 (fwdR L' e' c'.gen c'.secret).1.key, .int .i64 (fwdR L' e' c'.gen c'.secret).1.nonce], .int .i64 (fwdR L' e' c'.gen c'.secret).2.2.2]) (by simp [results, Tryz.results21, go_sem, n0, n1, n2]) rfl ?_
          have hres : takeR L e c gen = ((fwdR L' e' c'.gen c'.secret).1, (fwdR L' e' c'.gen c'.secret).2.2.2, ⟨c'.leaf, c'.kind, c'.gen + 1, (fwdR L' e' c'.gen c'.secret).2.1, c'.kept.drop m⟩, (fwdR L' e' c'.gen c'.secret).2.2.1, (fwdR L' e' c'.gen c'.secret).2.2.2) := by
            unfold takeR
            rw [if_neg (by omega), if_neg (by omega), ← HR.out, HMD.out]
            rfl
          rw [hres]
          refine ⟨rfl, tl_fin HL2.out (Kp.drew ?_)⟩
          exact ((((Kp.refl _ _).alloc _).setCell (fun _ h => h rfl) _).setCell (fun _ h => h rfl) _).setCell (fun _ h => h rfl) _
    | succ n =>
      have hlt : decide (c'.gen < gen) = true := by simpa using (by omega : c'.gen < gen)
      obtain ⟨a, kc, rfl, kc1, kc2⟩ : ∃ a kc, k' = .slice a c'.kept.length kc ∧ c'.kept.length ≤ kc ∧ kc ≤ maxLen := by
        rcases HK.out.kept.2 with ⟨rfl, h0⟩ | ⟨g2, cap, cu, rfl, _, _, h1, h2, _⟩
        · rw [h0]; exact ⟨_, _, rfl, Nat.le_refl _, Nat.zero_le _⟩
        · exact ⟨_, _, rfl, h1, h2⟩
      unfold maxLen at kc2
      go_wp2_with fail
      go_quiet (fail)
      go_wp2_with fail
      have HK1 := Lib.hid (tk_drewN nq HK.out)
      generalize wr.drewN nq = w1 at HK1
      have c4' := (tk_cells HK1.out).2.2.1
      have HFW := Lib.hid (fun W (h : Tk w F d p g o cur k gen F' W L' e' c' (.slice a c'.kept.length kc) cur') => tk_forward h (by omega) (by omega))
      clear c2 c3 c4 cb
      generalize hfw : fwdR L' e' c'.gen c'.secret = fw at HFW
      have HF := Lib.hid hfw
      clear hfw
      go_region_law (first
        | (refine step_append_sl (by rfl) _ _ 69 (by rfl) el_GenKeys 0 (.slice a c'.kept.length kc) c'.kept.length (c'.kept.flatMap GK.cs) (by rfl) (HK2.out.kept.alloc _) (K := fun _ => True) (.slice (some ⟨w2.heap.size, 0, none⟩) 1 1) 1 fw.1.cs (by rfl) (SlR.block (cs := fw.1.cs.toArray) (heap_new w2 _) 3 1 rfl (by decide)) (by simp [GK.cs, Value.oneCell']) (by omega) (by unfold maxLen; omega) (by simp) ?_; intro v3 w3 ho3 hg3 _ hat3; obtain ⟨g3, kc3, rfl, _, _⟩ := ho3.form (by omega); have q0 := (hg3.cell_far ⟨g, o + 4, none⟩ (by have := heap_lt HK2.out.row; simp; omega) (own_ne HK2.out.kept HK2.out.row (by decide))).trans (cell_al _ d4); have q1 := (hg3.frozen_far ⟨g, o + 4, none⟩ (by have := heap_lt HK2.out.row; simp; omega) (own_ne HK2.out.kept HK2.out.row (by decide))).trans (fz_al _ (heap_lt HK2.out.row) (frozen_of_row _ _ _ _ _ HK2.out.row)); have HO3 := Lib.hid ho3; have HG3 := Lib.hid hg3; have HA3 := Lib.hid hat3; clear ho3 hg3 hat3)
        | (go_simp; go_at_call 48; refine (HFW.out w1.drew (tk_drewN 1 HK1.out)).mono ?_; rintro en w2 ⟨rfl, F2, cur2, hk2, _⟩; have d4 := (tk_cells hk2).2.2.1; have d5 := cell_al (.cells #[.int .i64 fw.1.gen, .int .i64 fw.1.key, .int .i64 fw.1.nonce] 39) d4; have HK2 := Lib.hid hk2; clear hk2))
      all_goals
        go_wp2_with fail
        go_round
        case rel =>
          obtain ⟨F3, hk3⟩ := tk_append HK2.out HG3.out HO3.out HA3.out
          refine ⟨n, F3, _, _, _, _, _, ?_, ?_, ?_, Lib.hid hk3, ?_⟩
          · show c'.gen + 1 + (n : Int) = gen; omega
          · show c.gen ≤ c'.gen + 1; omega
          · simp; omega
          · refine Lib.hid (Eq.trans ?_ HR.out)
            rw [runR, HF.out]
        case measure =>
          obtain ⟨F3, hk3⟩ := tk_append HK2.out HG3.out HO3.out HA3.out
          rw [(tk_cells hk3).1, (tk_cells HK.out).1]
          simp [intOf]; omega

end Go.Proofs.YtnkndplbcbehkaaGreatDoor
