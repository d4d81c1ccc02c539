/-
  secrets: Key, the walk, the chain found. (Printed by wip/tools/genkey.py.)
-/
import Derived.Test.YtnkndplbcbehkaaGreatDoorSecM
set_option linter.unusedVariables false
set_option linter.unusedSimpArgs false
namespace Go.Proofs.YtnkndplbcbehkaaGreatDoor
open Go.RowKit Go.Cas
set_option maxHeartbeats 16000000
set_option maxRecDepth 20000

theorem sKey_found (N : Nat → Prop) (p : Nat) (L : List Nd) (w : World) (r : Kr) (v u : Value) (leaf kind gen : Int) (hN : Nw N w p) (hE : Env (fun b => ArB w p b ∨ N b) w) (ha : IsArG 82 nkey w p (fun b => ArB w p b ∨ N b) L)
    (hv : SlRep (fun b => ¬ (ArB w p b ∨ N b)) w v r.nodes) (hu : SlRep (fun b => ¬ (ArB w p b ∨ N b)) w u r.chains) (hb : ¬ (leaf < 0 ∨ r.leaves ≤ leaf ∨ (kind ≠ 0 ∧ kind ≠ 1) ∨ gen < 0))
    (b0 : r.leaves ≤ 100000) (b1 : r.nodes.length ≤ 1000) (b2 : r.chains.length ≤ 900) (b3 : ∀ c ∈ r.chains, c.kept.length ≤ 100 ∧ 0 ≤ c.gen ∧ c.gen ≤ 100000) (b4 : gen ≤ 9223372036854775807)
    (j : Nat) (c : Ch) (hfj : findR r.chains leaf kind = (j : Int)) (hcj : r.chains[j]? = some c) (c1 : c.kept.length ≤ 100) (c2 : 0 ≤ c.gen) (c3 : c.gen ≤ 100000) :
    Calls Tryz.prog 7 #[.pointer (some ⟨p, 0, none⟩), .agg #[.int .i64 r.leaves, v, u], .int .i64 leaf, .int .i64 kind, .int .i64 gen] w (KeyPost N w p (keyT r j (takeR L 0 c gen))) := by
  obtain ⟨va, vc, rfl, _⟩ := hv.form
  obtain ⟨ua, uc, rfl, _⟩ := hu.form
  have h3 := k3_start w r.leaves (.slice va r.nodes.length vc) (.slice ua r.chains.length uc)
  generalize hw3 : (((w.alloc (.cells #[.int .i64 r.leaves, .slice va r.nodes.length vc, .slice ua r.chains.length uc] 32)).alloc (.cells #[.int .i64 0, .int .i64 0, .int .i64 0] 39)).alloc (.cells #[.int .i64 0, .slice none 0 0, .slice none 0 0] 32)) = w3 at h3
  generalize hw4 : w3.alloc (.cells #[.pointer (some ⟨p, 0, none⟩), .int .i64 0] 61) = w4
  have hB4 : Below w.heap.size w w4 := by rw [← hw4]; exact h3.below.alloc h3.below.size _
  have rd : w4.heap[w.heap.size + 3]? = some (.cells #[.pointer (some ⟨p, 0, none⟩), .int .i64 0] 61 (0, 0)) := by rw [← hw4, ← h3.size]; exact heap_new _ _
  have r1 : w4.heap[w.heap.size + 1]? = some (.cells #[.int .i64 0, .int .i64 0, .int .i64 0] 39 (0, 0)) := by rw [← hw4]; exact heap_al _ h3.r1
  have r2 : w4.heap[w.heap.size + 2]? = some (.cells #[.int .i64 0, .slice none 0 0, .slice none 0 0] 32 (0, 0)) := by rw [← hw4]; exact heap_al _ h3.r2
  have hbox4 : w4.heap[w.heap.size]? = some (.cells #[.int .i64 r.leaves, .slice va r.nodes.length vc, .slice ua r.chains.length uc] 32 (0, 0)) := by rw [← hw4]; exact heap_al _ h3.box
  obtain ⟨k0, k1, k2⟩ := row3_cells hbox4
  have HCO := Lib.hid (sCopied_any _ _ _ r w4 (hv.step (Kp.of_all hB4) (fun _ _ h => h)) (hu.step (Kp.of_all hB4) (fun _ _ h => h)) b1 (by omega) (fun c hc => (b3 c hc).1))
  have HST := Lib.hid (fun w5 v u ks => key_start (w5 := w5) (v := v) (u := u) (ks := ks) (r := r) hN hE ha hB4 r1 r2 rd)
  have hz : w3.heap.size = w.heap.size + 1 + 1 + 1 := h3.size
  have HZ := Lib.hid hz
  have HW3 := Lib.hid hw3
  have HW4 := Lib.hid hw4
  clear h3 hw3 hw4 hN hE ha hv hu hB4 r1 r2 rd hbox4 hz
  have d1 : decide (leaf < 0) = false := by simp; omega
  have d2 : decide (leaf ≥ r.leaves) = false := by simp; omega
  have d5 : decide (gen < 0) = false := by simp; omega
  have hlf : 0 ≤ leaf ∧ leaf ≤ 100000 := by omega
  have hkd : kind = 0 ∨ kind = 1 := by omega
  have B3 := Lib.hid b3
  have B4 := Lib.hid b4
  clear b3 b4 hb
  have hkk : (kind != 0) = false ∨ ((kind != 0) = true ∧ (kind != 1) = false) := by rcases hkd with rfl | rfl <;> simp
  have d6 : decide ((j : Int) < 0) = false := by simp
  generalize htr : takeR L 0 c gen = tr
  have HFJ := Lib.hid hfj
  have HCJ := Lib.hid hcj
  have HTR := Lib.hid htr
  clear hkd hfj hcj htr
  rcases hkk with d3 | ⟨d3, d4⟩
  all_goals
    go_enter Tryz.func7, Tryz.ntmps7
    go_wp2_with (first
      | (go_at_call 18; rw [HW3.out, HW4.out]; refine HCO.out.mono ?_; rintro en w5 ⟨v1, u1, ks, rfl, hC⟩; obtain ⟨F1, hx1, hd1, ho1, hks, ho4⟩ := HST.out _ _ _ _ hC; obtain ⟨v1a, v1c, rfl⟩ := own_slice hC.nodes; obtain ⟨u1a, u1c, rfl⟩ := own_slice hC.chains; have HX1 := Lib.hid hx1; have HD1 := Lib.hid hd1; have HO1 := Lib.hid ho1; have HKS := Lib.hid hks; have HO4 := Lib.hid ho4; clear hC hx1 hd1 ho1 hks ho4)
      | (go_at_call 19; refine (sFind_any (fun _ => True) r.leaves _ _ r.chains leaf kind _ HO1.out.reads).mono ?_; rw [HFJ.out]; rintro en w6 ⟨rfl, hb6⟩; have HX6 := Lib.hid (HX1.out.bl hb6); have HD6 := Lib.hid (HD1.out.below hb6).1; have HO6 := Lib.hid (HO1.out.below (fun _ h => h) hb6); clear HX1 HD1 HO1 hb6))
    have ho6 := HO6.out
    obtain ⟨g, cap, hu2, hcap, htk⟩ := key_call HX6.out HD6.out ho6 HKS.out HCJ.out gen c2 c3 c1 B4.out
    simp only [Value.slice.injEq, true_and] at hu2
    obtain ⟨rfl, rfl⟩ := hu2
    rw [HTR.out] at htk
    have HTK := Lib.hid htk
    have HFI := Lib.hid (fun W' (hb : Below w6.heap.size w6 W') => sFind_any (fun _ => True) r.leaves (.slice v1a r.nodes.length v1c) _ r.chains leaf kind W' (ho6.below (F' := F1) (fun _ h => h) hb).reads)
    rw [HFJ.out] at HFI
    have hjl := getElem?_lt HCJ.out
    have hj1 : (0 : Int) ≤ (j : Int) := by omega
    have hj2 : (j : Int) < (r.chains.length : Int) := by omega
    obtain ⟨o0, o1, o2⟩ := row3_cells ho6.at_
    have HOB := Lib.hid ho6
    have HXB := HX6
    clear htk ho6
    clear HO6
    go_region_held3 (fun w' => w'.cell? ⟨w5.heap.size, 0, none⟩ = some (.int .i64 r.leaves) ∧ w'.cell? ⟨w5.heap.size, 1, none⟩ = some (.slice v1a r.nodes.length v1c) ∧ w'.cell? ⟨w5.heap.size, 2, none⟩ = some (.slice (some ⟨g, 0, none⟩) r.chains.length u1c)) (go_keep)
      (first
      | (go_at_call 19; refine (HFI.out _ (by repeat (first | exact Below.refl _ _ | refine Below.drew ?_ | refine Below.alloc ?_ (Nat.le_refl _) _))).mono ?_; rintro en w8 ⟨rfl, hb8⟩; have p0 : w8.cell? ⟨w5.heap.size, 0, none⟩ = some (.int .i64 r.leaves) := cell_bl hb8 (by simp [*]); have p1 : w8.cell? ⟨w5.heap.size, 1, none⟩ = some (.slice v1a r.nodes.length v1c) := cell_bl hb8 (by simp [*]); have p2 : w8.cell? ⟨w5.heap.size, 2, none⟩ = some (.slice (some ⟨g, 0, none⟩) r.chains.length u1c) := cell_bl hb8 (by simp [*]); first | (have hz8 : w8.heap[w6.heap.size]? = some (.cells #[.int .i64 0, .int .i64 0, .int .i64 0] 39 (0, 0)) := heap_bl hb8 (heap_new w6.drew _); have HZ8 := Lib.hid hz8; have hB8 : Below w6.heap.size w6 w8 := ((Below.refl _ w6).drew.alloc (Nat.le_refl _) (.cells #[.int .i64 0, .int .i64 0, .int .i64 0] 39)).trans (hb8.mono (by simp)); have HB8 := Lib.hid hB8; clear hz8 hb8 hB8) | (have hB8 : Below w6.heap.size w6 w8 := (Below.refl _ w6).drew.trans hb8; have HB8 := Lib.hid hB8; clear hb8 hB8))
      | (go_at_call 21; first
          | (refine (HTK.out _ (fun t => t = w6.heap.size) HB8.out (fun t ht => by subst ht; exact ⟨Nat.le_refl _, HZ8.out⟩)).mono ?_; rintro en w9 ⟨rfl, F9, hx9, hz9, ha9, hv9, hu9⟩; have kz := (hz9 _ rfl).2; obtain ⟨q0, q1, q2⟩ := row3_cells ha9; obtain ⟨z0, z1, z2⟩ := row3_cells kz; have y0 := frozen_of_row _ _ 0 _ _ kz; have y1 := frozen_of_row _ _ 1 _ _ kz; have y2 := frozen_of_row _ _ 2 _ _ kz; have HF9 := Lib.hid (kf_old (r := ⟨r.leaves, r.nodes, r.chains.set j tr.2.2.1⟩) hx9 (hz9 _ rfl) ha9 (by have := heap_lt HXB.out.r2; omega) hv9 hu9 tr.1); have ne9 : ¬ (w6.heap.size = w5.heap.size) := (by have := heap_lt HOB.out.at_; omega); clear kz hx9 hz9 ha9 hv9 hu9)
          | (refine (HTK.out _ (fun t => t = w8.heap.size) (HB8.out.alloc HB8.out.size _) (fun t ht => by subst ht; exact ⟨HB8.out.size, heap_new w8 _⟩)).mono ?_; rintro en w9 ⟨rfl, F9, hx9, hz9, ha9, hv9, hu9⟩; have kz := (hz9 _ rfl).2; obtain ⟨q0, q1, q2⟩ := row3_cells ha9; obtain ⟨z0, z1, z2⟩ := row3_cells kz; have y0 := frozen_of_row _ _ 0 _ _ kz; have y1 := frozen_of_row _ _ 1 _ _ kz; have y2 := frozen_of_row _ _ 2 _ _ kz; have HF9 := Lib.hid (kf_old (r := ⟨r.leaves, r.nodes, r.chains.set j tr.2.2.1⟩) hx9 (hz9 _ rfl) ha9 (by have := heap_lt HXB.out.r2; have := HB8.out.size; omega) hv9 hu9 tr.1); have ne9 : ¬ (w8.heap.size = w5.heap.size) := (by have := heap_lt HOB.out.at_; have := HB8.out.size; omega); clear kz hx9 hz9 ha9 hv9 hu9)
          | (refine (HTK.out _ (fun _ => False) HB8.out (fun t ht => ht.elim)).mono ?_; rintro en w9 ⟨rfl, F9, hx9, _, ha9, hv9, hu9⟩; obtain ⟨q0, q1, q2⟩ := row3_cells ha9; have HF9 := Lib.hid (kf_new (r := ⟨r.leaves, r.nodes, r.chains.set j tr.2.2.1⟩) hx9 ha9 hv9 hu9 tr.1); clear hx9 ha9 hv9 hu9)))
    all_goals
      first
      | (obtain ⟨W9, hW9⟩ : ∃ W9, W9 = (w9.alloc (.cells #[.int .i64 tr.1.gen, .int .i64 tr.1.key, .int .i64 tr.1.nonce] 39)) := ⟨_, rfl⟩; rw [← hW9] at HF9 ⊢; clear hW9; obtain ⟨q9, hq9⟩ : ∃ q9, q9 = w9.heap.size := ⟨_, rfl⟩; rw [← hq9] at HF9 ⊢; clear hq9)
      | (obtain ⟨W9, hW9⟩ : ∃ W9, W9 = (((w9.setCell ⟨w6.heap.size, 0, none⟩ (.int .i64 tr.1.gen)).setCell ⟨w6.heap.size, 1, none⟩ (.int .i64 tr.1.key)).setCell ⟨w6.heap.size, 2, none⟩ (.int .i64 tr.1.nonce)) := ⟨_, rfl⟩; rw [← hW9] at HF9 ⊢; clear hW9; obtain ⟨q9, hq9⟩ : ∃ q9, q9 = w6.heap.size := ⟨_, rfl⟩; rw [← hq9] at HF9 ⊢; clear hq9)
      | (obtain ⟨W9, hW9⟩ : ∃ W9, W9 = (((w9.setCell ⟨w8.heap.size, 0, none⟩ (.int .i64 tr.1.gen)).setCell ⟨w8.heap.size, 1, none⟩ (.int .i64 tr.1.key)).setCell ⟨w8.heap.size, 2, none⟩ (.int .i64 tr.1.nonce)) := ⟨_, rfl⟩; rw [← hW9] at HF9 ⊢; clear hW9; obtain ⟨q9, hq9⟩ : ∃ q9, q9 = w8.heap.size := ⟨_, rfl⟩; rw [← hq9] at HF9 ⊢; clear hq9)
      obtain ⟨F10, hx10⟩ := HF9.out.kx
      have HX10 := Lib.hid hx10
      obtain ⟨⟨x0, x1, x2⟩, ⟨y0, y1, y2⟩, ⟨f0, f1, f2⟩, ⟨g0, g1, g2⟩⟩ := res_cells hx10.r1 hx10.r2
      obtain ⟨s0, s1, s2⟩ := row3_cells HF9.out.at_
      obtain ⟨t0, t1, t2⟩ := row3_cells HF9.out.key
      have ne1 : ¬ (w.heap.size + 1 = w5.heap.size) := (by have := HO4.out; omega)
      have ne2 : ¬ (w.heap.size + 1 + 1 = w5.heap.size) := (by have := HO4.out; omega)
      have ne3 : ¬ (w.heap.size + 1 = q9) := (by have := HF9.out.tn; omega)
      have ne4 : ¬ (w.heap.size + 1 + 1 = q9) := (by have := HF9.out.tn; omega)
      clear hx10 HX6 HD6 HKS HO4 HTK HFI HXB HOB HCO HST HW3 HW4 HZ
      by_cases ht : tr.2.1 = 0
      · have d8 : (tr.2.1 != 0) = false := by simp [ht]
        have hke : keyT r j tr = (tr.1, ⟨r.leaves, r.nodes, r.chains.set j tr.2.2.1⟩, 0, tr.2.2.2.1) := by unfold keyT; rw [if_pos ht]
        have HKE := Lib.hid hke
        clear ht hke
        go_wp2_with fail
        go_region_held3 (fun w' => (w'.cell? ⟨w5.heap.size, 0, none⟩ = some (.int .i64 r.leaves) ∧ w'.cell? ⟨w5.heap.size, 1, none⟩ = some (.slice v1a r.nodes.length v1c) ∧ w'.cell? ⟨w5.heap.size, 2, none⟩ = some (.slice (some ⟨g, 0, none⟩) r.chains.length u1c)) ∧ w'.cell? ⟨q9, 0, none⟩ = some (.int .i64 tr.1.gen) ∧ w'.cell? ⟨q9, 1, none⟩ = some (.int .i64 tr.1.key) ∧ w'.cell? ⟨q9, 2, none⟩ = some (.int .i64 tr.1.nonce)) (go_keep) (fail)
        all_goals
          go_wp2_with fail
          obtain ⟨W', e, ⟨m0, m1, m2⟩, n0, n1, n2⟩ := HX10.out.res (.int .i64 tr.1.gen) (.int .i64 tr.1.key) (.int .i64 tr.1.nonce) (.int .i64 r.leaves) (.slice v1a r.nodes.length v1c) (.slice (some ⟨g, 0, none⟩) r.chains.length u1c)
          subst e
          refine bodyPost_ret (v := .tuple #[.agg #[.int .i64 tr.1.gen, .int .i64 tr.1.key, .int .i64 tr.1.nonce], .agg #[.int .i64 r.leaves, .slice v1a r.nodes.length v1c, .slice (some ⟨g, 0, none⟩) r.chains.length u1c], .int .i64 0]) (by simp [results, Tryz.results7, go_sem, m0, m1, m2, n0, n1, n2]) rfl ?_
          rw [HKE.out]
          exact KeyPost.drew (HF9.out.fin rfl)
      · have d8 : (tr.2.1 != 0) = true := by simp [ht]
        have hke : keyT r j tr = (⟨0, 0, 0⟩, ⟨0, [], []⟩, tr.2.1, tr.2.2.2.1) := by unfold keyT; rw [if_neg ht]
        have HKE := Lib.hid hke
        clear ht hke
        go_wp2_with fail
        obtain ⟨W', e, ⟨m0, m1, m2⟩, n0, n1, n2⟩ := HX10.out.res (.int .i64 0) (.int .i64 0) (.int .i64 0) (.int .i64 0) (.slice none 0 0) (.slice none 0 0)
        subst e
        refine bodyPost_ret (v := .tuple #[.agg #[.int .i64 0, .int .i64 0, .int .i64 0], .agg #[.int .i64 0, .slice none 0 0, .slice none 0 0], .int .i64 tr.2.1]) (by simp [results, Tryz.results7, go_sem, m0, m1, m2, n0, n1, n2]) rfl ?_
        rw [HKE.out]
        exact HX10.out.err tr.2.1 rfl

end Go.Proofs.YtnkndplbcbehkaaGreatDoor
