/-
  The laws' example runs.
-/
import Derived.Test.YtnkndplbcbehkaaGreatDoorLaw
set_option linter.unusedVariables false
set_option linter.unusedSimpArgs false
namespace Go.Proofs.YtnkndplbcbehkaaGreatDoor
open Go.RowKit Go.Cas
set_option maxHeartbeats 8000000
set_option maxRecDepth 20000

def rgB (r : Kr) : Bool := decide (r.leaves ≤ 100000) && decide (r.nodes.length ≤ 1000) && decide (r.chains.length ≤ 900) && r.chains.all (fun c => decide (c.kept.length ≤ 100) && decide (0 ≤ c.gen) && decide (c.gen ≤ 100000))
theorem rg_of {r : Kr} (h : rgB r = true) : Rg r := by
  simp only [rgB, Bool.and_eq_true, decide_eq_true_eq, List.all_eq_true] at h
  exact ⟨h.1.1.1, h.1.1.2, h.1.2, fun c hc => by have := h.2 c hc; exact ⟨this.1.1, this.1.2, this.2⟩⟩

theorem live_rg : rgB (ring0 2) = true ∧ rgB lv1.2.1 = true ∧ rgB lv3.2.1 = true := by decide +kernel

/-- A struct's cells laid in a new block, and what was there. -/
theorem two_new {w : World} {cs ds : Array Value} {T U : TypeId} : Below w.heap.size w ((w.alloc (.cells cs T)).alloc (.cells ds U)) ∧ ((w.alloc (.cells cs T)).alloc (.cells ds U)).heap[w.heap.size]? = some (.cells cs T (0, 0)) ∧
    ((w.alloc (.cells cs T)).alloc (.cells ds U)).heap[w.heap.size + 1]? = some (.cells ds U (0, 0)) := by
  refine ⟨((Below.refl _ _).alloc (Nat.le_refl _) _).alloc (by simp) _, heap_al _ (heap_new _ _), ?_⟩
  have h := heap_new (w.alloc (.cells cs T)) (.cells ds U)
  rw [World.alloc_size] at h; exact h

theorem live_any (w : World) (hE : Env (fun _ => False) w) : Calls Tryz.prog 4 #[] w fun e w' => e = .returned (.bool true) ∧ Below w.heap.size w w' := by
  have HE := Lib.hid hE
  have HR0 := Lib.hid (rg_of live_rg.1)
  have HR1 := Lib.hid (rg_of live_rg.2.1)
  have HR3 := Lib.hid (rg_of live_rg.2.2)
  obtain ⟨f1, f2⟩ := live_1
  have f3 := live_2
  obtain ⟨f4, f5, f6, f7⟩ := live_3
  have f8 := live_4
  have k1 : keyR (atoms 3) (ring0 2) 0 0 1 = lv1 := rfl
  have k2 : keyR lv1.2.2.2 lv1.2.1 0 0 1 = lv2 := rfl
  have k3 : keyR lv2.2.2.2 lv1.2.1 0 0 0 = lv3 := rfl
  have k4 : keyR lv3.2.2.2 lv3.2.1 0 0 0 = lv4 := rfl
  generalize lv1 = q1 at *
  generalize lv2 = q2 at *
  generalize lv3 = q3 at *
  generalize lv4 = q4 at *
  have d6 : (q1.1.key != q3.1.key) = true := by simpa using f6
  have e1 : (q1.2.2.1 == 0) = true := by simpa using f1
  have e2 : (q1.1.gen == 1) = true := by simpa using f2
  have e3 : (q2.2.2.1 == 4) = true := by simpa using f3
  have e4 : (q3.2.2.1 == 0) = true := by simpa using f4
  have e5 : (q3.1.gen == 0) = true := by simpa using f5
  have e8 : (q4.2.2.1 == 4) = true := by simpa using f8
  have K1 := Lib.hid k1
  have K2 := Lib.hid k2
  have K3 := Lib.hid k3
  have K4 := Lib.hid k4
  have F7 := Lib.hid f7
  clear hE k1 k2 k3 k4 f6 f7 f1 f2 f3 f4 f5 f8
  go_enter Tryz.func4, Tryz.ntmps4
  go_wp2_with (first
    | (go_at_call 5; refine (two_any w HE.out).mono ?_; rintro en w1 ⟨p, q, rfl, hb1, ha1, hf1⟩; have LS1 := Lib.hid (ls_start HE.out hb1 ha1 hf1); clear hb1 ha1 hf1)
    | (go_at_call 6; refine (sNew_any p _ (atoms 3) w1 2 0 LS1.out.ar (by decide +kernel) (by decide) (by decide)).mono ?_; rintro en w2 ⟨v, rfl, hb2, hv2⟩; obtain ⟨va, vc, hv, _⟩ := hv2.form; subst hv; have RN2 := Lib.hid (ring_new LS1.out hb2 hv2); have LS2 := Lib.hid (LS1.out.bl hb2).1; clear hb2 hv2)
    | (go_at_call 10; refine (sHas_any _ _ _ q3.2.1 _ RN7.out.1 RN7.out.2 HR3.out.nodes (by have := HR3.out.chains; omega) (fun c hc => (HR3.out.kept c hc).1)).mono ?_; rintro en w8 ⟨v8, rfl, hb8, ho8⟩; obtain ⟨v8a, v8c, hv8⟩ := own_slice ho8; subst hv8; rw [F7.out] at ho8 ⊢; have HB8 := Lib.hid (LS7.out.below.trans (hb8.mono LS7.out.below.size)); clear hb8 ho8)
    | (go_at_call 7; obtain ⟨bw, b5, b6⟩ := two_new (w := w5) (T := 39) (U := 32) (cs := #[.int .i64 q3.1.gen, .int .i64 q3.1.key, .int .i64 q3.1.nonce]) (ds := #[.int .i64 q3.2.1.leaves, .slice v5a q3.2.1.nodes.length v5c, .slice u5a q3.2.1.chains.length u5c]); have hK := key_law 0 0 0 LS5.out RN5.out HR3.out bw (by decide); rw [K4.out] at hK; refine hK.mono ?_; rintro en w6 ⟨v6, u6, rfl, ls6, rn6, lsW, kl6, _, rn5'⟩; obtain ⟨v6a, v6c, hv6, _⟩ := rn6.1.form; subst hv6; obtain ⟨u6a, u6c, hu6, _⟩ := rn6.2.form; subst hu6; have h5 := lsW.keepc kl6 (heap_al _ (heap_al _ H5'.out)) (by decide) (by decide) (fun h => h); have h8 := lsW.keepc kl6 b5 (by decide) (by decide) (fun h => h); have h9 := lsW.keepc kl6 b6 (by decide) (by decide) (fun h => h); obtain ⟨t0, t1, t2⟩ := row3_cells (heap_al (.cells #[.int .i64 q4.2.1.leaves, .slice v6a q4.2.1.nodes.length v6c, .slice u6a q4.2.1.chains.length u6c] 32) (heap_al (.cells #[.int .i64 q4.1.gen, .int .i64 q4.1.key, .int .i64 q4.1.nonce] 39) h5)); obtain ⟨s0, s1, s2⟩ := row3_cells (heap_al (.cells #[.int .i64 q4.2.1.leaves, .slice v6a q4.2.1.nodes.length v6c, .slice u6a q4.2.1.chains.length u6c] 32) (heap_al (.cells #[.int .i64 q4.1.gen, .int .i64 q4.1.key, .int .i64 q4.1.nonce] 39) h8)); obtain ⟨r0, r1, r2⟩ := row3_cells (heap_al (.cells #[.int .i64 q4.2.1.leaves, .slice v6a q4.2.1.nodes.length v6c, .slice u6a q4.2.1.chains.length u6c] 32) (heap_al (.cells #[.int .i64 q4.1.gen, .int .i64 q4.1.key, .int .i64 q4.1.nonce] 39) h9)); obtain ⟨bw6, _, _⟩ := two_new (w := w6) (T := 39) (U := 32) (cs := #[.int .i64 q4.1.gen, .int .i64 q4.1.key, .int .i64 q4.1.nonce]) (ds := #[.int .i64 q4.2.1.leaves, .slice v6a q4.2.1.nodes.length v6c, .slice u6a q4.2.1.chains.length u6c]); obtain ⟨ls7, kl7⟩ := ls6.bl bw6; have LS7 := Lib.hid ls7; have RN7 := Lib.hid (rn5'.kl kl7); clear hK ls6 rn6 lsW kl6 rn5' h5 h8 h9 b5 b6 bw LS5 RN5 H5' ls7 kl7 bw6)
    | (go_at_call 7; obtain ⟨bw, _, _⟩ := two_new (w := w4) (T := 39) (U := 32) (cs := #[.int .i64 q2.1.gen, .int .i64 q2.1.key, .int .i64 q2.1.nonce]) (ds := #[.int .i64 q2.2.1.leaves, .slice v4a q2.2.1.nodes.length v4c, .slice u4a q2.2.1.chains.length u4c]); have hK := key_law 0 0 0 LS4.out RN4.out HR1.out bw (by decide); rw [K3.out] at hK; refine hK.mono ?_; rintro en w5 ⟨v5, u5, rfl, ls5, rn5, lsW, kl5, _, _⟩; obtain ⟨v5a, v5c, hv5, _⟩ := rn5.1.form; subst hv5; obtain ⟨u5a, u5c, hu5, _⟩ := rn5.2.form; subst hu5; have h5 := lsW.keepc kl5 (heap_al _ (heap_al _ H5.out)) (by decide) (by decide) (fun h => h); have H5' := Lib.hid h5; have LS5 := Lib.hid ls5; have RN5 := Lib.hid rn5; clear hK ls5 rn5 lsW kl5 h5 bw LS4 RN4 H5 t0 t1 t2)
    | (go_at_call 7; obtain ⟨bw, b5, b6⟩ := two_new (w := w3) (T := 39) (U := 32) (cs := #[.int .i64 q1.1.gen, .int .i64 q1.1.key, .int .i64 q1.1.nonce]) (ds := #[.int .i64 q1.2.1.leaves, .slice v3a q1.2.1.nodes.length v3c, .slice u3a q1.2.1.chains.length u3c]); have hK := key_law 0 0 1 LS3.out RN3.out HR1.out bw (by decide); rw [K2.out] at hK; refine hK.mono ?_; rintro en w4 ⟨v4, u4, rfl, ls4, rn4, lsW, kl4, _, rn3'⟩; obtain ⟨v4a, v4c, hv4, _⟩ := rn4.1.form; subst hv4; obtain ⟨u4a, u4c, hu4, _⟩ := rn4.2.form; subst hu4; have h5 := lsW.keepc kl4 b5 (by decide) (by decide) (fun h => h); have h6 := lsW.keepc kl4 b6 (by decide) (by decide) (fun h => h); obtain ⟨t0, t1, t2⟩ := row3_cells (heap_al (.cells #[.int .i64 q2.2.1.leaves, .slice v4a q2.2.1.nodes.length v4c, .slice u4a q2.2.1.chains.length u4c] 32) (heap_al (.cells #[.int .i64 q2.1.gen, .int .i64 q2.1.key, .int .i64 q2.1.nonce] 39) h6)); have H5 := Lib.hid h5; have LS4 := Lib.hid ls4; have RN4 := Lib.hid rn3'; clear hK ls4 rn4 lsW kl4 rn3' h5 h6 b5 b6 bw LS3 RN3)
    | (go_at_call 7; have hK := key_law 0 0 1 LS2.out RN2.out HR0.out (W := w2.alloc (.cells #[.int .i64 2, .slice va 1 vc, .slice none 0 0] 32)) ((Below.refl _ _).alloc (Nat.le_refl _) _) (by decide); rw [K1.out] at hK; refine hK.mono ?_; rintro en w3 ⟨v3, u3, rfl, ls3, rn3, _⟩; obtain ⟨v3a, v3c, hv3, _⟩ := rn3.1.form; subst hv3; obtain ⟨u3a, u3c, hu3, _⟩ := rn3.2.form; subst hu3; have LS3 := Lib.hid ls3; have RN3 := Lib.hid rn3; clear hK ls3 rn3 LS2 RN2))
  go_ret
  exact ⟨rfl, HB8.out⟩

end Go.Proofs.YtnkndplbcbehkaaGreatDoor
