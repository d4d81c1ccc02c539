/-
  The library's slices functions at Secret: Clone, Delete, Insert, told by cells. (Printed by wip/tools/genslices.py.)
-/
import Derived.Test.YtnkndplbcbehkaaGreatDoorSlSecret
import Derived.Test.YtnkndplbcbehkaaGreatDoorRows
import Derived.WalkSpells
import Derived.Lib.LazyBuf
import Derived.Lib.Hide
import Derived.Lib.Overlaps
import Derived.Deep.RegionHeld3
set_option linter.unusedVariables false
set_option linter.unusedSimpArgs false
namespace Go.Proofs.YtnkndplbcbehkaaGreatDoor
open Go.RowKit Go.Cas
set_option maxHeartbeats 400000
set_option maxRecDepth 20000


theorem ins_room {cur xs ys : List Value} {A B N : Nat} (hx : cur.take N = xs) (hA : A ≤ N) (hy : ys.length = B) (hc : N + B ≤ cur.length) {c1 : List Value}
    (h1 : c1 = cur.take (A + B) ++ (cur.drop A).take (N - A) ++ cur.drop (A + B + (N - A))) :
    (c1.take A ++ ys ++ c1.drop (A + B)).length = cur.length ∧ (c1.take A ++ ys ++ c1.drop (A + B)).take (N + B) = xs.take A ++ ys ++ xs.drop A := by
  have l1 : c1.length = cur.length := by rw [h1]; simp only [List.length_append, List.length_take, List.length_drop]; omega
  refine ⟨by simp only [List.length_append, List.length_take, List.length_drop, l1]; omega, ?_⟩
  have e1 : c1.take A = cur.take A := by rw [h1, List.append_assoc, List.take_append_of_le_length (by rw [List.length_take]; omega), List.take_take, Nat.min_eq_left (by omega)]
  have e2 : c1.drop (A + B) = (cur.drop A).take (N - A) ++ cur.drop (A + B + (N - A)) := by rw [h1, List.append_assoc, List.drop_left' (by rw [List.length_take]; omega)]
  rw [e1, e2, ← List.append_assoc, List.take_left' (by simp only [List.length_append, List.length_take, List.length_drop]; omega), ← hx, List.take_take, Nat.min_eq_left hA, List.drop_take]

theorem ins_grow {c xs ys : List Value} {A B N : Nat} (hl : xs.length = N) (hA : A ≤ N) (hx : c.take A = xs.take A) (hy : ys.length = B) (hc : N + B ≤ c.length) {c1 : List Value}
    (h1 : c1 = c.take A ++ ys ++ c.drop (A + B)) :
    (c1.take (A + B) ++ xs.drop A ++ c1.drop (A + B + (N - A))).length = c.length ∧ (c1.take (A + B) ++ xs.drop A ++ c1.drop (A + B + (N - A))).take (N + B) = xs.take A ++ ys ++ xs.drop A := by
  have l1 : c1.length = c.length := by rw [h1]; simp only [List.length_append, List.length_take, List.length_drop]; omega
  refine ⟨by simp only [List.length_append, List.length_take, List.length_drop, l1]; omega, ?_⟩
  have e1 : c1.take (A + B) = xs.take A ++ ys := by rw [h1, List.take_left' (by simp only [List.length_append, List.length_take]; omega), hx]
  rw [e1, List.take_left' (by simp only [List.length_append, List.length_take, List.length_drop]; omega)]

theorem getElem?_take_drop {xs : List Value} {a b j : Nat} {u : Value} (h : ((xs.drop a).take b)[j]? = some u) : xs[a + j]? = some u := by
  rw [List.getElem?_take] at h
  split at h
  · rw [List.getElem?_drop] at h; exact h
  · cases h
theorem mem_take_drop {xs : List Value} {a b c : Nat} {u : Value} (h : u ∈ (xs.drop a).take b) (hc : a + b ≤ c) : u ∈ xs.take c := by
  obtain ⟨j, hj⟩ := List.mem_iff_getElem?.1 h
  have hlt := getElem?_lt hj
  rw [List.length_take] at hlt
  refine List.mem_iff_getElem?.2 ⟨a + j, ?_⟩
  rw [List.getElem?_take, if_pos (by omega)]
  exact getElem?_take_drop hj
theorem SlR.row {w : World} {b off cap n sz : Nat} {cs : Array Value} {T : TypeId} {fr : Nat × Nat} {xs : List Value} (h : w.heap[b]? = some (.cells cs T fr)) (hl : xs.length = n * sz) (hm : n ≤ maxLen) (hc : n ≤ cap)
    (hx : ∀ j u, xs[j]? = some u → cs.toList[off + j]? = some u) : SlR (fun _ => True) w sz (.slice (some ⟨b, off, none⟩) n cap) n xs :=
  ⟨hl, hm, .inr ⟨b, off, cap, rfl, hc, trivial, cs, T, fr, h, fun i u hi => by rw [← Array.getElem?_toList]; exact hx i u hi⟩⟩

set_option maxHeartbeats 2000000 in
/-- 'slices.Insert' of one or two elements into an owned slice. -/
theorem insertSecret_any (base : Nat) (v : Value) (n : Nat) (xs : List Value) (i vb m : Nat) (ys : List Value) (w : World) (ho : w.ownsRow base 58 2 v n xs) (h1 : ∀ u ∈ xs, u.oneCell' = true) (hi : i ≤ n) (hn : n ≤ 1000000)
    (hbase : base ≤ w.heap.size) (hv : w.heap[vb]? = some (.cells ys.toArray 58 (0, 0))) (hy : ys.length = m * 2) (hy1 : ∀ u ∈ ys, u.oneCell' = true) (hm : 0 < m) (hm2 : m ≤ 2) (hne : v.ownBlock ≠ some vb) :
    Calls Tryz.prog 42 #[v, .int .i64 i, .slice (some ⟨vb, 0, none⟩) m m] w fun e w' => ∃ v', e = .returned v' ∧ w.grownBy w' v.ownBlock ∧ (v'.ownBlock = v.ownBlock ∨ ∃ g, v'.ownBlock = some g ∧ w.heap.size ≤ g) ∧
      w'.ownsRow base 58 2 v' (n + m) (xs.take (i * 2) ++ ys ++ xs.drop (i * 2)) := by
  have HO := Lib.hid ho
  have HV := Lib.hid hv
  have HY1 := Lib.hid hy1
  have hsv : SlR (fun _ => True) w 2 (.slice (some ⟨vb, 0, none⟩) m m) m ys := by
    have := SlR.block hv 2 m (by simpa using hy) (by unfold maxLen; omega)
    simpa using this
  have HSV := Lib.hid hsv
  obtain ⟨hl, hx⟩ := ho
  have hm0 : ¬ ((m : Int) = 0) := by omega
  by_cases hin : i = n
  · subst hin
    have hfin : xs.take (i * 2) ++ ys ++ xs.drop (i * 2) = xs ++ ys := by rw [← hl, List.take_length, List.drop_length, List.append_nil]
    rw [hfin]
    obtain ⟨a, c, rfl, hic, hc⟩ : ∃ a c, v = .slice a i c ∧ i ≤ c ∧ c ≤ maxLen := by
      rcases hx with ⟨rfl, rfl⟩ | ⟨g, cap, cur, rfl, _, _, h, h', _⟩
      · exact ⟨_, _, rfl, Nat.le_refl _, Nat.zero_le _⟩
      · exact ⟨_, _, rfl, h, h'⟩
    unfold maxLen at hc
    clear hx hsv hy1 hv hl h1 hfin
    rcases Nat.lt_or_ge i c with hic2 | hic2
    rotate_left
    obtain rfl : c = i := by omega
    all_goals
     go_enter Tryz.func42, Tryz.ntmps42
     go_wp2_with (at_builtin; refine wpList_append_sl rfl _ _ 29 rfl el_Secrets base (.slice a _ _) _ xs rfl HO.out (K := fun _ => True) (.slice (some ⟨vb, 0, none⟩) m m) m ys rfl HSV.out HY1.out (by omega) (by unfold maxLen; omega) (by omega) ?_; intro v2 w2 ho2 hg2 _ hat2)
     go_ret
     refine ⟨v2, rfl, hg2, ?_, ho2⟩
     exact hat2.imp id (fun h => ⟨_, h, Nat.le_refl _⟩)
  · rcases hx with ⟨_, h0⟩ | ⟨g, cap, cur, rfl, hb, hg, hnc, hcm, hcs, htake⟩
    · omega
    unfold maxLen at hcm
    have hgv : g ≠ vb := fun e => hne (by rw [e]; rfl)
    have hlt : i < n := by omega
    have hmn : i < n + m := by omega
    by_cases hroom : n + m ≤ cap
    · have hcl : cur.toList.length = cap * 2 := by rw [Array.length_toList, hcs]
      obtain ⟨c1, hc1⟩ : ∃ c1, c1 = cur.toList.take (i * 2 + m * 2) ++ (cur.toList.drop (i * 2)).take (n * 2 - i * 2) ++ cur.toList.drop (i * 2 + m * 2 + (n * 2 - i * 2)) := ⟨_, rfl⟩
      obtain ⟨q1, q2⟩ := ins_room (A := i * 2) (B := m * 2) (N := n * 2) htake (by omega) hy (by omega) hc1
      have l1 : c1.length = cur.toList.length := by rw [hc1]; simp only [List.length_append, List.length_take, List.length_drop]; omega
      have hcp1 : ∀ (ty : TypeId) (dc : Nat) (W : World), W.heap[g]? = some (.cells cur 58 (0, 0)) →
          (Builtin.copy_ #[29, 29] ty #[.slice (some ⟨g, (i + m) * 2, none⟩) (n + m - (i + m)) dc, .slice (some ⟨g, i * 2, none⟩) (n + m - i) (cap - i)]).run Tryz.prog W = .ok (goInt ((n - i : Nat) : Int)) (W.setRow g c1.toArray) := by
        intro ty dc W hW
        have hmin : Nat.min (n + m - i) (n + m - (i + m)) = n - i := by simp only [Nat.min_def]; split <;> omega
        have h := run_copy_k (P := Tryz.prog) (w := W) el_Secrets ty 29 (dCap := dc) (o := (i + m) * 2) (dLen := n + m - (i + m)) hW
          (SlR.row (off := i * 2) (n := n + m - i) (xs := (cur.toList.drop (i * 2)).take ((n + m - i) * 2)) (cap := cap - i) hW (by rw [List.length_take, List.length_drop]; omega) (by unfold maxLen; omega) (by omega) (fun j u hj => getElem?_take_drop hj))
          (fun u hu => h1 u (by rw [hmin, List.take_take, Nat.min_eq_left (by omega)] at hu; rw [← htake]; exact mem_take_drop hu (by omega))) (by rw [hmin, hcs]; omega)
        rw [hmin] at h
        rw [h, hc1, List.take_take, Nat.min_eq_left (by omega), show (i + m) * 2 = i * 2 + m * 2 by omega, show (n - i) * 2 = n * 2 - i * 2 by omega]
      have hcp2 : ∀ (ty : TypeId) (dc : Nat) (W : World), W.heap[g]? = some (.cells c1.toArray 58 (0, 0)) → W.heap[vb]? = some (.cells ys.toArray 58 (0, 0)) →
          (Builtin.copy_ #[29, 29] ty #[.slice (some ⟨g, i * 2, none⟩) (n + m - i) dc, .slice (some ⟨vb, 0, none⟩) m m]).run Tryz.prog W = .ok (goInt m) (W.setRow g (c1.take (i * 2) ++ ys ++ c1.drop (i * 2 + m * 2)).toArray) := by
        intro ty dc W hW hWv
        have hmin : Nat.min m (n + m - i) = m := by simp only [Nat.min_def]; split <;> omega
        have h := run_copy_k (P := Tryz.prog) (w := W) el_Secrets ty 29 (dCap := dc) (o := i * 2) (dLen := n + m - i) hW
          (SlR.row (off := 0) (n := m) (xs := ys) (cap := m) hWv hy (by unfold maxLen; omega) (Nat.le_refl _) (fun j u hj => by rw [Nat.zero_add]; exact hj))
          (fun u hu => HY1.out u (List.mem_of_mem_take hu)) (by rw [hmin, List.size_toArray, l1]; omega)
        rw [hmin, ← hy, List.take_length, hy] at h
        exact h
      have hov : ∀ lb cb (W : World), W.heap[g]? = some (.cells cur 58 (0, 0)) → W.heap[vb]? = some (.cells ys.toArray 58 (0, 0)) →
          (callFunc 67 #[.slice (some ⟨vb, 0, none⟩) m m, .slice (some ⟨g, (i + m) * 2, none⟩) lb cb]).run Tryz.prog W = .ok (.value (.bool false)) W := by
        intro lb cb W hW hWv
        rw [run_callFunc_extern Tryz.func67 (by kernel_rfl) (by kernel_rfl) (by kernel_rfl) (e := Extern.SlicesOverlaps.overlaps #[29, 29] #[4]) (by kernel_rfl),
          Lib.run_overlaps_apart W 29 4 58 Tryz.underlying29 2 (by intro w; obtain ⟨i0, z0, h0, _, h1, _⟩ := el_Secrets.hi; simp [sizeOf, typeInfo, h0, h1]) ⟨vb, 0, none⟩ ⟨g, (i + m) * 2, none⟩ m m lb cb (fun e => hgv e.symm) 58 58 ys.length cur.size (by simp [World.shape?, hWv]) (by simp [World.shape?, hW]) (by omega) (frozen_of_row W vb 0 _ _ hWv) (frozen_of_row W vb _ _ _ hWv)]
        rfl
      have hfin : ∀ W W' : World, w.grownBy W none → W.heap.size = w.heap.size → W.heap[g]? = some (.cells cur 58 (0, 0)) →
          W' = ((W.setRow g c1.toArray).setRow g (c1.take (i * 2) ++ ys ++ c1.drop (i * 2 + m * 2)).toArray) →
          w.grownBy W' (some g) ∧ W'.ownsRow base 58 2 (.slice (some ⟨g, 0, none⟩) (n + m) cap) (n + m) (xs.take (i * 2) ++ ys ++ xs.drop (i * 2)) := by
        rintro W W' hW hsz hWg rfl
        refine ⟨⟨hW.os, hW.tape, hW.output, by simp [size_setRow, hsz], fun k hk hne => ?_⟩, ?_, .inr ⟨g, cap, _, rfl, hb, setRow_at (setRow_at hWg _) _, by omega, by unfold maxLen; omega, ?_, ?_⟩⟩
        · have hk' : k ≠ g := fun e => hne (by rw [e])
          rw [show ((W.setRow g c1.toArray).setRow g _).heap[k]? = W.heap[k]? from by simp only [World.setRow, Array.getElem?_modify]; rw [if_neg (by omega), if_neg (by omega)]]
          exact hW.block k hk (by simp)
        · simp only [List.length_append, List.length_take, List.length_drop, hl]; omega
        · rw [List.size_toArray, q1, hcl]
        · show List.take ((n + m) * 2) _ = _
          rw [← q2, show (n + m) * 2 = n * 2 + m * 2 by omega]
      have hov1 := fun lb cb => hov lb cb w hg hv
      generalize (c1.take (i * 2) ++ ys ++ c1.drop (i * 2 + m * 2)).toArray = fin at hcp2 hfin
      have hw1 : (i : Int) + (m : Int) ≤ (n : Int) + (m : Int) := by omega
      have hw2 : ((i : Int) + (m : Int)).toNat = i + m := by omega
      have hw3 : ((n : Int) + (m : Int)).toNat = n + m := by omega
      have hw4 : ¬ ((cap : Int) < (n : Int) + (m : Int)) := by omega
      have hw5 : ¬ ((i : Int) = (n : Int)) := by omega
      have hw6 : ¬ (cap = i + m) := by omega
      have hw7 : ¬ (cap = i) := by omega
      have hw8 : (i : Int) ≤ (n : Int) + (m : Int) := by omega
      have hw9 : (0 : Int) ≤ (i : Int) + (m : Int) := by omega
      have hw10 : (n : Int) + (m : Int) ≤ (cap : Int) := by omega
      have hw11 : IntKind.i64.wrap ((i : Int) + (m : Int)) = (i : Int) + (m : Int) := by rw [IntKind.wrap_i64]; omega
      have HVB : Hid ((w.drew.setRow g c1.toArray).heap[vb]? = some (.cells ys.toArray 58 (0, 0))) := Lib.hid (by rw [show (w.drew.setRow g c1.toArray).heap[vb]? = w.heap[vb]? from by simp only [World.setRow, Array.getElem?_modify]; rw [if_neg (by omega)]; rfl]; exact hv)
      have HC1 := Lib.hid hcp1
      have HC2 := Lib.hid hcp2
      have HF := Lib.hid hfin
      have HG := Lib.hid hg
      clear hcp1 hcp2 hfin hov hc1 q1 q2 l1 hcl hsv hy1 hl h1 hg hv hcs htake hy
      go_enter Tryz.func42, Tryz.ntmps42
      go_wp2_with (simp only [hov1])
      go_region_law (refine step_copy_run (by rfl) _ _ 29 29 (by rfl) (.slice (some ⟨g, (i + m) * 2, none⟩) (n + m - (i + m)) (cap - (i + m))) (.slice (some ⟨g, i * 2, none⟩) (n + m - i) (cap - i)) (by simp [Act.eval, Act.put]) (by simp [Act.eval, Act.put]) (HC1.out _ _ w.drew HG.out) ?_)
      all_goals
       go_wp2_with fail
       rw [HC2.out _ _ (w.drew.setRow g c1.toArray) (setRow_at (w := w.drew) HG.out _) HVB.out]
       go_wp2_with fail
       go_ret
       obtain ⟨f1, f2⟩ := HF.out w.drew _ (grownBy_drew (World.grownBy.refl _ _)) (by simp) HG.out rfl
       exact ⟨_, rfl, f1, .inl rfl, f2⟩
    · have hgc : ∀ j u, (xs.take (i * 2))[j]? = some u → w.cell? ((⟨g, 0, none⟩ : Addr).add j) = some u := fun j u hj => by
        rw [add_lit, cell_of_row w g _ cur 58 (0, 0) hg, ← Array.getElem?_toList, Nat.zero_add]
        rw [← htake, List.take_take, List.getElem?_take] at hj
        split at hj
        · exact hj
        · cases hj
      obtain ⟨cap', cur', hap, hsz', hcap', hcm', hpre, _⟩ := run_append_zeros (P := Tryz.prog) (w := w) el_Secrets (u := 3) Tryz.underlying3 29 Tryz.zeroValue58 rfl (b := ⟨g, 0, none⟩) (sLen := i) (sCap := cap) (olds := xs.take (i * 2))
        (by rw [List.length_take, hl]; omega) hgc (k := n + m - i) (by omega) (by unfold maxLen; omega) (by omega) (by omega) (by omega)
      rw [show i + (n + m - i) = n + m by omega, show (((n + m - i : Nat)) : Int) = (n : Int) + (m : Int) - (i : Int) by omega] at hap
      rw [show i + (n + m - i) = n + m by omega] at hcap'
      unfold maxLen at hcm'
      have hcl : cur'.toList.length = cap' * 2 := by rw [Array.length_toList, hsz']
      obtain ⟨c1, hc1⟩ : ∃ c1, c1 = cur'.toList.take (i * 2) ++ ys ++ cur'.toList.drop (i * 2 + m * 2) := ⟨_, rfl⟩
      obtain ⟨q1, q2⟩ := ins_grow (A := i * 2) (B := m * 2) (N := n * 2) hl (by omega) hpre hy (by omega) hc1
      have l1 : c1.length = cur'.toList.length := by rw [hc1]; simp only [List.length_append, List.length_take, List.length_drop]; omega
      have hvl : vb < w.heap.size := heap_lt hv
      have hgl : g < w.heap.size := heap_lt hg
      have hcp2 : ∀ (ty : TypeId) (dc : Nat),
          (Builtin.copy_ #[29, 29] ty #[.slice (some ⟨w.heap.size, i * 2, none⟩) (n + m - i) dc, .slice (some ⟨vb, 0, none⟩) m m]).run Tryz.prog (w.drew.alloc (.cells cur' 58)) = .ok (goInt m) ((w.drew.alloc (.cells cur' 58)).setRow w.heap.size c1.toArray) := by
        intro ty dc
        have hmin : Nat.min m (n + m - i) = m := by simp only [Nat.min_def]; split <;> omega
        have hWv : (w.drew.alloc (.cells cur' 58)).heap[vb]? = some (.cells ys.toArray 58 (0, 0)) := heap_al (w := w.drew) _ hv
        have hW : (w.drew.alloc (.cells cur' 58)).heap[w.heap.size]? = some (.cells cur' 58 (0, 0)) := heap_new w.drew _
        have h := run_copy_k (P := Tryz.prog) (w := w.drew.alloc (.cells cur' 58)) el_Secrets ty 29 (dCap := dc) (o := i * 2) (dLen := n + m - i) hW
          (SlR.row (off := 0) (n := m) (xs := ys) (cap := m) hWv hy (by unfold maxLen; omega) (Nat.le_refl _) (fun j u hj => by rw [Nat.zero_add]; exact hj))
          (fun u hu => HY1.out u (List.mem_of_mem_take hu)) (by rw [hmin, hsz']; omega)
        rw [hmin, ← hy, List.take_length, hy, ← hc1] at h
        exact h
      generalize hW1 : (w.drew.alloc (.cells cur' 58)).setRow w.heap.size c1.toArray = W1 at hcp2
      have hW1h : W1.heap[w.heap.size]? = some (.cells c1.toArray 58 (0, 0)) := by rw [← hW1]; exact setRow_at (heap_new w.drew _) _
      have hW1g : W1.heap[g]? = some (.cells cur 58 (0, 0)) := by
        rw [← hW1]; simp only [World.setRow, Array.getElem?_modify]; rw [if_neg (by omega)]; exact heap_al (w := w.drew) _ hg
      have hcp1 : ∀ (ty : TypeId) (dc : Nat),
          (Builtin.copy_ #[29, 29] ty #[.slice (some ⟨w.heap.size, (i + m) * 2, none⟩) (n + m - (i + m)) dc, .slice (some ⟨g, i * 2, none⟩) (n - i) (cap - i)]).run Tryz.prog W1.drew = .ok (goInt ((n - i : Nat) : Int)) (W1.drew.setRow w.heap.size (c1.take (i * 2 + m * 2) ++ xs.drop (i * 2) ++ c1.drop (i * 2 + m * 2 + (n * 2 - i * 2))).toArray) := by
        intro ty dc
        have hmin : Nat.min (n - i) (n + m - (i + m)) = n - i := by simp only [Nat.min_def]; split <;> omega
        have hxl : (xs.drop (i * 2)).length = (n - i) * 2 := by rw [List.length_drop, hl]; omega
        have h := run_copy_k (P := Tryz.prog) (w := W1.drew) el_Secrets ty 29 (dCap := dc) (o := (i + m) * 2) (dLen := n + m - (i + m)) hW1h
          (SlR.row (off := i * 2) (n := n - i) (xs := xs.drop (i * 2)) (cap := cap - i) (w := W1.drew) hW1g hxl (by unfold maxLen; omega) (by omega) (fun j u hj => by
            rw [List.getElem?_drop, ← htake, List.getElem?_take] at hj; split at hj
            · exact hj
            · cases hj))
          (fun u hu => h1 u (List.mem_of_mem_drop (List.mem_of_mem_take hu))) (by rw [hmin, List.size_toArray, l1, hcl]; omega)
        rw [hmin, ← hxl, List.take_length, hxl] at h
        rw [h]
        simp only [List.toList_toArray]
        rw [show (i + m) * 2 = i * 2 + m * 2 by omega, show (n - i) * 2 = n * 2 - i * 2 by omega]
      have hfin : ∀ W' : World, W' = W1.drew.setRow w.heap.size (c1.take (i * 2 + m * 2) ++ xs.drop (i * 2) ++ c1.drop (i * 2 + m * 2 + (n * 2 - i * 2))).toArray →
          w.grownBy W' (some g) ∧ W'.ownsRow base 58 2 (.slice (some ⟨w.heap.size, 0, none⟩) (n + m) cap') (n + m) (xs.take (i * 2) ++ ys ++ xs.drop (i * 2)) := by
        rintro W' rfl
        refine ⟨⟨?_, ?_, ?_, ?_, fun k hk hne => ?_⟩, ?_, .inr ⟨w.heap.size, cap', _, rfl, hbase, setRow_at (w := W1.drew) hW1h _, by omega, by unfold maxLen; omega, ?_, ?_⟩⟩
        · rw [← hW1]; rfl
        · rw [← hW1]; rfl
        · rw [← hW1]; rfl
        · rw [size_setRow]; show w.heap.size ≤ W1.heap.size; rw [← hW1, size_setRow]; simp
        · simp only [World.setRow, Array.getElem?_modify]; rw [if_neg (by omega)]
          show W1.heap[k]? = _
          rw [← hW1]; simp only [World.setRow, Array.getElem?_modify]; rw [if_neg (by omega)]
          show (w.drew.alloc _).heap[k]? = _
          exact heap_alloc_old w.drew _ hk
        · simp only [List.length_append, List.length_take, List.length_drop, hl]; omega
        · rw [List.size_toArray, q1, hcl]
        · show List.take ((n + m) * 2) _ = _
          rw [← q2, show (n + m) * 2 = n * 2 + m * 2 by omega]
      generalize (c1.take (i * 2 + m * 2) ++ xs.drop (i * 2) ++ c1.drop (i * 2 + m * 2 + (n * 2 - i * 2))).toArray = fin at hcp1 hfin
      have hw1 : (i : Int) + (m : Int) ≤ (n : Int) + (m : Int) := by omega
      have hw2 : ((i : Int) + (m : Int)).toNat = i + m := by omega
      have hw4 : ((cap : Int) < (n : Int) + (m : Int)) := by omega
      have hw5 : ¬ ((i : Int) = (n : Int)) := by omega
      have hw6 : ¬ (cap' = i + m) := by omega
      have hw7 : ¬ (cap = i) := by omega
      have hw7' : ¬ (cap' = i) := by omega
      have hw8 : (i : Int) ≤ (n : Int) + (m : Int) := by omega
      have hw9 : (0 : Int) ≤ (i : Int) + (m : Int) := by omega
      have hw11 : IntKind.i64.wrap ((i : Int) + (m : Int)) = (i : Int) + (m : Int) := by rw [IntKind.wrap_i64]; omega
      have HC1 := Lib.hid hcp1
      have HC2 := Lib.hid hcp2
      have HAP := Lib.hid hap
      have HF := Lib.hid hfin
      clear hcp1 hcp2 hfin hc1 q1 q2 l1 hcl hsv hy1 hl h1 hg hv hcs htake hy hap hpre hsz' hW1 hW1h hW1g hgc
      go_enter Tryz.func42, Tryz.ntmps42
      go_wp2_with (at_builtin; refine wpList_append_run rfl _ _ 29 3 rfl _ _ rfl rfl HAP.out ?_)
      rw [show (w.alloc (.cells cur' 58)).drew = w.drew.alloc (.cells cur' 58) from rfl, HC2.out _ _]
      go_wp2_with fail
      go_region_law (refine step_copy_run (by rfl) _ _ 29 29 (by rfl) (.slice (some ⟨w.heap.size, (i + m) * 2, none⟩) (n + m - (i + m)) (cap' - (i + m))) (.slice (some ⟨g, i * 2, none⟩) (n - i) (cap - i)) (by simp [Act.eval, Act.put]) (by simp [Act.eval, Act.put]) (HC1.out _ _) ?_)
      all_goals
       go_wp2_with fail
       go_ret
       obtain ⟨f1, f2⟩ := HF.out _ rfl
       exact ⟨_, rfl, f1, .inr ⟨_, rfl, Nat.le_refl _⟩, f2⟩

end Go.Proofs.YtnkndplbcbehkaaGreatDoor
