/-
  The library's slices functions at Secret: Clone, Delete, Insert, told by cells. (Printed by wip/tools/genslices.py.)
-/
import Derived.Test.YtnkndplbcbehkaaGreatDoorOps2
import Derived.Test.YtnkndplbcbehkaaGreatDoorMake
import Derived.Test.YtnkndplbcbehkaaGreatDoorRows
import Derived.WalkSpells
import Derived.Lib.LazyBuf
import Derived.Lib.Hide
import Derived.Lib.Overlaps
import Derived.Deep.RegionHeld3
set_option linter.unusedVariables false
set_option linter.unusedSimpArgs false
namespace Go.Proofs.YtnkndplbcbehkaaGreatDoor
open Go.RowKit Go.Cas
set_option maxHeartbeats 400000
set_option maxRecDepth 20000

theorem el_Secrets : ElemT Tryz.prog 29 58 2 16 := ElemT.mk' Tryz.underlying29 (by kernel_rfl) (by decide)

theorem cloneSecret_any (K : Nat → Prop) (v : Value) (n : Nat) (xs : List Value) (w : World) (hs : SlR K w 2 v n xs) (h1 : ∀ u ∈ xs, u.oneCell' = true) (hn : n ≤ 1000000) :
    Calls Tryz.prog 30 #[v] w fun e w' => ∃ v', e = .returned v' ∧ Below w.heap.size w w' ∧ w'.ownsRow w.heap.size 58 2 v' n xs ∧ (v' = .slice none 0 0 ↔ v = .slice none 0 0) := by
  have HS := Lib.hid hs
  have H1 := Lib.hid h1
  obtain ⟨hl, hm, hx⟩ := hs
  rcases hx with ⟨rfl, rfl⟩ | ⟨b, off, cap, rfl, hc, _, _⟩
  · have hq : ∀ w, (binOp .eql 29 (.slice none 0 0) (.slice none 0 0)).run Tryz.prog w = .ok (.bool true) w := fun w => by
      simpa using Lib.run_eql_slice_nil w 29 58 none 0 0 0 0 Tryz.underlying29
    have hnil : xs = [] := by rw [← List.length_eq_zero_iff, hl, Nat.zero_mul]
    subst hnil
    clear h1 hl hm
    go_enter Tryz.func30, Tryz.ntmps30
    go_wp2
    go_ret
    exact ⟨.slice none 0 0, rfl, Below.refl _ _, World.ownsRow_nil _ _ _ _, by simp⟩
  · have hq : ∀ w, (binOp .eql 29 (.slice (some ⟨b, off, none⟩) n cap) (.slice none 0 0)).run Tryz.prog w = .ok (.bool false) w := fun w => by
      simpa using Lib.run_eql_slice_nil w 29 58 (some ⟨b, off, none⟩) n cap 0 0 Tryz.underlying29
    clear h1 hl hm hc
    go_enter Tryz.func30, Tryz.ntmps30
    go_wp2_with (at_builtin; refine wpList_append_sl rfl _ _ 29 rfl el_Secrets w.heap.size (.slice (some ⟨w.heap.size, 0, none⟩) 0 0) 0 [] rfl (World.ownsRow_lit w #[] 0 (Nat.le_refl _) (by decide) rfl) (K := K) (.slice (some ⟨b, off, none⟩) n cap) n xs rfl (HS.out.step ((Kp.refl _ _).alloc _) (fun _ _ h => h)) H1.out (by omega) (by unfold maxLen; omega) (by simp) ?_; intro v2 w2 ho2 hg2 hn2 _)
    go_ret
    refine ⟨v2, rfl, ((Below.refl _ _).alloc (Nat.le_refl _) _).grown hg2 (by simp) (fun k hk => by simp [Value.ownBlock] at hk; omega), by simpa using ho2, ?_⟩
    simp at hn2 ⊢
    exact hn2

/-- What one element less leaves of the row. -/
theorem del_cells {xs : List Value} {cur : List Value} {n i sz : Nat} (hx : cur.take (n * sz) = xs) (hi : i < n) (hc : n * sz ≤ cur.length) :
    ((cur.take (i * sz) ++ (xs.drop ((i + 1) * sz))) ++ cur.drop (i * sz + (xs.drop ((i + 1) * sz)).length)).length = cur.length ∧
    ((cur.take (i * sz) ++ (xs.drop ((i + 1) * sz))) ++ cur.drop (i * sz + (xs.drop ((i + 1) * sz)).length)).take ((n - 1) * sz) = xs.take (i * sz) ++ xs.drop ((i + 1) * sz) := by
  have hxl : xs.length = n * sz := by rw [← hx, List.length_take]; omega
  have e1 : (i + 1) * sz = i * sz + sz := Nat.succ_mul i sz
  have e2 : n * sz = (n - 1) * sz + sz := by rw [← Nat.succ_mul]; congr 1; omega
  have e3 : i * sz ≤ (n - 1) * sz := Nat.mul_le_mul_right _ (by omega)
  have e4 : (xs.drop ((i + 1) * sz)).length = (n - 1) * sz - i * sz := by rw [List.length_drop, hxl]; omega
  have e5 : (cur.take (i * sz)).length = i * sz := by rw [List.length_take]; omega
  refine ⟨by simp only [List.length_append, e5, e4, List.length_drop]; omega, ?_⟩
  have e6 : (cur.take (i * sz) ++ xs.drop ((i + 1) * sz)).length = (n - 1) * sz := by rw [List.length_append, e5, e4]; omega
  rw [← e6, List.take_left]
  congr 1
  rw [← hx, List.take_take, Nat.min_eq_left (by omega)]

set_option maxHeartbeats 1000000 in
/-- 'slices.Delete' of one element of an owned slice. -/
theorem deleteSecret_any (base : Nat) (v : Value) (n : Nat) (xs : List Value) (i : Nat) (w : World) (ho : w.ownsRow base 58 2 v n xs) (h1 : ∀ u ∈ xs, u.oneCell' = true) (hi : i < n) (hn : n ≤ 1000000) :
    Calls Tryz.prog 35 #[v, .int .i64 i, .int .i64 (i + 1 : Nat)] w fun e w' => ∃ v', e = .returned v' ∧ w.grownBy w' v.ownBlock ∧ w'.heap.size = w.heap.size ∧ v'.ownBlock = v.ownBlock ∧
      w'.ownsRow base 58 2 v' (n - 1) (xs.take (i * 2) ++ xs.drop ((i + 1) * 2)) := by
  have HO := Lib.hid ho
  obtain ⟨hl, hx⟩ := ho
  rcases hx with ⟨_, h0⟩ | ⟨g, cap, cur, rfl, hb, hg, hnc, hcm, hcs, htake⟩
  · omega
  unfold maxLen at hcm
  obtain ⟨d, rfl⟩ : ∃ d, n = i + 1 + d := ⟨n - (i + 1), by omega⟩
  obtain ⟨d1, d2⟩ := del_cells htake hi (by rw [Array.length_toList, hcs]; exact Nat.mul_le_mul_right _ hnc)
  obtain ⟨i0, z0, hi0, _, hs0, _, _⟩ := el_Secrets.hi
  have hxl : (xs.drop ((i + 1) * 2)).length = d * i0.size := by rw [List.length_drop, hl, hs0, ← Nat.sub_mul]; congr 1; omega
  have happ : ∀ (ad : Addr) (c : Nat) (W : World), W.heap[g]? = some (.cells cur 58 (0, 0)) → (0 < d → ad = ⟨g, (i + 1) * 2, none⟩) →
      (Builtin.append_ #[29, 29] 29 #[.slice (some ⟨g, 0, none⟩) i cap, .slice (some ad) d c]).run Tryz.prog W =
        .ok (.slice (some ⟨g, 0, none⟩) (i + d) cap) (W.setRow g ((cur.toList.take (i * 2) ++ xs.drop ((i + 1) * 2)) ++ cur.toList.drop (i * 2 + (xs.drop ((i + 1) * 2)).length)).toArray) := by
    intro ad c W hW had
    have h := run_append_room (P := Tryz.prog) W 29 29 58 i0 Tryz.underlying29 hi0 g i cap cur hW ad d c (xs.drop ((i + 1) * 2)) hxl (fun j u hj => by
      have hlt := getElem?_lt hj
      rw [hxl] at hlt
      have hin : 0 < d := by
        rcases Nat.eq_zero_or_pos d with h | h
        · rw [h, Nat.zero_mul] at hlt; omega
        · exact h
      rw [had hin, add_lit, cell_of_row W g _ cur 58 (0, 0) hW, ← Array.getElem?_toList]
      rw [List.getElem?_drop, ← htake, List.getElem?_take] at hj
      split at hj
      · exact hj
      · cases hj) (fun u hu => h1 u (List.mem_of_mem_drop hu)) (by omega) (by rw [hxl, hs0, hcs, ← Nat.add_mul]; exact Nat.mul_le_mul_right _ (by omega))
    rw [hs0] at h
    exact h
  generalize hnew : ((cur.toList.take (i * 2) ++ xs.drop ((i + 1) * 2)) ++ cur.toList.drop (i * 2 + (xs.drop ((i + 1) * 2)).length)) = new at happ d1 d2
  -- behind the append the last element is struck
  have hclr : ∀ (c : Nat) (W : World), W.heap[g]? = some (.cells new.toArray 58 (0, 0)) →
      (Builtin.clear_ #[29] 0 #[.slice (some ⟨g, (i + d) * 2, none⟩) 1 c]).run Tryz.prog W =
        .ok (.tuple #[]) (W.setRow g (new.take ((i + d) * 2) ++ (Builtin.zeroCells #[.int .i64 0, .int .i64 0] 1).toList ++ new.drop ((i + d) * 2 + 1 * 2)).toArray) := by
    intro c W hW
    exact run_clear_k el_Secrets Tryz.zeroValue58 rfl (by simp [Value.cells, Value.oneCell']) 0 hW (by decide) (by simp only [List.size_toArray, d1, Array.length_toList, hcs, ← Nat.add_mul]; exact Nat.mul_le_mul_right _ (by omega))
  have hfin : ∀ W W' : World, w.grownBy W none → W.heap.size = w.heap.size → W.heap[g]? = some (.cells cur 58 (0, 0)) →
      W' = ((W.setRow g new.toArray).setRow g (new.take ((i + d) * 2) ++ (Builtin.zeroCells #[.int .i64 0, .int .i64 0] 1).toList ++ new.drop ((i + d) * 2 + 1 * 2)).toArray) →
      w.grownBy W' (some g) ∧ W'.heap.size = w.heap.size ∧ W'.ownsRow base 58 2 (.slice (some ⟨g, 0, none⟩) (i + d) cap) (i + d) (xs.take (i * 2) ++ xs.drop ((i + 1) * 2)) := by
    rintro W W' hW hsz hWg rfl
    have hsz2 : (i + d) * 2 + 1 * 2 ≤ cur.toList.length := by rw [Array.length_toList, hcs, ← Nat.add_mul]; exact Nat.mul_le_mul_right _ (by omega)
    have hd2 : new.take ((i + d) * 2) = xs.take (i * 2) ++ xs.drop ((i + 1) * 2) := by rw [← d2]; congr 2; omega
    have hlt : (new.take ((i + d) * 2)).length = (i + d) * 2 := by rw [List.length_take, d1]; omega
    refine ⟨⟨hW.os, hW.tape, hW.output, by simp [size_setRow, hsz], fun k hk hne => ?_⟩, by simp [size_setRow, hsz], ?_, .inr ⟨g, cap, _, rfl, hb, setRow_at (setRow_at hWg _) _, by omega, by unfold maxLen; omega, ?_, ?_⟩⟩
    · have hk' : k ≠ g := fun e => hne (by rw [e])
      rw [show ((W.setRow g new.toArray).setRow g _).heap[k]? = W.heap[k]? from by simp only [World.setRow, Array.getElem?_modify]; rw [if_neg (by omega), if_neg (by omega)]]
      exact hW.block k hk (by simp)
    · rw [← hd2, hlt]
    · simp only [List.size_toArray, List.length_append, hlt, List.length_drop, d1]
      have : (Builtin.zeroCells #[.int .i64 0, .int .i64 0] 1).toList.length = 1 * 2 := by simp [Builtin.zeroCells, Value.cells, Value.oneCell']
      rw [this, ← hcs, ← Array.length_toList]; omega
    · simp only [List.toList_toArray, List.append_assoc]
      exact (List.take_left' hlt).trans hd2
  generalize (new.take ((i + d) * 2) ++ (Builtin.zeroCells #[.int .i64 0, .int .i64 0] 1).toList ++ new.drop ((i + d) * 2 + 1 * 2)).toArray = fin at hclr hfin
  have hq1 : i + 1 + d - (i + d) = 1 := by omega
  have hd : (i == i + 1) = false := by simp
  have hle1 : (i : Int) ≤ (i : Int) + 1 := by omega
  have hle0 : (0 : Int) ≤ (i : Int) + 1 := by omega
  have hne0 : ((i : Int) + 1).toNat = i + 1 := by omega
  have HA := Lib.hid happ
  have HC := Lib.hid hclr
  have HF := Lib.hid hfin
  have HG := Lib.hid hg
  have HCS := Lib.hid hcs
  clear happ hclr hfin hg d1 d2 hcs htake hl hxl h1 hnew
  by_cases hcap : cap = i + 1
  · subst hcap
    obtain rfl : d = 0 := by omega
    go_enter Tryz.func35, Tryz.ntmps35
    go_wp2_with fail
    go_region_law (refine step_append_run (by rfl) _ _ 29 29 (by rfl) (.slice (some ⟨g, 0, none⟩) i (i + 1)) _ (by rfl) (by rfl) (HA.out _ _ w.drew HG.out (fun h => absurd h (by omega))) ?_)
    all_goals
      go_wp2_with fail
      have hW := setRow_at (w := w.drew) (g := g) HG.out new.toArray
      have hc1 := HC.out 1 _ hW
      have hf1 := HF.out w.drew _ (grownBy_drew (World.grownBy.refl _ _)) (by simp) HG.out rfl
      try simp only [Nat.add_zero] at hc1 hf1
      rw [hc1]
      go_wp2_with fail
      go_ret
      refine ⟨_, rfl, hf1.1, hf1.2.1, rfl, ?_⟩
      simpa using hf1.2.2
  · have hcl1 : (i : Int) + 1 ≤ (cap : Int) := by omega
    have hcl2 : (i : Int) ≤ (cap : Int) := by omega
    have hcl3 : (i : Int) + 1 ≤ (i : Int) + 1 + d := by omega
    have hcl4 : (i : Int) + 1 + d ≤ (cap : Int) := by omega
    go_enter Tryz.func35, Tryz.ntmps35
    go_wp2_with fail
    go_region_law (refine step_append_run (by rfl) _ _ 29 29 (by rfl) (.slice (some ⟨g, 0, none⟩) i cap) _ (by rfl) (by rfl) (HA.out _ _ w.drew HG.out (fun h => rfl)) ?_)
    all_goals
      go_wp2_with fail
      have hW := setRow_at (w := w.drew) (g := g) HG.out new.toArray
      have hc1 := HC.out (cap - (i + d)) _ hW
      have hf1 := HF.out w.drew _ (grownBy_drew (World.grownBy.refl _ _)) (by simp) HG.out rfl
      try simp only [Nat.add_zero] at hc1 hf1
      rw [hc1]
      go_wp2_with fail
      go_ret
      refine ⟨_, rfl, hf1.1, hf1.2.1, rfl, ?_⟩
      rw [show i + 1 + d - 1 = i + d by omega]; exact hf1.2.2

end Go.Proofs.YtnkndplbcbehkaaGreatDoor
