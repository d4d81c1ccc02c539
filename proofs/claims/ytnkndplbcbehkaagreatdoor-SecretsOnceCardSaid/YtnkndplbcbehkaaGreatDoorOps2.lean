/-
  Laws at copy, clear and the append of zeros, elements of any size; blocks told whole.
-/
import Derived.Test.YtnkndplbcbehkaaGreatDoorOps
set_option linter.unusedVariables false
set_option linter.unusedSimpArgs false
namespace Go.Cas
open Go.RowKit

theorem Kp.setRow {K : Nat → Prop} {w w' : World} (h : Kp K w w') {g : Nat} (hg : g < w.heap.size → ¬ K g) (cs : Array Value) : Kp K w (w'.setRow g cs) :=
  h.trans' (K' := fun k => k ≠ g) ⟨rfl, rfl, rfl, by simp [World.setRow], fun k _ hk' => by
    simp only [World.setRow, Array.getElem?_modify]; rw [if_neg (by omega)]⟩ fun _ hi hk e => hg (e ▸ hi) (e ▸ hk)

theorem setRow_at {w : World} {g : Nat} {cur : Array Value} {t : TypeId} {fr : Nat × Nat} (hg : w.heap[g]? = some (.cells cur t fr)) (cs : Array Value) :
    (w.setRow g cs).heap[g]? = some (.cells cs t fr) := by
  simp [World.setRow, Array.getElem?_modify, hg]

theorem size_setRow (w : World) (g : Nat) (cs : Array Value) : (w.setRow g cs).heap.size = w.heap.size := by simp [World.setRow]

section
variable {P : Program} {w : World}

/-- 'copy' into a block that is known whole. -/
theorem run_copy_k {t e : TypeId} {size bytes : Nat} (T : ElemT P t e size bytes) (ty sT : TypeId) {g o dLen dCap : Nat} {cur : Array Value} {tg : TypeId} (hg : w.heap[g]? = some (.cells cur tg (0, 0)))
    {K : Nat → Prop} {xv : Value} {m : Nat} {news : List Value} (hr : SlR K w size xv m news) (h1 : ∀ u ∈ news.take (Nat.min m dLen * size), u.oneCell' = true) (hfit : o + (Nat.min m dLen) * size ≤ cur.size) :
    (Builtin.copy_ #[t, sT] ty #[.slice (some ⟨g, o, none⟩) dLen dCap, xv]).run P w =
      .ok (goInt (Nat.min m dLen)) (w.setRow g (cur.toList.take o ++ news.take (Nat.min m dLen * size) ++ cur.toList.drop (o + Nat.min m dLen * size)).toArray) := by
  obtain ⟨i, z, hi, _, hs, _, _⟩ := T.hi
  obtain ⟨hl, hm, hx⟩ := hr
  rcases hx with ⟨rfl, rfl⟩ | ⟨b, off, cap, rfl, hc, _, hrow⟩
  · simp only [Nat.zero_min, Nat.min, Nat.zero_mul, List.take_zero, List.append_nil, Nat.add_zero]
    have h0 : Nat.min 0 dLen = 0 := Nat.zero_min _
    have e : (w.setRow g (cur.toList.take o ++ cur.toList.drop o).toArray) = w := by
      rw [List.take_append_drop, Array.toArray_toList]; exact setRow_self w g cur tg (0, 0) hg
    simp [Builtin.copy_, run_underlying T.ht, Builtin.lenOf, Builtin.firstCells, sizeOf, typeInfo, hi, storeCells, setRow_self w g cur tg (0, 0) hg]
  · have hlen : (news.take (Nat.min m dLen * size)).length = Nat.min m dLen * size := by
      rw [List.length_take, hl]; exact Nat.min_eq_left (Nat.mul_le_mul_right _ (Nat.min_le_left _ _))
    have hld := run_loadCells_list (P := P) w ⟨b, off, none⟩ (news.take (Nat.min m dLen * size)) (fun j u hj => by
      rw [add_lit]; exact hrow.cell (by rw [List.getElem?_take] at hj; split at hj; exact hj; cases hj))
    rw [hlen] at hld
    have hst := run_storeCells_at P g o tg (news.take (Nat.min m dLen * size)) 0 cur w hg (by rw [hlen]; simpa using hfit) h1
    rw [hlen] at hst
    simp only [Nat.add_zero] at hst
    simp [Builtin.copy_, run_underlying T.ht, Builtin.lenOf, Builtin.firstCells, sizeOf, typeInfo, hi, hs, hld, hst]

/-- 'clear' of a part of a block that is known whole. -/
theorem run_clear_k {t e : TypeId} {size bytes : Nat} (T : ElemT P t e size bytes) {z : Value} (hz : ∀ w, (zeroValue e).run P w = .ok z w) (hzs : z.cells.size = size) (hz1 : ∀ u ∈ z.cells.toList, u.oneCell' = true) (ty : TypeId)
    {g o n c : Nat} {cur : Array Value} {tg : TypeId} (hg : w.heap[g]? = some (.cells cur tg (0, 0))) (hn : 0 < n) (hfit : o + n * size ≤ cur.size) :
    (Builtin.clear_ #[t] ty #[.slice (some ⟨g, o, none⟩) n c]).run P w =
      .ok (.tuple #[]) (w.setRow g (cur.toList.take o ++ (Builtin.zeroCells z.cells n).toList ++ cur.toList.drop (o + n * size)).toArray) := by
  obtain ⟨n, rfl⟩ : ∃ m, n = m + 1 := ⟨n - 1, by omega⟩
  have hlen : (Builtin.zeroCells z.cells (n + 1)).toList.length = (n + 1) * size := by simp [size_zeroCells, hzs]
  have hst := run_storeCells_at P g o tg (Builtin.zeroCells z.cells (n + 1)).toList 0 cur w hg (by rw [hlen]; simpa using hfit) (fun u hu => by
    simp only [Builtin.zeroCells, Array.toList_map, List.mem_map] at hu
    obtain ⟨i, hi, rfl⟩ := hu
    have hi' : i < (n + 1) * z.cells.size := by simpa using hi
    have hpos : 0 < z.cells.size := by
      rcases Nat.eq_zero_or_pos z.cells.size with h | h
      · rw [h] at hi'; simp at hi'
      · exact h
    have hlt : i % z.cells.size < z.cells.size := Nat.mod_lt _ hpos
    rw [getElem!_pos z.cells _ hlt]
    exact hz1 _ (Array.getElem_mem_toList hlt))
  rw [hlen] at hst
  simp only [Nat.add_zero] at hst
  simp [Builtin.clear_, run_underlying T.ht, hz, hst]
theorem wrap_small {k : Nat} (h : k ≤ 140737488355328) : IntKind.i64.wrap (k : Int) = (k : Int) := by
  simp [IntKind.wrap, IntKind.signed, IntKind.bits]; omega

theorem cells_nz {α : Type} [BEq α] (k : Nat) (h : 0 < k) : (k == 0) = false := by simp; omega

/-- 'append(s, make([]T, k)...)' that must grow: the old elements, and zeros behind them, in a new row. -/
theorem run_append_zeros {t u e : TypeId} {size bytes : Nat} (T : ElemT P t e size bytes) (hu : P.underlying u = some (.int .i64)) (ty : TypeId) {z : Value} (hzero : ∀ w, (zeroValue e).run P w = .ok z w) (hzs : z.cells.size = size)
    {b : Addr} {sLen sCap : Nat} {olds : List Value} (hlo : olds.length = sLen * size) (holds : ∀ j v, olds[j]? = some v → w.cell? (b.add j) = some v)
    {k : Nat} (hg : sCap < sLen + k) (h63 : sLen + k ≤ maxLen) (hb : (sLen + k) * bytes ≤ 140737488355328) (hk47 : k ≤ 140737488355328) (hkp : 0 < k) :
    ∃ cap cur, (Builtin.append_ #[t, u] ty #[.slice (some b) sLen sCap, .int .i64 k]).run P w = .ok (.slice (some ⟨w.heap.size, 0, none⟩) (sLen + k) cap) (w.drew.alloc (.cells cur e)) ∧
      cur.size = cap * size ∧ sLen + k ≤ cap ∧ cap ≤ maxLen ∧ cur.toList.take (sLen * size) = olds ∧ (∀ u ∈ cur.toList.drop (sLen * size), u ∈ z.cells) := by
  obtain ⟨i, z0, hi, hz, hs, hby, hzs0⟩ := T.hi
  subst hs; subst hby
  have hw := wrap_small hk47
  have hn : ¬ (sLen + k ≤ sCap) := by omega
  have h63' : ¬ (9223372036854775807 < ((sLen : Int) + (k : Int))) := by simp only [maxLen] at h63; omega
  have hfit : Builtin.nextslicecap (sLen + k) sCap * i.bytes ≤ 281474976710656 := growslice_fits (by omega) hb
  have h48' : ¬ (281474976710656 < Builtin.nextslicecap (sLen + k) sCap * i.bytes) := by omega
  have hkb : ¬ ((281474976710656 : Int) < (k : Int) * (i.bytes : Int)) := by
    have : k * i.bytes ≤ (sLen + k) * i.bytes := Nat.mul_le_mul_right _ (by omega)
    have h2 : ((k * i.bytes : Nat) : Int) = (k : Int) * (i.bytes : Int) := by simp
    omega
  have hfo := run_firstCells_some (P := P) w.drew i.size sLen b sLen sCap olds hlo (by simpa using holds)
  have hge := grownCap_ge w (sLen + k) sCap e
  have hcm : grownCap w (sLen + k) sCap e ≤ maxLen := grownCap_le_maxLen w (sLen + k) sCap e h63
  have hk0 : 0 < i.size := T.hsz
  have hzz : z0 = z := by
    have h := hzero w
    simp [zeroValue, typeInfo, hi, hz] at h
    exact h
  subst hzz
  have hk : ¬ k = 0 := by omega
  · have hks : ¬ (k * i.size = 0) := by
      intro h; rcases Nat.mul_eq_zero.1 h with h | h <;> omega
    refine ⟨grownCap w (sLen + k) sCap e, olds.toArray ++ (Builtin.zeroCells z0.cells k) ++ (Builtin.zeroCells z0.cells (grownCap w (sLen + k) sCap e - (sLen + k))), ?_, ?_, hge, hcm, ?_, ?_⟩
    · simp [Builtin.append_, run_underlying T.ht, run_underlying hu, sizeOf, typeInfo, zeroValue, hi, hz, Builtin.lenOf, hn, h63', h48', Question.forced, hfo, newRow, grownCap, hw, hkb, hks, hk, asInt, asIntOf]
      intro h; omega
    · simp [size_zeroCells, hzs, hlo, ← Nat.add_mul]; congr 1; omega
    · rw [Array.toList_append, Array.toList_append, List.append_assoc]
      simp only [List.toList_toArray]
      rw [← hlo, List.take_left]
    · intro u hu
      rw [Array.toList_append, Array.toList_append, List.append_assoc] at hu
      simp only [List.toList_toArray] at hu
      rw [← hlo, List.drop_left] at hu
      have hz : ∀ m, ∀ u ∈ (Builtin.zeroCells z0.cells m).toList, u ∈ z0.cells := by
        intro m u hu
        simp only [Builtin.zeroCells, Array.toList_map, List.mem_map] at hu
        obtain ⟨j, hj, rfl⟩ := hu
        have hpos : 0 < z0.cells.size := by omega
        rw [getElem!_pos z0.cells _ (Nat.mod_lt _ hpos)]
        exact Array.getElem_mem _
      rcases List.mem_append.1 hu with h | h
      · exact hz _ u h
      · exact hz _ u h
end

section
variable {P : Program} {w w' : World} {o : Oper} {a : Act} {ops : Array Oper} {rest : List Oper} {Q : Exit → Act → World → Prop} {k : Act → World → Prop} {E : Prop} {v : Value}

/-! ### A builtin whose run is known, at the operation -/
theorem wp_append_run (s x : Operand) (t u : TypeId) (ho : o.op = .call { callee := .builtin .append, args := #[s, x], argTypes := #[t, u] }) (sv xv : Value) (hs : a.eval s = sv) (hx : a.eval x = xv)
    (hrun : (Builtin.append_ #[t, u] o.type #[sv, xv]).run P w = .ok v w') (h : k (a.put o.dst v) w') : o.wp P a w k Q := by
  unfold Oper.wp execOp
  simp only [ho, resolve, invoke, builtin, Sem.run_bind, Sem.run_pure, Result.andThen_ok, List.map_toArray, List.map_cons, List.map_nil, hs, hx, hrun]
  exact h
theorem wp_copy_run (s x : Operand) (t u : TypeId) (ho : o.op = .call { callee := .builtin .copy, args := #[s, x], argTypes := #[t, u] }) (sv xv : Value) (hs : a.eval s = sv) (hx : a.eval x = xv)
    (hrun : (Builtin.copy_ #[t, u] o.type #[sv, xv]).run P w = .ok v w') (h : k (a.put o.dst v) w') : o.wp P a w k Q := by
  unfold Oper.wp execOp
  simp only [ho, resolve, invoke, builtin, Sem.run_bind, Sem.run_pure, Result.andThen_ok, List.map_toArray, List.map_cons, List.map_nil, hs, hx, hrun]
  exact h
theorem wp_clear_run (s : Operand) (t : TypeId) (ho : o.op = .call { callee := .builtin .clear, args := #[s], argTypes := #[t] }) (sv : Value) (hs : a.eval s = sv)
    (hrun : (Builtin.clear_ #[t] o.type #[sv]).run P w = .ok v w') (h : k (a.put o.dst v) w') : o.wp P a w k Q := by
  unfold Oper.wp execOp
  simp only [ho, resolve, invoke, builtin, Sem.run_bind, Sem.run_pure, Result.andThen_ok, List.map_toArray, List.map_cons, List.map_nil, hs, hrun]
  exact h
theorem wpList_append_run (hgd : o.guard = none) (s x : Operand) (t u : TypeId) (ho : o.op = .call { callee := .builtin .append, args := #[s, x], argTypes := #[t, u] }) (sv xv : Value) (hs : a.eval s = sv) (hx : a.eval x = xv)
    (hrun : (Builtin.append_ #[t, u] o.type #[sv, xv]).run P w = .ok v w') (h : wpList P ops Q rest (a.put o.dst v) w') : wpList P ops Q (o :: rest) a w :=
  wpList_plain hgd fun _ hK => wp_append_run s x t u ho sv xv hs hx hrun (hK _ _ h)
theorem wpList_copy_run (hgd : o.guard = none) (s x : Operand) (t u : TypeId) (ho : o.op = .call { callee := .builtin .copy, args := #[s, x], argTypes := #[t, u] }) (sv xv : Value) (hs : a.eval s = sv) (hx : a.eval x = xv)
    (hrun : (Builtin.copy_ #[t, u] o.type #[sv, xv]).run P w = .ok v w') (h : wpList P ops Q rest (a.put o.dst v) w') : wpList P ops Q (o :: rest) a w :=
  wpList_plain hgd fun _ hK => wp_copy_run s x t u ho sv xv hs hx hrun (hK _ _ h)
theorem wpList_clear_run (hgd : o.guard = none) (s : Operand) (t : TypeId) (ho : o.op = .call { callee := .builtin .clear, args := #[s], argTypes := #[t] }) (sv : Value) (hs : a.eval s = sv)
    (hrun : (Builtin.clear_ #[t] o.type #[sv]).run P w = .ok v w') (h : wpList P ops Q rest (a.put o.dst v) w') : wpList P ops Q (o :: rest) a w :=
  wpList_plain hgd fun _ hK => wp_clear_run s t ho sv hs hrun (hK _ _ h)
theorem step_append_run (hgd : o.guard = none) (s x : Operand) (t u : TypeId) (ho : o.op = .call { callee := .builtin .append, args := #[s, x], argTypes := #[t, u] }) (sv xv : Value) (hs : a.eval s = sv) (hx : a.eval x = xv)
    (hrun : (Builtin.append_ #[t, u] o.type #[sv, xv]).run P w = .ok v w') (h : k (a.put o.dst v) w') : if Region.wanted o (yielded ops a.tmps) = true then Oper.wp P o a w k Q else E := by
  rw [if_pos (by simp [Region.wanted, hgd])]; exact wp_append_run s x t u ho sv xv hs hx hrun h
theorem step_copy_run (hgd : o.guard = none) (s x : Operand) (t u : TypeId) (ho : o.op = .call { callee := .builtin .copy, args := #[s, x], argTypes := #[t, u] }) (sv xv : Value) (hs : a.eval s = sv) (hx : a.eval x = xv)
    (hrun : (Builtin.copy_ #[t, u] o.type #[sv, xv]).run P w = .ok v w') (h : k (a.put o.dst v) w') : if Region.wanted o (yielded ops a.tmps) = true then Oper.wp P o a w k Q else E := by
  rw [if_pos (by simp [Region.wanted, hgd])]; exact wp_copy_run s x t u ho sv xv hs hx hrun h
end
end Go.Cas
