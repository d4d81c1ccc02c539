/-
  The laws' argument, a list of what is asked for, laid open.
-/
import Derived.Test.YtnkndplbcbehkaaDoorLawP
import Derived.ProofKit
import Derived.Deep.Slices
set_option linter.unusedVariables false
set_option linter.unusedSimpArgs false
namespace Go.Proofs.YtnkndplbcbehkaaDoor
open Go.ChangeShapes Go.WideShapes Go.ChangeAt Go.RowKit Go.Cas

set_option maxRecDepth 100000
set_option maxHeartbeats 4000000

theorem cells_op : Tryd.prog.cellsOf 38 = 4 := by kernel_rfl

theorem laidB : laidOutB Tryd.prog = true := by kernel_rfl

theorem open_op {H : Type} {enc : TypeId × Value → H} {w : World} {base : Nat} {sp : Nat → Bool} {held : Bool} {fuel : Nat} {cs : List Value} {x : DataW H × List MemPlace} (h : DataW.trod enc Tryd.prog w base sp held fuel 38 cs = some x) :
    ∃ o : OpR, cs = [.int .i64 o.leaf, .int .i64 o.kind, .int .i64 o.gen, .bool o.next] ∧ -9223372036854775808 ≤ o.leaf ∧ o.leaf ≤ 9223372036854775807 ∧ -9223372036854775808 ≤ o.kind ∧ o.kind ≤ 9223372036854775807 ∧ -9223372036854775808 ≤ o.gen ∧ o.gen ≤ 9223372036854775807 := by
  obtain ⟨xs, n, _, hx, hl, hxs, hf⟩ := DataW.trod_struct Tryd.underlying38 h
  rw [cells_op] at hl
  match xs, hxs, cs, hl with
  | [y0, y1, y2, y3], _, [v0, v1, v2, v3], _ =>
    have c3 : Tryd.prog.cellsOf 3 = 1 := by kernel_rfl
    have c4 : Tryd.prog.cellsOf 4 = 1 := by kernel_rfl
    have g0 := hf 0 _ rfl
    have g1 := hf 1 _ rfl
    have g2 := hf 2 _ rfl
    have g3 := hf 3 _ rfl
    simp [c3, c4] at g0 g1 g2 g3
    obtain ⟨a, ha, _, wa⟩ := DataW.trod_int Tryd.underlying3 g0
    obtain ⟨b, hb, _, wb⟩ := DataW.trod_int Tryd.underlying3 g1
    obtain ⟨c, hc, _, wc⟩ := DataW.trod_int Tryd.underlying3 g2
    obtain ⟨d, hd, _⟩ := DataW.trod_bool Tryd.underlying4 g3
    simp only [List.cons.injEq, and_true] at ha hb hc hd
    subst ha hb hc hd
    simp [Lit.wf, IntKind.min, IntKind.max, IntKind.signed, IntKind.bits] at wa wb wc
    exact ⟨⟨a, b, c, d⟩, rfl, by simpa using by omega, by simpa using by omega, by simpa using by omega, by simpa using by omega, by simpa using by omega, by simpa using by omega⟩

/-- What is asked for, read. -/
theorem open_ops {H : Type} {enc : TypeId × Value → H} {w : World} {sp : Nat → Bool} {held : Bool} {v : Value} {d : DataW H} {ps : List MemPlace} (h : DataW.Trod enc Tryd.prog w 0 sp held 22 v d ps) (hv : ∃ a n c, v = .slice a n c) :
    ∃ l : List OpR, OpsAt w v l ∧ ∀ o ∈ l, -9223372036854775808 ≤ o.leaf ∧ o.leaf ≤ 9223372036854775807 ∧ -9223372036854775808 ≤ o.kind ∧ o.kind ≤ 9223372036854775807 ∧ -9223372036854775808 ≤ o.gen ∧ o.gen ≤ 9223372036854775807 := by
  obtain ⟨a0, n0, c0, rfl⟩ := hv
  obtain ⟨fuel, hf⟩ := h
  rcases Go.Deep.open_slice Tryd.underlying22 hf with ⟨hc, _⟩ | ⟨a, len, cap, m, n, D, Pl, hc, hb, hl, hm, hmm, _, hall⟩
  · simp [Value.cells] at hc
    obtain ⟨rfl, rfl, rfl⟩ := hc
    exact ⟨[], ⟨none, 0, rfl, Nat.le_refl _, Nat.zero_le _, fun h => absurd h (by simp)⟩, fun o ho => by cases ho⟩
  · simp [Value.cells] at hc
    obtain ⟨rfl, rfl, rfl⟩ := hc
    have hlm : n0 ≤ m := by rw [hmm]; split <;> omega
    have each : ∀ i, i < n0 → ∃ o : OpR, (∀ j u, [Value.int .i64 o.leaf, .int .i64 o.kind, .int .i64 o.gen, .bool o.next][j]? = some u → w.cell? (a.add (i * 4 + j)) = some u) ∧
        (-9223372036854775808 ≤ o.leaf ∧ o.leaf ≤ 9223372036854775807 ∧ -9223372036854775808 ≤ o.kind ∧ o.kind ≤ 9223372036854775807 ∧ -9223372036854775808 ≤ o.gen ∧ o.gen ≤ 9223372036854775807) := by
      intro i hi
      obtain ⟨cs', h1, h2⟩ := hall i (by omega)
      obtain ⟨o, rfl, hw⟩ := open_op h2
      rw [cells_op] at h1
      obtain ⟨_, _, hcell⟩ := World.cells?_some h1
      refine ⟨o, fun j u hj => ?_, hw⟩
      have hj4 : j < 4 := getElem?_lt hj
      rw [← Go.Deep.add_add, hcell j hj4, hj]
    obtain ⟨f, hf'⟩ := Go.Deep.choose_lt each
    have hget : ∀ (i : Nat) (x : OpR), ((List.range n0).map f)[i]? = some x → i < n0 ∧ x = f i := fun i x hx => by
      have := getElem?_lt hx
      simp at this
      simp [this] at hx
      exact ⟨this, hx.symm⟩
    refine ⟨(List.range n0).map f, ⟨some a, c0, by simp, by simpa using hl, by simp; omega, fun h0 => ?_⟩, fun o ho => ?_⟩
    · have h0' : 0 < n0 := by simpa using h0
      have hz := (hf' 0 h0').1 0 _ rfl
      have hsp : a = ⟨a.block, a.off, none⟩ := by
        cases hs : a.spot with
        | none => rw [← hs]
        | some s =>
          simp only [Nat.zero_mul, Nat.add_zero, Addr.add, if_true, World.cell?] at hz
          split at hz
          · simp [hs] at hz
          · cases hz
      refine ⟨a.block, a.off, by rw [← hsp], fun i x hx j u hj => ?_⟩
      obtain ⟨hi, rfl⟩ := hget i x hx
      have := (hf' i hi).1 j u hj
      rw [hsp, add_plain] at this
      exact this
    · obtain ⟨i, hi, rfl⟩ := List.mem_map.1 ho
      exact (hf' i (List.mem_range.1 hi)).2

end Go.Proofs.YtnkndplbcbehkaaDoor
