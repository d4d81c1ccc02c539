/-
  The laws' argument, a list of what is asked for, laid open. SecretsOnce: it returns true, whatever the input; what it reads stays as it was.
-/
import Derived.Test.YtnkndplbcbehkaaGreatDoorB6
import Derived.ProofKit
import Derived.Deep.Slices
import Derived.Test.YtnkndplbcbehkaaGreatDoorB8
import Derived.Test.YtnkndplbcbehkaaGreatDoorLaid
import Derived.Test.YtnkndplbcbehkaaGreatDoorTie
import Derived.Test.YtnkndplbcbehkaaGreatDoorCards
import Derived.Lay
import Derived.MakeChecks
import Derived.SevenTiedAt
set_option linter.unusedVariables false
set_option linter.unusedSimpArgs false

/-! The laws' argument, a list of what is asked for, laid open. -/
namespace Go.Proofs.YtnkndplbcbehkaaGreatDoor
open Go.ChangeShapes Go.WideShapes Go.ChangeAt Go.RowKit Go.Cas

set_option maxRecDepth 100000
set_option maxHeartbeats 4000000

theorem cells_op : Tryz.prog.cellsOf 37 = 4 := by kernel_rfl

theorem laidB : laidOutB Tryz.prog = true := by kernel_rfl

theorem open_op {H : Type} {enc : TypeId × Value → H} {w : World} {base : Nat} {sp : Nat → Bool} {held : Bool} {fuel : Nat} {cs : List Value} {x : DataW H × List MemPlace} (h : DataW.trod enc Tryz.prog w base sp held fuel 37 cs = some x) :
    ∃ o : OpR, cs = [.int .i64 o.leaf, .int .i64 o.kind, .int .i64 o.gen, .bool o.next] ∧ -9223372036854775808 ≤ o.leaf ∧ o.leaf ≤ 9223372036854775807 ∧ -9223372036854775808 ≤ o.kind ∧ o.kind ≤ 9223372036854775807 ∧ -9223372036854775808 ≤ o.gen ∧ o.gen ≤ 9223372036854775807 := by
  obtain ⟨xs, n, _, hx, hl, hxs, hf⟩ := DataW.trod_struct Tryz.underlying37 h
  rw [cells_op] at hl
  match xs, hxs, cs, hl with
  | [y0, y1, y2, y3], _, [v0, v1, v2, v3], _ =>
    have c3 : Tryz.prog.cellsOf 3 = 1 := by kernel_rfl
    have c4 : Tryz.prog.cellsOf 4 = 1 := by kernel_rfl
    have g0 := hf 0 _ rfl
    have g1 := hf 1 _ rfl
    have g2 := hf 2 _ rfl
    have g3 := hf 3 _ rfl
    simp [c3, c4] at g0 g1 g2 g3
    obtain ⟨a, ha, _, wa⟩ := DataW.trod_int Tryz.underlying3 g0
    obtain ⟨b, hb, _, wb⟩ := DataW.trod_int Tryz.underlying3 g1
    obtain ⟨c, hc, _, wc⟩ := DataW.trod_int Tryz.underlying3 g2
    obtain ⟨d, hd, _⟩ := DataW.trod_bool Tryz.underlying4 g3
    simp only [List.cons.injEq, and_true] at ha hb hc hd
    subst ha hb hc hd
    simp [Lit.wf, IntKind.min, IntKind.max, IntKind.signed, IntKind.bits] at wa wb wc
    exact ⟨⟨a, b, c, d⟩, rfl, by simpa using by omega, by simpa using by omega, by simpa using by omega, by simpa using by omega, by simpa using by omega, by simpa using by omega⟩

/-- What is asked for, read. -/
theorem open_ops {H : Type} {enc : TypeId × Value → H} {w : World} {sp : Nat → Bool} {held : Bool} {v : Value} {d : DataW H} {ps : List MemPlace} (h : DataW.Trod enc Tryz.prog w 0 sp held 22 v d ps) (hv : ∃ a n c, v = .slice a n c) :
    ∃ l : List OpR, OpsAt w v l ∧ ∀ o ∈ l, -9223372036854775808 ≤ o.leaf ∧ o.leaf ≤ 9223372036854775807 ∧ -9223372036854775808 ≤ o.kind ∧ o.kind ≤ 9223372036854775807 ∧ -9223372036854775808 ≤ o.gen ∧ o.gen ≤ 9223372036854775807 := by
  obtain ⟨a0, n0, c0, rfl⟩ := hv
  obtain ⟨fuel, hf⟩ := h
  rcases Go.Deep.open_slice Tryz.underlying22 hf with ⟨hc, _⟩ | ⟨a, len, cap, m, n, D, Pl, hc, hb, hl, hm, hmm, _, hall⟩
  · simp [Value.cells] at hc
    obtain ⟨rfl, rfl, rfl⟩ := hc
    exact ⟨[], ⟨none, 0, rfl, Nat.le_refl _, Nat.zero_le _, fun h => absurd h (by simp)⟩, fun o ho => by cases ho⟩
  · simp [Value.cells] at hc
    obtain ⟨rfl, rfl, rfl⟩ := hc
    have hlm : n0 ≤ m := by rw [hmm]; split <;> omega
    have each : ∀ i, i < n0 → ∃ o : OpR, (∀ j u, [Value.int .i64 o.leaf, .int .i64 o.kind, .int .i64 o.gen, .bool o.next][j]? = some u → w.cell? (a.add (i * 4 + j)) = some u) ∧
        (-9223372036854775808 ≤ o.leaf ∧ o.leaf ≤ 9223372036854775807 ∧ -9223372036854775808 ≤ o.kind ∧ o.kind ≤ 9223372036854775807 ∧ -9223372036854775808 ≤ o.gen ∧ o.gen ≤ 9223372036854775807) := by
      intro i hi
      obtain ⟨cs', h1, h2⟩ := hall i (by omega)
      obtain ⟨o, rfl, hw⟩ := open_op h2
      rw [cells_op] at h1
      obtain ⟨_, _, hcell⟩ := World.cells?_some h1
      refine ⟨o, fun j u hj => ?_, hw⟩
      have hj4 : j < 4 := getElem?_lt hj
      rw [← Go.Deep.add_add, hcell j hj4, hj]
    obtain ⟨f, hf'⟩ := Go.Deep.choose_lt each
    have hget : ∀ (i : Nat) (x : OpR), ((List.range n0).map f)[i]? = some x → i < n0 ∧ x = f i := fun i x hx => by
      have := getElem?_lt hx
      simp at this
      simp [this] at hx
      exact ⟨this, hx.symm⟩
    refine ⟨(List.range n0).map f, ⟨some a, c0, by simp, by simpa using hl, by simp; omega, fun h0 => ?_⟩, fun o ho => ?_⟩
    · have h0' : 0 < n0 := by simpa using h0
      have hz := (hf' 0 h0').1 0 _ rfl
      have hsp : a = ⟨a.block, a.off, none⟩ := by
        cases hs : a.spot with
        | none => rw [← hs]
        | some s =>
          simp only [Nat.zero_mul, Nat.add_zero, Addr.add, if_true, World.cell?] at hz
          split at hz
          · simp [hs] at hz
          · cases hz
      refine ⟨a.block, a.off, by rw [← hsp], fun i x hx j u hj => ?_⟩
      obtain ⟨hi, rfl⟩ := hget i x hx
      have := (hf' i hi).1 j u hj
      rw [hsp, add_plain] at this
      exact this
    · obtain ⟨i, hi, rfl⟩ := List.mem_map.1 ho
      exact (hf' i (List.mem_range.1 hi)).2

end Go.Proofs.YtnkndplbcbehkaaGreatDoor

/-! SecretsOnce: it returns true, whatever the input; what it reads stays as it was. -/
namespace Go.Proofs.YtnkndplbcbehkaaGreatDoor
open Go.ChangeShapes Go.WideShapes Go.ChangeAt Go.RowKit Go.Cas

theorem ownT : ownKnob Tryz.prog.godebug = none := by kernel_rfl

set_option maxRecDepth 100000 in
theorem lOnce_lifted (os : Os) (started : os.Started) (H : Type) (enc : TypeId × Value → H) :
    ReturnsInHanded {} Tryz.checked os 3 .any (fun w args => (Rows.secretsOnceSpec.pre enc Tryz.prog Tryz.f3 [] false w args ∧ laidMetH Tryz.prog Rows.secretsOnceRow.laid w) ∧ sizedMet enc Tryz.prog Tryz.f3 (OpenSpec.ofChange Rows.secretsOnceSpec) false w args)
      (Rows.secretsOnceSpec.post enc Tryz.prog Tryz.f3 false true false false) := by
  refine returnsInHanded_of_change_and (C := Tryz.checked) (X := fun w _ => laidMetH Tryz.prog Rows.secretsOnceRow.laid w) (fun _ _ _ hh h => h.of_heap hh) ownT started (by kernel_rfl) Tryz.func3
    (ChangeSpec.witness_shaped (enc := enc) (C := Tryz.checked) (os := os) (X := fun w _ => laidMetH Tryz.prog Rows.secretsOnceRow.laid w) false (World.laidAll Tryz.prog os Rows.secretsOnceRow.laid) #[.int .i64 0, .slice none 0 0] 8 (World.laidAll_os _ _ _)
      (World.shaped_of_ZipB (by kernel_rfl) (by kernel_rfl)) (by kernel_rfl) (by kernel_rfl) (by kernel_rfl)
      (by rw [MakeChecks.laidMetH_plain _ _ _ (by kernel_rfl)]; exact laidMet_laidAll _ (by kernel_rfl) (by kernel_rfl))) ?_
  intro W base args ds gs before hval0 hW _ _ hL _
  have hval : ∀ (j : Nat) t v, Tryz.f3.params[j]? = some t → args[j]? = some v → Value.okWide Tryz.prog W .any base t v := hval0
  have hW' := hW
  obtain ⟨p, q, hA0, hV, rfl, _, _⟩ := hW
  have hA : DataW.TrodAll enc Tryz.prog W 0 (fun _ => true) true Tryz.f3.params.toList args.toList ds p := hA0
  rw [Tryz.params3] at hA hval
  obtain ⟨v0, v1, d0, d1, p0, p1, rfl, rfl, rfl, h0, h1⟩ := trodAll_two hA
  obtain ⟨rfl, rfl⟩ := trodVars_none hV
  obtain ⟨x0, rfl, rfl, rfl, w0⟩ := open_int Tryz.underlying3 (hval 0 3 v0 rfl rfl) h0
  obtain ⟨l, hl, hw⟩ := open_ops h1 (okWide_slice Tryz.underlying22 (hval 1 22 v1 rfl rfl))
  simp only [List.append_nil, List.nil_append] at hW'
  have hlt : ∀ x ∈ p1, x.block < W.heap.size := by
    obtain ⟨n, hn⟩ := h1
    exact DataW.trod_lt n 22 _ _ hn
  rw [MakeChecks.laidMetH_plain _ _ _ (by kernel_rfl)] at hL
  refine (sOnce_walk W x0 v1 l (env_of_laid hL) hl (fun o ho => (hw o ho).2.2.2.2.2)).mono fun e W' ⟨he, hb⟩ => ?_
  subst he
  exact ⟨_, rfl, _, _, _, [], p1, [], hW', trodAll_mk1 (shut_bool Tryz.underlying4 _), trodAll_mk2 (p := []) (shut_int Tryz.underlying3 w0) (Below.trod laidB (by kernel_rfl) (of_decide_eq_true (by kernel_rfl)) h1 hb hlt), rfl, hb.frame _, fun h => by cases h⟩

theorem secretsOnce_holds : Rows.SecretsOnceSaid :=
  OpenClaim.holds_of_wide 3 Tryz.f3 rfl rfl rfl rfl rfl rfl rfl ⟨rfl, rfl, rfl, rfl, rfl⟩ rfl rfl rfl rfl rfl (by kernel_rfl) Tryz.func3 (by kernel_rfl)
    (of_decide_eq_true (by kernel_rfl)) (by unfold Func.isWrapper; first | (rw [if_pos (by decide +kernel)]; kernel_rfl) | (rw [if_neg (by decide +kernel)]; exact ⟨rfl, rfl⟩))
    (fun os started H enc _ => lOnce_lifted os started H enc)

theorem secretsOnce_card : Rows.SecretsOnceCardSaid :=
  Claim7.holds_tied_plain_at .later [] [.data, .data, .data] true Rows.secretsOnceCard.stood.harness false secretsOnce_holds (fun _ h => by cases h) (by kernel_rfl) (fun _ h => by cases h) secretsOnce_row_tie rfl ⟨rfl, rfl⟩ (by kernel_rfl) rfl
    (fun f fn hf hfn => by
      obtain rfl : f = 3 := Option.some.inj ((show Tryz.prog.funcNamed "cassock/cassocklaw13.SecretsOnce" = some 3 by kernel_rfl).symm.trans hf) |>.symm
      obtain rfl : fn = Tryz.f3 := (Option.some.inj (Tryz.func3.symm.trans hfn)).symm
      exact ⟨by kernel_rfl, fun j t ht => by
        rw [Tryz.params3] at ht
        have hm : t ∈ [3, 22] := by simpa using Array.mem_of_getElem? ht
        have hall : ([3, 22].all fun u => !Tryz.prog.wantsStandIn u) = true := by kernel_rfl
        exact (show Tryz.prog.wantsStandIn t = false by simpa using List.all_eq_true.1 hall t hm)⟩)
    (by kernel_rfl)
#print axioms secretsOnce_card

end Go.Proofs.YtnkndplbcbehkaaGreatDoor
