/-
  secrets: key rings in memory; IndexFunc of chains and of keys. (Printed by wip/tools/genindex.py.)
-/
import Derived.Test.YtnkndplbcbehkaaGreatDoorSecA
import Derived.Lib.LazyBuf
import Derived.Lib.Hide
set_option linter.unusedVariables false
set_option linter.unusedSimpArgs false
namespace Go.Proofs.YtnkndplbcbehkaaGreatDoor
open Go.RowKit Go.Cas
set_option maxHeartbeats 400000
set_option maxRecDepth 20000

structure Sec where
  node : Int
  sk : Int
deriving DecidableEq, Inhabited
structure GK where
  gen : Int
  key : Int
  nonce : Int
deriving DecidableEq, Inhabited
structure Ch where
  leaf : Int
  kind : Int
  gen : Int
  secret : Int
  kept : List GK
deriving DecidableEq, Inhabited
structure Kr where
  leaves : Int
  nodes : List Sec
  chains : List Ch
deriving DecidableEq, Inhabited

def Sec.cs (x : Sec) : List Value := [.int .i64 x.node, .int .i64 x.sk]
def GK.cs (x : GK) : List Value := [.int .i64 x.gen, .int .i64 x.key, .int .i64 x.nonce]
def Ch.cs (x : Ch) (v : Value) : List Value := [.int .i64 x.leaf, .int .i64 x.kind, .int .i64 x.gen, .int .i64 x.secret, v]

instance : Rp Sec where
  sz := 2
  rep _ _ cs x := cs = x.cs
  len h := by subst h; rfl
  step h _ _ := h
  one h := by subst h; simp [Sec.cs, Value.oneCell']
instance : Rp GK where
  sz := 3
  rep _ _ cs x := cs = x.cs
  len h := by subst h; rfl
  step h _ _ := h
  one h := by subst h; simp [GK.cs, Value.oneCell']
instance : Rp Ch where
  sz := 5
  rep K w cs x := ∃ v, cs = x.cs v ∧ SlRep K w v x.kept
  len h := by obtain ⟨v, rfl, _⟩ := h; rfl
  step h hk hK := by obtain ⟨v, rfl, h⟩ := h; exact ⟨v, rfl, h.step hk hK⟩
  one h := by
    obtain ⟨v, rfl, h⟩ := h
    obtain ⟨a, c, rfl, _⟩ := h.form
    simp [Ch.cs, Value.oneCell']
instance : Rp Kr where
  sz := 3
  rep K w cs x := ∃ v u, cs = [.int .i64 x.leaves, v, u] ∧ SlRep K w v x.nodes ∧ SlRep K w u x.chains
  len h := by obtain ⟨v, u, rfl, _⟩ := h; rfl
  step h hk hK := by obtain ⟨v, u, rfl, h, h'⟩ := h; exact ⟨v, u, rfl, h.step hk hK, h'.step hk hK⟩
  one h := by
    obtain ⟨v, u, rfl, h, h'⟩ := h
    obtain ⟨a, c, rfl, _⟩ := h.form
    obtain ⟨a', c', rfl, _⟩ := h'.form
    simp [Value.oneCell']

theorem Reps.secs {K : Nat → Prop} {w : World} : ∀ {l : List Sec} {xs : List Value}, Reps K w xs l ↔ xs = l.flatMap Sec.cs
  | [], xs => by simp [Reps]
  | x :: l, xs => by
    simp only [Reps, List.flatMap_cons]
    constructor
    · rintro ⟨cs, rest, rfl, h, h'⟩
      rw [Reps.secs.1 h', show cs = x.cs from h]
    · rintro rfl
      exact ⟨x.cs, _, rfl, rfl, Reps.secs.2 rfl⟩
theorem Reps.gks {K : Nat → Prop} {w : World} : ∀ {l : List GK} {xs : List Value}, Reps K w xs l ↔ xs = l.flatMap GK.cs
  | [], xs => by simp [Reps]
  | x :: l, xs => by
    simp only [Reps, List.flatMap_cons]
    constructor
    · rintro ⟨cs, rest, rfl, h, h'⟩
      rw [Reps.gks.1 h', show cs = x.cs from h]
    · rintro rfl
      exact ⟨x.cs, _, rfl, rfl, Reps.gks.2 rfl⟩
theorem secs_len (l : List Sec) : (l.flatMap Sec.cs).length = l.length * 2 := by
  induction l with
  | nil => rfl
  | cons x l ih => rw [List.flatMap_cons, List.length_append, ih]; simp [Sec.cs]; omega
theorem gks_len (l : List GK) : (l.flatMap GK.cs).length = l.length * 3 := by
  induction l with
  | nil => rfl
  | cons x l ih => rw [List.flatMap_cons, List.length_append, ih]; simp [GK.cs]; omega


/-- A predicate that keeps what there is. -/
def PredCh (g : FuncId) (cap : Array Value) (q : Ch → Bool) (w : World) : Prop :=
  ∀ (x : Ch) (v : Value) (w' : World), Below w.heap.size w w' → Calls Tryz.prog g (#[.agg #[.int .i64 x.leaf, .int .i64 x.kind, .int .i64 x.gen, .int .i64 x.secret, v]] ++ cap) w' fun e w'' => e = .returned (.bool (q x)) ∧ Below w'.heap.size w' w''

set_option maxHeartbeats 1000000 in
theorem indexCh_any (g : FuncId) (cap : Array Value) (q : Ch → Bool) (K : Nat → Prop) (v : Value) (l : List Ch) (w : World) (hl : SlRep K w v l) (hq : PredCh g cap q w)
    (eg : ∀ args w, (callFunc g args).run Tryz.prog w = .ok (.enter g args) w) :
    Calls Tryz.prog 32 #[v, .func (.func g) #[] cap] w fun e w' => e = .returned (.int .i64 (findB q l)) ∧ Below w.heap.size w w' := by
  obtain ⟨a, c, rfl, hc, hm, ho⟩ := hl.open
  unfold maxLen at hm
  clear hl
  go_enter Tryz.func32, Tryz.ntmps32
  go_wp2
  go_loopw [8] (fun i wr => ∃ k : Nat, k ≤ l.length ∧ i = .int .i64 k ∧ Hid (∀ j y, j < k → l[j]? = some y → q y = false) ∧ Hid (Below w.heap.size w wr)) (fun i _ => l.length - (intOf i).toNat)
  case atStart => exact ⟨0, Nat.zero_le _, rfl, Lib.hid (fun j y hj => by omega), Lib.hid (Below.refl _ _)⟩
  case round =>
    obtain ⟨k, hk, rfl, H, HB⟩ := hrel
    by_cases hlt : k < l.length
    · obtain ⟨b, off, rfl, _, hbl, hi⟩ := ho (by omega)
      obtain ⟨x, hx⟩ : ∃ x, l[k]? = some x := ⟨_, List.getElem?_eq_getElem hlt⟩
      obtain ⟨cs, hcs, hi'⟩ := hi k x hx
      obtain ⟨v, rfl, _⟩ := hcs
      have hi2 := fun j u hj => cell_bl HB.out (hi' j u hj)
      have hc0 : wr.cell? ⟨b, off + k * 5, none⟩ = some _ := (by have := hi2 0 _ rfl; rw [← Nat.add_assoc] at this; exact this); have hc1 : wr.cell? ⟨b, off + k * 5 + 1, none⟩ = some _ := (by have := hi2 1 _ rfl; rw [← Nat.add_assoc] at this; exact this); have hc2 : wr.cell? ⟨b, off + k * 5 + 2, none⟩ = some _ := (by have := hi2 2 _ rfl; rw [← Nat.add_assoc] at this; exact this); have hc3 : wr.cell? ⟨b, off + k * 5 + 3, none⟩ = some _ := (by have := hi2 3 _ rfl; rw [← Nat.add_assoc] at this; exact this); have hc4 : wr.cell? ⟨b, off + k * 5 + 4, none⟩ = some _ := (by have := hi2 4 _ rfl; rw [← Nat.add_assoc] at this; exact this)
      clear hi ho hi' hi2
      have HX := Lib.hid hx
      clear hx
      have HC := Lib.hid (hq x v wr HB.out)
      clear hq
      cases hqx : q x with
      | true =>
        rw [hqx] at HC
        have HQ := Lib.hid hqx
        clear hqx
        go_wp2_with (go_at_fn g; refine HC.out.mono ?_; rintro e w' ⟨rfl, hb'⟩; have HB' := Lib.hid hb'; clear hb')
        go_ret
        exact ⟨ret_int (findB_hit H.out HX.out HQ.out).symm, HB.out.trans (HB'.out.mono HB.out.size)⟩
      | false =>
        rw [hqx] at HC
        have HQ := Lib.hid hqx
        clear hqx
        go_wp2_with (go_at_fn g; refine HC.out.mono ?_; rintro e w' ⟨rfl, hb'⟩; have HB' := Lib.hid hb'; clear hb')
        go_round
        case rel =>
          refine ⟨k + 1, by omega, by go_num, Lib.hid (fun j y hj hy => ?_), Lib.hid (HB.out.trans (HB'.out.mono HB.out.size))⟩
          by_cases e : j = k
          · subst e; rw [HX.out] at hy; cases hy; exact HQ.out
          · exact H.out j y (by omega) hy
        case measure => simp [intOf]; omega
    · go_wp2
      go_ret
      exact ⟨ret_int (findB_miss (fun j y hj => H.out j y (by omega))).symm, HB.out⟩

/-- A predicate that keeps what there is. -/
def PredGk (g : FuncId) (cap : Array Value) (q : GK → Bool) (w : World) : Prop :=
  ∀ (x : GK) (v : Value) (w' : World), Below w.heap.size w w' → Calls Tryz.prog g (#[.agg #[.int .i64 x.gen, .int .i64 x.key, .int .i64 x.nonce]] ++ cap) w' fun e w'' => e = .returned (.bool (q x)) ∧ Below w'.heap.size w' w''

set_option maxHeartbeats 1000000 in
theorem indexGk_any (g : FuncId) (cap : Array Value) (q : GK → Bool) (K : Nat → Prop) (v : Value) (l : List GK) (w : World) (hl : SlRep K w v l) (hq : PredGk g cap q w)
    (eg : ∀ args w, (callFunc g args).run Tryz.prog w = .ok (.enter g args) w) :
    Calls Tryz.prog 45 #[v, .func (.func g) #[] cap] w fun e w' => e = .returned (.int .i64 (findB q l)) ∧ Below w.heap.size w w' := by
  obtain ⟨a, c, rfl, hc, hm, ho⟩ := hl.open
  unfold maxLen at hm
  clear hl
  go_enter Tryz.func45, Tryz.ntmps45
  go_wp2
  go_loopw [8] (fun i wr => ∃ k : Nat, k ≤ l.length ∧ i = .int .i64 k ∧ Hid (∀ j y, j < k → l[j]? = some y → q y = false) ∧ Hid (Below w.heap.size w wr)) (fun i _ => l.length - (intOf i).toNat)
  case atStart => exact ⟨0, Nat.zero_le _, rfl, Lib.hid (fun j y hj => by omega), Lib.hid (Below.refl _ _)⟩
  case round =>
    obtain ⟨k, hk, rfl, H, HB⟩ := hrel
    by_cases hlt : k < l.length
    · obtain ⟨b, off, rfl, _, hbl, hi⟩ := ho (by omega)
      obtain ⟨x, hx⟩ : ∃ x, l[k]? = some x := ⟨_, List.getElem?_eq_getElem hlt⟩
      obtain ⟨cs, hcs, hi'⟩ := hi k x hx
      obtain rfl : cs = x.cs := hcs
      obtain ⟨v, hv⟩ : ∃ v : Value, v = .slice none 0 0 := ⟨_, rfl⟩
      have hi2 := fun j u hj => cell_bl HB.out (hi' j u hj)
      have hc0 : wr.cell? ⟨b, off + k * 3, none⟩ = some _ := (by have := hi2 0 _ rfl; rw [← Nat.add_assoc] at this; exact this); have hc1 : wr.cell? ⟨b, off + k * 3 + 1, none⟩ = some _ := (by have := hi2 1 _ rfl; rw [← Nat.add_assoc] at this; exact this); have hc2 : wr.cell? ⟨b, off + k * 3 + 2, none⟩ = some _ := (by have := hi2 2 _ rfl; rw [← Nat.add_assoc] at this; exact this)
      clear hi ho hi' hi2
      have HX := Lib.hid hx
      clear hx
      have HC := Lib.hid (hq x v wr HB.out)
      clear hq
      cases hqx : q x with
      | true =>
        rw [hqx] at HC
        have HQ := Lib.hid hqx
        clear hqx
        go_wp2_with (go_at_fn g; refine HC.out.mono ?_; rintro e w' ⟨rfl, hb'⟩; have HB' := Lib.hid hb'; clear hb')
        go_ret
        exact ⟨ret_int (findB_hit H.out HX.out HQ.out).symm, HB.out.trans (HB'.out.mono HB.out.size)⟩
      | false =>
        rw [hqx] at HC
        have HQ := Lib.hid hqx
        clear hqx
        go_wp2_with (go_at_fn g; refine HC.out.mono ?_; rintro e w' ⟨rfl, hb'⟩; have HB' := Lib.hid hb'; clear hb')
        go_round
        case rel =>
          refine ⟨k + 1, by omega, by go_num, Lib.hid (fun j y hj hy => ?_), Lib.hid (HB.out.trans (HB'.out.mono HB.out.size))⟩
          by_cases e : j = k
          · subst e; rw [HX.out] at hy; cases hy; exact HQ.out
          · exact H.out j y (by omega) hy
        case measure => simp [intOf]; omega
    · go_wp2
      go_ret
      exact ⟨ret_int (findB_miss (fun j y hj => H.out j y (by omega))).symm, HB.out⟩

end Go.Proofs.YtnkndplbcbehkaaGreatDoor
