/-
  What is said of memory in all walks: which blocks are kept, how slices and structs read, how an owned slice reads.
-/
import Derived.WalkKit
import Derived.Deep.QuietTactic
import Derived.BigQuiet
set_option linter.unusedVariables false
set_option linter.unusedSimpArgs false
namespace Go.Cas
open Go.RowKit

/-! ### Blocks that are kept -/

/-- The blocks of w of which K holds are in w' as they were. -/
structure Kp (K : Nat → Prop) (w w' : World) : Prop where
  os : w'.os = w.os
  tape : w'.tape = w.tape
  output : w'.output = w.output
  size : w.heap.size ≤ w'.heap.size
  block : ∀ k, k < w.heap.size → K k → w'.heap[k]? = w.heap[k]?

namespace Kp
variable {K K' : Nat → Prop} {w w' w'' : World}

theorem refl (K : Nat → Prop) (w : World) : Kp K w w := ⟨rfl, rfl, rfl, Nat.le_refl _, fun _ _ _ => rfl⟩

theorem trans (h : Kp K w w') (k : Kp K w' w'') : Kp K w w'' :=
  ⟨k.os.trans h.os, k.tape.trans h.tape, k.output.trans h.output, Nat.le_trans h.size k.size,
    fun i hi hk => (k.block i (Nat.lt_of_lt_of_le hi h.size) hk).trans (h.block i hi hk)⟩

theorem mono (h : Kp K w w') (hk : ∀ i, i < w.heap.size → K' i → K i) : Kp K' w w' :=
  ⟨h.os, h.tape, h.output, h.size, fun i hi hi' => h.block i hi (hk i hi hi')⟩

/-- The second step may be weaker: it need keep the blocks of w alone. -/
theorem trans' (h : Kp K w w') (k : Kp K' w' w'') (hk : ∀ i, i < w.heap.size → K i → K' i) : Kp K w w'' :=
  ⟨k.os.trans h.os, k.tape.trans h.tape, k.output.trans h.output, Nat.le_trans h.size k.size,
    fun i hi hi' => (k.block i (Nat.lt_of_lt_of_le hi h.size) (hk i hi hi')).trans (h.block i hi hi')⟩

theorem of_below {B : Nat} (h : Below B w w') (hk : ∀ i, i < w.heap.size → K i → i < B) : Kp K w w' :=
  ⟨h.os, h.tape, h.output, h.size, fun i hi hi' => h.block i (hk i hi hi')⟩

theorem of_all (h : Below w.heap.size w w') : Kp K w w' := of_below h fun _ hi _ => hi

theorem below (h : Kp (fun _ => True) w w') : Below w.heap.size w w' := ⟨h.os, h.tape, h.output, h.size, fun k hk => h.block k hk trivial⟩

theorem of_grown {row : Option Nat} (h : w.grownBy w' row) (hk : ∀ i, i < w.heap.size → K i → some i ≠ row) : Kp K w w' :=
  ⟨h.os, h.tape, h.output, h.size, fun i hi hi' => h.block i hi (hk i hi hi')⟩

theorem drew (h : Kp K w w') : Kp K w w'.drew := ⟨h.os, h.tape, h.output, h.size, h.block⟩

theorem drewN (h : Kp K w w') (n : Nat) : Kp K w (w'.drewN n) := ⟨h.os, h.tape, h.output, h.size, h.block⟩

theorem alloc (h : Kp K w w') (o : Obj) : Kp K w (w'.alloc o) :=
  h.trans ⟨rfl, rfl, rfl, by simp, fun k hk _ => Below.heap_alloc _ _ _ hk⟩

theorem setCell (h : Kp K w w') {p : Addr} (hp : p.block < w.heap.size → ¬ K p.block) (u : Value) : Kp K w (w'.setCell p u) :=
  h.trans' (K' := fun k => k ≠ p.block) ⟨rfl, rfl, rfl, by simp [World.setCell], fun _ _ hk' => Below.heap_setCell _ _ _ _ hk'⟩
    fun _ hi hk e => hp (e ▸ hi) (e ▸ hk)

theorem cell (h : Kp K w w') {b o : Nat} {v : Value} (hb : K b) (hc : w.cell? ⟨b, o, none⟩ = some v) : w'.cell? ⟨b, o, none⟩ = some v := by
  rw [← hc]
  exact World.cell?_of_block (w := w) (h.block b (World.block_lt_of_cell? w _ hc) hb)

theorem heap (h : Kp K w w') {b : Nat} {o : Obj} (hb : K b) (hc : w.heap[b]? = some o) : w'.heap[b]? = some o := by
  rw [← hc]
  exact h.block b (Array.getElem?_eq_some_iff.1 hc).1 hb
end Kp

/-- The mutable blocks go from F to F': all else stays; what is mutable in the end was so, or is new. -/
structure St (F : Nat → Prop) (w : World) (F' : Nat → Prop) (w' : World) : Prop where
  kp : Kp (fun k => ¬ F k) w w'
  new : ∀ b, F' b → F b ∨ w.heap.size ≤ b

namespace St
variable {F F' F'' : Nat → Prop} {w w' w'' : World}
theorem refl (F : Nat → Prop) (w : World) : St F w F w := ⟨Kp.refl _ _, fun _ h => .inl h⟩
theorem trans (h : St F w F' w') (k : St F' w' F'' w'') : St F w F'' w'' :=
  ⟨h.kp.trans' k.kp fun i hi hf hf' => (h.new i hf').elim hf (by omega),
   fun b hb => (k.new b hb).elim (fun h' => h.new b h') fun h' => .inr (Nat.le_trans h.kp.size h')⟩
theorem keep (h : Kp (fun k => ¬ F k) w w') : St F w F w' := ⟨h, fun _ h => .inl h⟩
theorem all (h : Below w.heap.size w w') : St F w F w' := keep (Kp.of_all h)
/-- A block that is not mutable before is not mutable behind. -/
theorem not (h : St F w F' w') {b : Nat} (hb : b < w.heap.size) (hf : ¬ F b) : ¬ F' b := fun h' => (h.new b h').elim hf (by omega)
theorem heap (h : St F w F' w') {b : Nat} {o : Obj} (hb : ¬ F b) (hc : w.heap[b]? = some o) : w'.heap[b]? = some o ∧ ¬ F' b :=
  ⟨h.kp.heap (K := fun k => ¬ F k) hb hc, h.not (Array.getElem?_eq_some_iff.1 hc).1 hb⟩
theorem size (h : St F w F' w') : w.heap.size ≤ w'.heap.size := h.kp.size
end St

/-! ### A row of cells somewhere in a block -/

def RowAt (w : World) (b off : Nat) (xs : List Value) : Prop :=
  ∃ cs T fr, w.heap[b]? = some (.cells cs T fr) ∧ ∀ i u, xs[i]? = some u → cs[off + i]? = some u

theorem RowAt.step {w w' : World} {b off : Nat} {xs : List Value} (h : RowAt w b off xs) (e : w'.heap[b]? = w.heap[b]?) : RowAt w' b off xs := by
  obtain ⟨cs, T, fr, h1, h2⟩ := h; exact ⟨cs, T, fr, e.trans h1, h2⟩

theorem RowAt.lt {w : World} {b off : Nat} {xs : List Value} (h : RowAt w b off xs) : b < w.heap.size := by
  obtain ⟨cs, T, fr, h1, _⟩ := h; exact (Array.getElem?_eq_some_iff.1 h1).1

theorem RowAt.cell {w : World} {b off : Nat} {xs : List Value} (h : RowAt w b off xs) {i : Nat} {u : Value} (hi : xs[i]? = some u) : w.cell? ⟨b, off + i, none⟩ = some u := by
  obtain ⟨cs, T, fr, h1, h2⟩ := h
  rw [cell_of_row w b _ cs T fr h1]; exact h2 i u hi

theorem RowAt.sub {w : World} {b off : Nat} {xs ys zs : List Value} (h : RowAt w b off (xs ++ ys ++ zs)) : RowAt w b (off + xs.length) ys := by
  obtain ⟨cs, T, fr, h1, h2⟩ := h
  refine ⟨cs, T, fr, h1, fun i u hi => ?_⟩
  rw [Nat.add_assoc]
  refine h2 _ u ?_
  have hlt : i < ys.length := by
    rcases Nat.lt_or_ge i ys.length with h | h
    · exact h
    · rw [List.getElem?_eq_none h] at hi; cases hi
  rw [List.getElem?_append_left (by simp; omega), List.getElem?_append_right (by omega)]
  simpa using hi

/-- The slice v, n elements of sz cells each, holds the cells xs. -/
def SlR (K : Nat → Prop) (w : World) (sz : Nat) (v : Value) (n : Nat) (xs : List Value) : Prop :=
  xs.length = n * sz ∧ n ≤ maxLen ∧ ((v = .slice none 0 0 ∧ n = 0) ∨ ∃ b off cap, v = .slice (some ⟨b, off, none⟩) n cap ∧ n ≤ cap ∧ K b ∧ RowAt w b off xs)

theorem SlR.step {K K' : Nat → Prop} {w w' : World} {sz : Nat} {v : Value} {n : Nat} {xs : List Value} (h : SlR K w sz v n xs)
    (hk : Kp K w w') (hK : ∀ b, b < w.heap.size → K b → K' b) : SlR K' w' sz v n xs := by
  obtain ⟨h1, hm, h2⟩ := h
  refine ⟨h1, hm, ?_⟩
  rcases h2 with h2 | ⟨b, off, cap, hv, hc, hb, hr⟩
  · exact .inl h2
  · exact .inr ⟨b, off, cap, hv, hc, hK b hr.lt hb, hr.step (hk.block b hr.lt hb)⟩

theorem SlR.nil (K : Nat → Prop) (w : World) (sz : Nat) : SlR K w sz (.slice none 0 0) 0 [] := ⟨by simp, Nat.zero_le _, .inl ⟨rfl, rfl⟩⟩

theorem SlR.of_own {K : Nat → Prop} {w : World} {base : Nat} {e : TypeId} {sz : Nat} {v : Value} {n : Nat} {xs : List Value} (h : w.ownsRow base e sz v n xs)
    (hk : ∀ b, v.ownBlock = some b → K b) : SlR K w sz v n xs := by
  obtain ⟨h1, h2⟩ := h
  rcases h2 with ⟨rfl, rfl⟩ | ⟨g, cap, cur, rfl, hb, hg, hn, hm, hs, ht⟩
  · exact ⟨h1, Nat.zero_le _, .inl ⟨rfl, rfl⟩⟩
  · refine ⟨h1, Nat.le_trans hn hm, .inr ⟨g, 0, cap, rfl, hn, hk g rfl, cur, e, _, hg, fun i u hi => ?_⟩⟩
    rw [Nat.zero_add, ← Array.getElem?_toList]
    rw [← ht, List.getElem?_take] at hi
    split at hi
    · exact hi
    · cases hi

/-! ### Typed readings -/

/-- How values of a Go type, told as α, lie in cells. -/
class Rp (α : Type) where
  sz : Nat
  rep : (Nat → Prop) → World → List Value → α → Prop
  len : ∀ {K w cs x}, rep K w cs x → cs.length = sz
  step : ∀ {K K' w w' cs x}, rep K w cs x → Kp K w w' → (∀ b, b < w.heap.size → K b → K' b) → rep K' w' cs x
  one : ∀ {K w cs x}, rep K w cs x → ∀ u ∈ cs, u.oneCell' = true

instance : Rp Int where
  sz := 1
  rep _ _ cs x := cs = [.int .i64 x]
  len h := by subst h; rfl
  step h _ _ := h
  one h := by subst h; simp [Value.oneCell']

instance : Rp Bool where
  sz := 1
  rep _ _ cs x := cs = [.bool x]
  len h := by subst h; rfl
  step h _ _ := h
  one h := by subst h; simp [Value.oneCell']

instance : Rp ByteArray where
  sz := 1
  rep _ _ cs x := cs = [.string x]
  len h := by subst h; rfl
  step h _ _ := h
  one h := by subst h; simp [Value.oneCell']

section
variable {α : Type} [Rp α]

/-- The cells of several, one behind the other. -/
def Reps (K : Nat → Prop) (w : World) : List Value → List α → Prop
  | xs, [] => xs = []
  | xs, x :: l => ∃ cs rest, xs = cs ++ rest ∧ Rp.rep K w cs x ∧ Reps K w rest l

theorem Reps.step {K K' : Nat → Prop} {w w' : World} (hk : Kp K w w') (hK : ∀ b, b < w.heap.size → K b → K' b) :
    ∀ {l : List α} {xs : List Value}, Reps K w xs l → Reps K' w' xs l
  | [], _, h => h
  | _ :: _, _, ⟨cs, rest, h1, h2, h3⟩ => ⟨cs, rest, h1, Rp.step h2 hk hK, Reps.step hk hK h3⟩

theorem Reps.len {K : Nat → Prop} {w : World} : ∀ {l : List α} {xs : List Value}, Reps K w xs l → xs.length = l.length * Rp.sz α
  | [], _, h => by cases h; simp
  | _ :: l, _, ⟨cs, rest, h1, h2, h3⟩ => by
    have := h3.len; have h4 := Rp.len h2; subst h1
    rw [List.length_append, h4, this, List.length_cons, Nat.succ_mul, Nat.add_comm]

theorem Reps.one {K : Nat → Prop} {w : World} : ∀ {l : List α} {xs : List Value}, Reps K w xs l → ∀ u ∈ xs, u.oneCell' = true
  | [], _, h => by cases h; simp
  | _ :: l, _, ⟨cs, rest, h1, h2, h3⟩ => by
    subst h1; intro u hu
    rcases List.mem_append.1 hu with h | h
    · exact Rp.one h2 u h
    · exact h3.one u h

theorem Reps.append {K : Nat → Prop} {w : World} {ys : List Value} {m : List α} (h' : Reps K w ys m) :
    ∀ {l : List α} {xs : List Value}, Reps K w xs l → Reps K w (xs ++ ys) (l ++ m)
  | [], _, h => by cases h; exact h'
  | _ :: _, _, ⟨cs, rest, h1, h2, h3⟩ => ⟨cs, rest ++ ys, by rw [h1, List.append_assoc], h2, Reps.append h' h3⟩

theorem Reps.single {K : Nat → Prop} {w : World} {cs : List Value} {x : α} (h : Rp.rep K w cs x) : Reps K w cs [x] := ⟨cs, [], by simp, h, rfl⟩

/-- Cut where the elements are cut. -/
theorem Reps.split {K : Nat → Prop} {w : World} : ∀ {l m : List α} {xs : List Value}, Reps K w xs (l ++ m) →
    ∃ ys zs, xs = ys ++ zs ∧ Reps K w ys l ∧ Reps K w zs m
  | [], _, xs, h => ⟨[], xs, by simp, rfl, h⟩
  | _ :: _, _, _, ⟨cs, rest, h1, h2, h3⟩ => by
    obtain ⟨ys, zs, h4, h5, h6⟩ := Reps.split h3
    exact ⟨cs ++ ys, zs, by rw [h1, h4, List.append_assoc], ⟨cs, ys, rfl, h2, h5⟩, h6⟩

theorem Reps.take {K : Nat → Prop} {w : World} {l : List α} {xs : List Value} (h : Reps K w xs l) (n : Nat) : Reps K w (xs.take (n * Rp.sz α)) (l.take n) := by
  have h0 := h
  rw [← List.take_append_drop n l] at h
  obtain ⟨ys, zs, rfl, h1, h2⟩ := h.split
  have h3 := h1.len
  have h4 := h2.len
  rcases Nat.le_total n l.length with hn | hn
  · rw [List.length_take, Nat.min_eq_left hn] at h3
    rw [← h3, List.take_left]; exact h1
  · rw [List.take_of_length_le hn] at h1 ⊢
    rw [List.take_of_length_le]
    · exact h0
    · rw [h0.len]; exact Nat.mul_le_mul_right _ hn

theorem Reps.drop {K : Nat → Prop} {w : World} {l : List α} {xs : List Value} (h : Reps K w xs l) (n : Nat) : Reps K w (xs.drop (n * Rp.sz α)) (l.drop n) := by
  have h0 := h
  rw [← List.take_append_drop n l] at h
  obtain ⟨ys, zs, rfl, h1, h2⟩ := h.split
  have h3 := h1.len
  have h4 := h2.len
  rcases Nat.le_total n l.length with hn | hn
  · rw [List.length_take, Nat.min_eq_left hn] at h3
    rw [← h3, List.drop_left]; exact h2
  · rw [List.drop_of_length_le hn]
    rw [List.drop_of_length_le]
    · exact rfl
    · rw [h0.len]; exact Nat.mul_le_mul_right _ hn

/-- The cells of one element. -/
theorem Reps.at {K : Nat → Prop} {w : World} {l : List α} {xs : List Value} (h : Reps K w xs l) {i : Nat} {x : α} (hi : l[i]? = some x) :
    ∃ cs, Rp.rep K w cs x ∧ ∀ j u, cs[j]? = some u → xs[i * Rp.sz α + j]? = some u := by
  induction l generalizing xs i with
  | nil => simp at hi
  | cons y l ih =>
    obtain ⟨cs, rest, h1, h2, h3⟩ := h
    have hl := Rp.len h2
    cases i with
    | zero =>
      simp at hi; subst hi; subst h1
      refine ⟨cs, h2, fun j u hj => ?_⟩
      have hlt : j < cs.length := by
        rcases Nat.lt_or_ge j cs.length with h | h
        · exact h
        · rw [List.getElem?_eq_none h] at hj; cases hj
      rw [Nat.zero_mul, Nat.zero_add, List.getElem?_append_left hlt]; exact hj
    | succ i =>
      simp at hi
      obtain ⟨cs', h4, h5⟩ := ih h3 hi
      refine ⟨cs', h4, fun j u hj => ?_⟩
      subst h1
      rw [List.getElem?_append_right (by rw [hl, Nat.succ_mul]; omega)]
      have := h5 j u hj
      rw [← this, hl, Nat.succ_mul]
      congr 1; omega

/-- A slice of them. -/
def SlRep (K : Nat → Prop) (w : World) (v : Value) (l : List α) : Prop := ∃ xs, SlR K w (Rp.sz α) v l.length xs ∧ Reps K w xs l

theorem SlRep.step {K K' : Nat → Prop} {w w' : World} {v : Value} {l : List α} (h : SlRep K w v l) (hk : Kp K w w') (hK : ∀ b, b < w.heap.size → K b → K' b) : SlRep K' w' v l := by
  obtain ⟨xs, h1, h2⟩ := h
  exact ⟨xs, h1.step hk hK, h2.step hk hK⟩

theorem SlRep.nil (K : Nat → Prop) (w : World) : SlRep K w (.slice none 0 0) ([] : List α) := ⟨[], SlR.nil K w _, rfl⟩

/-- What the value looks like. -/
theorem SlRep.form {K : Nat → Prop} {w : World} {v : Value} {l : List α} (h : SlRep K w v l) : ∃ a c, v = .slice a l.length c ∧ l.length ≤ c ∧ l.length ≤ maxLen := by
  obtain ⟨xs, ⟨h1, hm, h2⟩, _⟩ := h
  rcases h2 with ⟨rfl, h2⟩ | ⟨b, off, cap, rfl, hc, _⟩
  · exact ⟨none, 0, by rw [h2], by omega, hm⟩
  · exact ⟨_, cap, rfl, hc, hm⟩

/-- One element's cells, in memory. -/
theorem SlRep.at {K : Nat → Prop} {w : World} {v : Value} {l : List α} (h : SlRep K w v l) (h0 : 0 < l.length) :
    ∃ b off cap, v = .slice (some ⟨b, off, none⟩) l.length cap ∧ l.length ≤ cap ∧ K b ∧ b < w.heap.size ∧
      ∀ i x, l[i]? = some x → ∃ cs, Rp.rep K w cs x ∧ ∀ j u, cs[j]? = some u → w.cell? ⟨b, off + (i * Rp.sz α + j), none⟩ = some u := by
  obtain ⟨xs, ⟨h1, hm, h2⟩, h3⟩ := h
  rcases h2 with ⟨_, h2⟩ | ⟨b, off, cap, rfl, hc, hk, hr⟩
  · omega
  · refine ⟨b, off, cap, rfl, hc, hk, hr.lt, fun i x hi => ?_⟩
    obtain ⟨cs, h4, h5⟩ := h3.at hi
    exact ⟨cs, h4, fun j u hj => hr.cell (h5 j u hj)⟩

/-- A slice laid open. -/
theorem SlRep.open {K : Nat → Prop} {w : World} {v : Value} {l : List α} (h : SlRep K w v l) :
    ∃ a c, v = .slice a l.length c ∧ l.length ≤ c ∧ l.length ≤ maxLen ∧ (0 < l.length → ∃ b off, a = some ⟨b, off, none⟩ ∧ K b ∧ b < w.heap.size ∧
      ∀ i x, l[i]? = some x → ∃ cs, Rp.rep K w cs x ∧ ∀ j u, cs[j]? = some u → w.cell? ⟨b, off + (i * Rp.sz α + j), none⟩ = some u) := by
  obtain ⟨a, c, hv, hc, hm⟩ := h.form
  refine ⟨a, c, hv, hc, hm, fun h0 => ?_⟩
  obtain ⟨b, off, cap, hv', _, hk, hb, hi⟩ := h.at h0
  rw [hv] at hv'
  simp only [Value.slice.injEq] at hv'
  exact ⟨b, off, hv'.1, hk, hb, hi⟩

instance : Rp (List α) where
  sz := 1
  rep K w cs l := ∃ v, cs = [v] ∧ SlRep K w v l
  len h := by obtain ⟨v, rfl, _⟩ := h; rfl
  step h hk hK := by obtain ⟨v, rfl, h⟩ := h; exact ⟨v, rfl, h.step hk hK⟩
  one h := by
    obtain ⟨v, rfl, h⟩ := h
    obtain ⟨a, c, rfl, _⟩ := h.form
    simp [Value.oneCell']
end

/-- Whole numbers: a cell for each. -/
theorem SlRep.openInt {K : Nat → Prop} {w : World} {v : Value} {l : List Int} (h : SlRep K w v l) :
    ∃ a c, v = .slice a l.length c ∧ l.length ≤ c ∧ l.length ≤ maxLen ∧ (0 < l.length → ∃ b off, a = some ⟨b, off, none⟩ ∧ K b ∧ b < w.heap.size ∧
      ∀ i x, l[i]? = some x → w.cell? ⟨b, off + i, none⟩ = some (.int .i64 x)) := by
  obtain ⟨a, c, hv, hc, hm, ho⟩ := h.open
  refine ⟨a, c, hv, hc, hm, fun h0 => ?_⟩
  obtain ⟨b, off, ha, hk, hb, hi⟩ := ho h0
  refine ⟨b, off, ha, hk, hb, fun i x hx => ?_⟩
  obtain ⟨cs, hr, hcs⟩ := hi i x hx
  cases hr
  have := hcs 0 _ rfl
  simpa [Rp.sz] using this

theorem Reps.ints {K : Nat → Prop} {w : World} : ∀ {l : List Int} {xs : List Value}, Reps K w xs l → xs = l.map (Value.int .i64)
  | [], _, h => h
  | _ :: _, _, ⟨cs, rest, h1, h2, h3⟩ => by cases h2; rw [h1, h3.ints]; rfl

theorem SlRep.ints {K : Nat → Prop} {w : World} {v : Value} {l : List Int} (h : SlRep K w v l) : SlR K w 1 v l.length (l.map (Value.int .i64)) := by
  obtain ⟨xs, h1, h2⟩ := h
  rw [← h2.ints]; exact h1

theorem SlRep.of_ints {K : Nat → Prop} {w : World} {v : Value} {l : List Int} (h : SlR K w 1 v l.length (l.map (Value.int .i64))) : SlRep K w v l := by
  refine ⟨_, h, ?_⟩
  clear h
  induction l with
  | nil => rfl
  | cons x l ih => exact ⟨[.int .i64 x], _, rfl, rfl, ih⟩

theorem getElem?_lt {α : Type} {l : List α} {i : Nat} {x : α} (h : l[i]? = some x) : i < l.length := by
  rcases Nat.lt_or_ge i l.length with h' | h'
  · exact h'
  · rw [List.getElem?_eq_none h'] at h; cases h

/-! ### Facts carried over a step -/
theorem cell_al {w : World} {a : Addr} {v : Value} (o : Obj) (h : w.cell? a = some v) : (w.alloc o).cell? a = some v := by
  rw [World.cell?_alloc_lt w o a (World.block_lt_of_cell? w a h)]; exact h
theorem cell_new (w : World) {c : Array Value} (T : TypeId) {i : Nat} {v : Value} (h : c[i]? = some v) : (w.alloc (.cells c T)).cell? ⟨w.heap.size, i, none⟩ = some v := by
  rw [World.cell?_alloc_new]; exact h
theorem cell_bl {w w' : World} {a : Addr} {v : Value} (hb : Below w.heap.size w w') (h : w.cell? a = some v) : w'.cell? a = some v := by
  rw [hb.cell (World.block_lt_of_cell? w a h)]; exact h
theorem fz_al {w : World} {b o : Nat} (x : Obj) (hb : b < w.heap.size) (h : w.frozen? ⟨b, o, none⟩ = false) : (w.alloc x).frozen? ⟨b, o, none⟩ = false := by
  rw [World.frozen?_of_block (w := w) (a := ⟨b, o, none⟩) (Below.heap_alloc w x b hb)]; exact h
theorem heap_al {w : World} {b : Nat} {x : Obj} (o : Obj) (h : w.heap[b]? = some x) : (w.alloc o).heap[b]? = some x := by
  rw [Below.heap_alloc w o b (Array.getElem?_eq_some_iff.1 h).1]; exact h
theorem heap_new (w : World) (o : Obj) : (w.alloc o).heap[w.heap.size]? = some o := heap_alloc_new w o
theorem heap_bl {w w' : World} {b : Nat} {x : Obj} (hb : Below w.heap.size w w') (h : w.heap[b]? = some x) : w'.heap[b]? = some x := by
  rw [hb.block b (Array.getElem?_eq_some_iff.1 h).1]; exact h
theorem below_dN {B : Nat} {a w : World} (h : Below B a w) (n : Nat) : Below B a (w.drewN n) := ⟨h.os, h.tape, h.output, h.size, h.block⟩
theorem own_ne {w : World} {b : Nat} {e : TypeId} {sz : Nat} {v : Value} {n : Nat} {xs : List Value} (h : w.ownsRow b e sz v n xs) {k : Nat} {cs : Array Value} {T : TypeId} {fr : Nat × Nat}
    (hk : w.heap[k]? = some (.cells cs T fr)) (hT : T ≠ e) : some k ≠ v.ownBlock := by
  intro he
  rcases h.2 with ⟨rfl, _⟩ | ⟨g, cap, cur, rfl, _, hg, _⟩
  · cases he
  · simp [Value.ownBlock] at he
    subst he
    rw [hk] at hg
    cases hg; exact hT rfl
theorem own_apart {w : World} {b b' : Nat} {e e' : TypeId} {sz sz' : Nat} {v u : Value} {n m : Nat} {xs ys : List Value} (h : w.ownsRow b e sz v n xs) (k : w.ownsRow b' e' sz' u m ys) (he : e ≠ e') :
    u.ownBlock = none ∨ u.ownBlock ≠ v.ownBlock := by
  rcases k.2 with ⟨rfl, _⟩ | ⟨g, cap, cur, rfl, _, hg, _⟩
  · exact .inl rfl
  · exact .inr (own_ne h hg (Ne.symm he))
theorem own_block {w w' : World} {b : Nat} {e : TypeId} {sz : Nat} {v : Value} {n : Nat} {xs : List Value} (h : w.ownsRow b e sz v n xs) (hk : ∀ k, v.ownBlock = some k → w'.heap[k]? = w.heap[k]?) :
    w'.ownsRow b e sz v n xs := by
  refine ⟨h.1, ?_⟩
  rcases h.2 with hn | ⟨g, cap, cur, rfl, hb, hg, rest⟩
  · exact .inl hn
  · exact .inr ⟨g, cap, cur, rfl, hb, (hk g rfl).trans hg, rest⟩
theorem own_below {w w' : World} {b : Nat} {e : TypeId} {sz : Nat} {v : Value} {n : Nat} {xs : List Value} (h : w.ownsRow b e sz v n xs) (hk : Below w.heap.size w w') : w'.ownsRow b e sz v n xs :=
  own_block h fun k hv => hk.block k (h.lt k hv).2
theorem heap_grown {w w' : World} {row : Option Nat} (hg : w.grownBy w' row) {k : Nat} {o : Obj} (hk : w.heap[k]? = some o) (hne : some k ≠ row) : w'.heap[k]? = some o := by
  rw [hg.block k (Array.getElem?_eq_some_iff.1 hk).1 hne]; exact hk
theorem heap_lt {w : World} {b : Nat} {x : Obj} (h : w.heap[b]? = some x) : b < w.heap.size := (Array.getElem?_eq_some_iff.1 h).1

theorem ret_int {a b : Int} (h : a = b) : Ending.returned (.int .i64 a) = .returned (.int .i64 b) := by rw [h]
theorem ret_str {a b : ByteArray} (h : a = b) : Ending.returned (.string a) = .returned (.string b) := by rw [h]
theorem ret_bool {a b : Bool} (h : a = b) : Ending.returned (.bool a) = .returned (.bool b) := by rw [h]

end Go.Cas
