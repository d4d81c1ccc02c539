/-
  secrets: Key: what stands between its steps, its model.
-/
import Derived.Test.YtnkndplbcbehkaaGreatDoorSecI
import Derived.Test.YtnkndplbcbehkaaGreatDoorSecK
set_option linter.unusedVariables false
set_option linter.unusedSimpArgs false
namespace Go.Proofs.YtnkndplbcbehkaaGreatDoor
open Go.RowKit Go.Cas
set_option maxHeartbeats 400000
set_option maxRecDepth 20000

/-- What 'Key' tells behind 'begin'. -/
def keyE (b : Int × Kr × List Nd × Int) (leaf kind gen : Int) : GK × Kr × Int × List Nd :=
  if b.1 = 0 then
    (let t := takeR b.2.2.1 b.2.2.2 (b.2.1.chains.getD (findR b.2.1.chains leaf kind).toNat default) gen
     if t.2.1 = 0 then (t.1, ⟨b.2.1.leaves, b.2.1.nodes, b.2.1.chains.set (findR b.2.1.chains leaf kind).toNat t.2.2.1⟩, 0, t.2.2.2.1)
     else (⟨0, 0, 0⟩, ⟨0, [], []⟩, t.2.1, t.2.2.2.1))
  else (⟨0, 0, 0⟩, ⟨0, [], []⟩, b.1, b.2.2.1)

/-- What 'Key' tells: the key, the key ring, its error, the arena. -/
def keyR (L : List Nd) (r : Kr) (leaf kind gen : Int) : GK × Kr × Int × List Nd :=
  if leaf < 0 ∨ r.leaves ≤ leaf ∨ (kind ≠ 0 ∧ kind ≠ 1) ∨ gen < 0 then (⟨0, 0, 0⟩, ⟨0, [], []⟩, 1, L)
  else keyE (if findR r.chains leaf kind < 0 then beginR L 0 r leaf else (0, r, L, 0)) leaf kind gen

/-- The caller's own cells: they stay, and nothing that is told lies in them. -/
structure Nw (N : Nat → Prop) (w : World) (p : Nat) : Prop where
  typed : ∀ b, N b → ∃ cs T, w.heap[b]? = some (.cells cs T (0, 0)) ∧ T ≠ 82 ∧ T ≠ 54 ∧ T ≠ 61 ∧ T ≠ 58 ∧ T ≠ 71
  far : ∀ b, N b → ¬ ArB w p b

def KeyPost (N : Nat → Prop) (w : World) (p : Nat) (q : GK × Kr × Int × List Nd) : Ending → World → Prop := fun en w' => ∃ v u,
  en = .returned (.tuple #[.agg #[.int .i64 q.1.gen, .int .i64 q.1.key, .int .i64 q.1.nonce], .agg #[.int .i64 q.2.1.leaves, v, u], .int .i64 q.2.2.1]) ∧
  IsArG 82 nkey w' p (fun b => ArB w' p b ∨ N b) q.2.2.2 ∧ St (ArB w p) w (ArB w' p) w' ∧ SlRep (fun b => ¬ (ArB w' p b ∨ N b)) w' v q.2.1.nodes ∧ SlRep (fun b => ¬ (ArB w' p b ∨ N b)) w' u q.2.1.chains

/-- What is said of the arena: its own blocks are mutable, and some others. -/
theorem IsArG.shrink {T : TypeId} {key : Nd → List UInt8} {w : World} {p : Nat} {F N : Nat → Prop} {L : List Nd} (h : IsArG T key w p F L) (hN : ∀ b, N b → F b) : IsArG T key w p (fun b => ArB w p b ∨ N b) L := by
  have harB : ∀ b, ArB w p b → F b := fun b hb => h.arB hb
  obtain ⟨v, m, xs, h0, h1, h2, h3, h4, h5, h6, h7, h8⟩ := h
  exact ⟨v, m, xs, h0, h1, h2.step (Kp.refl _ _) (fun b _ hn hb => hn (hb.elim (harB b) (hN b))), h3, .inl (.inl rfl), .inl (.inr ⟨_, _, _, _, h0, .inl rfl⟩), fun b hb => .inl (.inr ⟨_, _, _, _, h0, .inr hb⟩), fun b hb => h7 b (hb.elim (harB b) (hN b)), h8⟩

/-- The first error, the results' cells. -/
structure Kx (N : Nat → Prop) (w : World) (p : Nat) (F : Nat → Prop) (W : World) (L : List Nd) : Prop where
  nw : Nw N w p
  ar : IsArG 82 nkey W p F L
  st : St (fun b => ArB w p b ∨ N b) w F W
  keep : Kp (fun b => ¬ ArB w p b) w W
  nf : ∀ b, N b → F b
  r1 : W.heap[w.heap.size + 1]? = some (.cells #[.int .i64 0, .int .i64 0, .int .i64 0] 39 (0, 0))
  r2 : W.heap[w.heap.size + 2]? = some (.cells #[.int .i64 0, .slice none 0 0, .slice none 0 0] 32 (0, 0))
  f1 : F (w.heap.size + 1)
  f2 : F (w.heap.size + 2)

theorem Kx.ntyped {N : Nat → Prop} {w : World} {p : Nat} {F : Nat → Prop} {W : World} {L : List Nd} (h : Kx N w p F W L) {b : Nat} (hb : N b) :
    ∃ cs T, W.heap[b]? = some (.cells cs T (0, 0)) ∧ T ≠ 82 ∧ T ≠ 54 ∧ T ≠ 61 ∧ T ≠ 58 ∧ T ≠ 71 := by
  obtain ⟨cs, T, h1, h2⟩ := h.nw.typed b hb
  exact ⟨cs, T, h.keep.heap (K := fun b => ¬ ArB w p b) (h.nw.far b hb) h1, h2⟩

theorem Kx.nlt {N : Nat → Prop} {w : World} {p : Nat} {F : Nat → Prop} {W : World} {L : List Nd} (h : Kx N w p F W L) {b : Nat} (hb : N b) : b < w.heap.size := by
  obtain ⟨cs, T, h1, _⟩ := h.nw.typed b hb
  exact heap_lt h1

/-- A step that keeps the caller's cells. -/
theorem Kx.next {N : Nat → Prop} {w : World} {p : Nat} {F F' : Nat → Prop} {W W' : World} {L L' : List Nd} (h : Kx N w p F W L) (ha : IsArG 82 nkey W' p F' L') (hst : St F W F' W') (hold : ∀ b, F b → F' b)
    (hN : ∀ b, N b → W'.heap[b]? = W.heap[b]?) (r1 : W'.heap[w.heap.size + 1]? = some (.cells #[.int .i64 0, .int .i64 0, .int .i64 0] 39 (0, 0)))
    (r2 : W'.heap[w.heap.size + 2]? = some (.cells #[.int .i64 0, .slice none 0 0, .slice none 0 0] 32 (0, 0))) : Kx N w p F' W' L' := by
  refine ⟨h.nw, ha, h.st.trans hst, ⟨hst.kp.os.trans h.keep.os, hst.kp.tape.trans h.keep.tape, hst.kp.output.trans h.keep.output, Nat.le_trans h.keep.size hst.kp.size, fun k hk hn => ?_⟩, fun b hb => hold b (h.nf b hb), r1, r2, hold _ h.f1, hold _ h.f2⟩
  rw [← h.keep.block k hk hn]
  by_cases hf : F k
  · rcases h.st.new k hf with (h' | h') | h'
    · exact absurd h' hn
    · exact hN k h'
    · omega
  · exact hst.kp.block k (Nat.lt_of_lt_of_le hk h.keep.size) hf

theorem Kx.bl {N : Nat → Prop} {w : World} {p : Nat} {F : Nat → Prop} {W W' : World} {L : List Nd} (h : Kx N w p F W L) (hb : Below W.heap.size W W') : Kx N w p F W' L :=
  h.next (h.ar.below hb) (St.all hb) (fun _ h => h) (fun b hb' => hb.block b (Nat.lt_of_lt_of_le (h.nlt hb') h.keep.size)) (heap_bl hb h.r1) (heap_bl hb h.r2)

/-- What the arena's own blocks come from. -/
theorem Kx.stA {N : Nat → Prop} {w : World} {p : Nat} {F : Nat → Prop} {W : World} {L : List Nd} (h : Kx N w p F W L) : St (ArB w p) w (ArB W p) W := by
  refine ⟨h.keep, fun b hb => ?_⟩
  rcases h.st.new b (h.ar.arB hb) with (h' | h') | h'
  · exact .inl h'
  · obtain ⟨cs, T, h1, h2, h3, _⟩ := h.ntyped h'
    exact absurd hb (h.ar.notB h1 h2 h3)
  · exact .inr h'

/-- The results are laid. -/
theorem Kx.fin {N : Nat → Prop} {w : World} {p : Nat} {F : Nat → Prop} {W : World} {L : List Nd} (h : Kx N w p F W L) (a b c x y z : Value) :
    ∃ W', W' = ((((((W.setCell ⟨w.heap.size + 1, 0, none⟩ a).setCell ⟨w.heap.size + 1, 1, none⟩ b).setCell ⟨w.heap.size + 1, 2, none⟩ c).setCell ⟨w.heap.size + 2, 0, none⟩ x).setCell ⟨w.heap.size + 2, 1, none⟩ y).setCell ⟨w.heap.size + 2, 2, none⟩ z) ∧
      IsArG 82 nkey W' p (fun b => ArB W' p b ∨ N b) L ∧ St (ArB w p) w (ArB W' p) W' ∧ ArB W' p = ArB W p ∧ Kp (fun k => k ≠ w.heap.size + 1 ∧ k ≠ w.heap.size + 2) W W' ∧
      W'.heap[w.heap.size + 1]? = some (.cells #[a, b, c] 39 (0, 0)) ∧ W'.heap[w.heap.size + 2]? = some (.cells #[x, y, z] 32 (0, 0)) := by
  refine ⟨_, rfl, ?_⟩
  have hk : Kp (fun k => k ≠ w.heap.size + 1 ∧ k ≠ w.heap.size + 2) W ((((((W.setCell ⟨w.heap.size + 1, 0, none⟩ a).setCell ⟨w.heap.size + 1, 1, none⟩ b).setCell ⟨w.heap.size + 1, 2, none⟩ c).setCell ⟨w.heap.size + 2, 0, none⟩ x).setCell ⟨w.heap.size + 2, 1, none⟩ y).setCell ⟨w.heap.size + 2, 2, none⟩ z) :=
    ((((((Kp.refl _ _).setCell (fun _ h => h.1 rfl) _).setCell (fun _ h => h.1 rfl) _).setCell (fun _ h => h.1 rfl) _).setCell (fun _ h => h.2 rfl) _).setCell (fun _ h => h.2 rfl) _).setCell (fun _ h => h.2 rfl) _
  have n1 := h.ar.notB h.r1 (by decide) (by decide)
  have n2 := h.ar.notB h.r2 (by decide) (by decide)
  have hne : ∀ k, ArB W p k → k ≠ w.heap.size + 1 ∧ k ≠ w.heap.size + 2 := fun k hk => ⟨fun e => n1 (e ▸ hk), fun e => n2 (e ▸ hk)⟩
  have hp : ((((((W.setCell ⟨w.heap.size + 1, 0, none⟩ a).setCell ⟨w.heap.size + 1, 1, none⟩ b).setCell ⟨w.heap.size + 1, 2, none⟩ c).setCell ⟨w.heap.size + 2, 0, none⟩ x).setCell ⟨w.heap.size + 2, 1, none⟩ y).setCell ⟨w.heap.size + 2, 2, none⟩ z).heap[p]? = W.heap[p]? := by
    obtain ⟨v, m, xs, h0, _⟩ := h.ar
    exact hk.block p (heap_lt h0) (hne p (.inl rfl))
  have har := h.ar.other (hk.mono fun i _ hi => ⟨fun e => ?_, fun e => ?_⟩)
  · refine ⟨har.shrink h.nf, ?_, arB_lt hp, hk, ?_, ?_⟩
    · rw [arB_lt hp]
      exact ⟨h.keep.trans' hk fun i hi _ => ⟨by omega, by omega⟩, h.stA.new⟩
    · rw [heap_set3 (by omega)]; exact same_set3 h.r1 _ _ _
    · exact same_set3 (by rw [heap_set3 (by omega)]; exact h.r2) _ _ _
  · exact hi.elim (fun h' => h' (e ▸ h.f1)) (fun h' => n1 (e ▸ h'))
  · exact hi.elim (fun h' => h' (e ▸ h.f2)) (fun h' => n2 (e ▸ h'))

/-- The beginning: the copy lies at a new block. -/
theorem key_start {N : Nat → Prop} {w w4 w5 : World} {p : Nat} {L : List Nd} {r : Kr} {v u : Value} {ks : List Value} (hN : Nw N w p) (hE : Env (fun b => ArB w p b ∨ N b) w) (ha : IsArG 82 nkey w p (fun b => ArB w p b ∨ N b) L) (hB : Below w.heap.size w w4)
    (r1 : w4.heap[w.heap.size + 1]? = some (.cells #[.int .i64 0, .int .i64 0, .int .i64 0] 39 (0, 0)))
    (r2 : w4.heap[w.heap.size + 2]? = some (.cells #[.int .i64 0, .slice none 0 0, .slice none 0 0] 32 (0, 0)))
    (rd : w4.heap[w.heap.size + 3]? = some (.cells #[.pointer (some ⟨p, 0, none⟩), .int .i64 0] 61 (0, 0))) (hC : Cp w4 w5 r v u ks) :
    ∃ F, Kx N w p F (w5.alloc (.cells #[.int .i64 r.leaves, v, u] 32)) L ∧ IsD (w.heap.size + 3) p F (w5.alloc (.cells #[.int .i64 r.leaves, v, u] 32)) L 0 ∧
      IsO w5.heap.size F (w5.alloc (.cells #[.int .i64 r.leaves, v, u] 32)) r v u ks ∧ (∀ k ∈ ks, ∀ b, k.ownBlock = some b → w.heap.size + 4 ≤ b) ∧ w.heap.size + 4 ≤ w5.heap.size := by
  have h5 := hC.below
  have hs4 := heap_lt rd
  have hB6 : Below w4.heap.size w4 (w5.alloc (.cells #[.int .i64 r.leaves, v, u] 32)) := h5.alloc h5.size _
  have hB7 : Below w.heap.size w (w5.alloc (.cells #[.int .i64 r.leaves, v, u] 32)) := hB.trans (hB6.mono hB.size)
  have hsz : (w5.alloc (.cells #[.int .i64 r.leaves, v, u] 32)).heap.size = w5.heap.size + 1 := World.alloc_size _ _
  have hs5 := h5.size
  have q1 := heap_bl hB6 r1
  have q2 := heap_bl hB6 r2
  have q3 := heap_bl hB6 rd
  have q4 := heap_new w5 (.cells #[.int .i64 r.leaves, v, u] 32)
  have own : ∀ {T : TypeId} {sz n : Nat} {x : Value} {xs : List Value}, w5.ownsRow w4.heap.size T sz x n xs → (w5.alloc (.cells #[.int .i64 r.leaves, v, u] 32)).ownsRow 0 T sz x n xs ∧ (∀ b, x.ownBlock = some b → w.heap.size + 4 ≤ b ∧ b < w5.heap.size) :=
    fun {T sz n x xs} hx => ⟨own_zero (hx.alloc _), fun b hb => by have := hx.lt b hb; omega⟩
  have hF : ∀ b, w.heap.size + 1 ≤ b → b ≤ w5.heap.size → (fun b => (ArB w p b ∨ N b) ∨ (w.heap.size ≤ b ∧ b < w5.heap.size + 1)) b := fun b h1 h2 => .inr ⟨by omega, by omega⟩
  have har : IsArG 82 nkey (w5.alloc (.cells #[.int .i64 r.leaves, v, u] 32)) p (fun b => (ArB w p b ∨ N b) ∨ (w.heap.size ≤ b ∧ b < w5.heap.size + 1)) L := ha.add hB7 (fun b hb => by rw [hsz]; exact hb)
  have hst : St (fun b => ArB w p b ∨ N b) w (fun b => (ArB w p b ∨ N b) ∨ (w.heap.size ≤ b ∧ b < w5.heap.size + 1)) (w5.alloc (.cells #[.int .i64 r.leaves, v, u] 32)) := ⟨Kp.of_all hB7, fun b hb => hb.imp id (·.1)⟩
  refine ⟨fun b => (ArB w p b ∨ N b) ∨ (w.heap.size ≤ b ∧ b < w5.heap.size + 1), ⟨hN, har, hst, Kp.of_all hB7, fun b hb => .inl (.inr hb), q1, q2, hF _ (by omega) (by omega), hF _ (by omega) (by omega)⟩,
    ⟨hE.step hst, har, q3, hF _ (by omega) (by omega), har.notB q3 (by decide) (by decide)⟩,
    ⟨q4, hF _ (by omega) (by omega), (own hC.nodes).1, fun b hb => hF _ (by have := (own hC.nodes).2 b hb; omega) (by have := (own hC.nodes).2 b hb; omega), (own hC.chains).1,
      fun b hb => hF _ (by have := (own hC.chains).2 b hb; omega) (by have := (own hC.chains).2 b hb; omega), hC.len, fun i c k hc hk => (own (hC.kept i c k hc hk)).1, fun k hk b hb => ?_, hC.apart⟩, fun k hk b hb => ?_, by omega⟩
  · obtain ⟨i, hi⟩ := List.mem_iff_getElem?.1 hk
    have hlt := getElem?_lt hi
    rw [hC.len] at hlt
    have := (own (hC.kept i _ k (List.getElem?_eq_getElem hlt) hi)).2 b hb
    exact hF _ (by omega) (by omega)
  · obtain ⟨i, hi⟩ := List.mem_iff_getElem?.1 hk
    have hlt := getElem?_lt hi
    rw [hC.len] at hlt
    exact ((own (hC.kept i _ k (List.getElem?_eq_getElem hlt) hi)).2 b hb).1

/-- Elements told one by one. -/
theorem Reps.of_at {α : Type} [Rp α] {K : Nat → Prop} {w : World} : ∀ {l : List α} {xs : List Value}, xs.length = l.length * Rp.sz α →
    (∀ (j : Nat) (x : α), l[j]? = some x → ∃ cs, Rp.rep K w cs x ∧ ∀ t u, cs[t]? = some u → xs[j * Rp.sz α + t]? = some u) → Reps K w xs l
  | [], xs, h, _ => by
    rw [List.length_nil, Nat.zero_mul, List.length_eq_zero_iff] at h
    exact h
  | x :: l, xs, h, ha => by
    obtain ⟨cs, h1, h2⟩ := ha 0 x rfl
    have hl := Rp.len h1
    rw [List.length_cons, Nat.succ_mul] at h
    have e : xs.take (Rp.sz α) = cs := by
      apply List.ext_getElem?
      intro t
      rw [List.getElem?_take]
      split
      · rename_i ht
        have := h2 t _ (List.getElem?_eq_getElem (by rw [hl]; exact ht))
        rw [Nat.zero_mul, Nat.zero_add] at this
        rw [this, ← List.getElem?_eq_getElem]
      · rw [List.getElem?_eq_none (by omega)]
    refine ⟨cs, xs.drop (Rp.sz α), by rw [← e, List.take_append_drop], h1, Reps.of_at (by rw [List.length_drop]; omega) fun j y hj => ?_⟩
    obtain ⟨cs', h3, h4⟩ := ha (j + 1) y (by simpa using hj)
    refine ⟨cs', h3, fun t u ht => ?_⟩
    rw [List.getElem?_drop, ← h4 t u ht]
    congr 1; rw [Nat.succ_mul]; omega

theorem SlR.own_sub {w : World} {T : TypeId} {sz : Nat} {v : Value} {n : Nat} {xs : List Value} (h : w.ownsRow 0 T sz v n xs) {K : Nat → Prop} (hk : ∀ b cs, v.ownBlock = some b → w.heap[b]? = some (.cells cs T (0, 0)) → K b) : SlR K w sz v n xs :=
  SlR.of_own h fun b hb => by
    obtain ⟨cu, hc⟩ := own_type h hb
    exact hk b cu hb hc

/-- Behind 'take'. -/
theorem key_take {N M : Nat → Prop} {w : World} {p : Nat} {F : Nat → Prop} {W : World} {L : List Nd} {e : Int} {d o : Nat} {r : Kr} {v u : Value} {ks : List Value} (hx : Kx N w p F W L) (hd : IsD d p F W L e) (ho : IsO o F W r v u ks)
    (hN : ∀ b, M b → (∃ cs T, W.heap[b]? = some (.cells cs T (0, 0)) ∧ T ≠ 58 ∧ T ≠ 71) ∧ ∀ k ∈ ks, k.ownBlock ≠ some b) (N1 : M (w.heap.size + 1)) (NM : ∀ b, N b → M b) {i : Nat} {c : Ch} {k : Value} (hc : r.chains[i]? = some c) (hk : ks[i]? = some k) {g cap : Nat} {cur : Array Value}
    (hu : u = .slice (some ⟨g, 0, none⟩) r.chains.length cap) (hcur : W.heap[g]? = some (.cells cur 71 (0, 0))) (hcap : r.chains.length ≤ cap) (hm : cap ≤ maxLen) (hsz : cur.size = cap * 5) (hpre : cur.toList.take (r.chains.length * 5) = chCells r.chains ks)
    {W' : World} {F' : Nat → Prop} {L' : List Nd} {e' : Int} {c' : Ch} {k' : Value} {cur' : Array Value} (hd' : IsD d p F' W' L' e') (hg : Dg (fun b => b = d ∨ b = g ∨ k.ownBlock = some b) p F W F' W')
    (hrow : W'.heap[g]? = some (.cells cur' 71 (0, 0))) (h3 : Row3 cur cur' (i * 5) c'.gen c'.secret k') (hkept : SlRep (fun b => ¬ ArB W' p b ∧ (k.ownBlock = some b ∨ W.heap.size ≤ b)) W' k' c'.kept) (hl : c'.leaf = c.leaf) (hkd : c'.kind = c.kind) :
    Kx N w p F' W' L' ∧ W'.heap[o]? = some (.cells #[.int .i64 r.leaves, v, u] 32 (0, 0)) ∧ SlRep (fun b => ¬ ArB W' p b ∧ ¬ M b) W' v r.nodes ∧
      SlRep (fun b => ¬ ArB W' p b ∧ ¬ M b) W' u (r.chains.set i c') := by
  have hkin : k ∈ ks := List.mem_of_getElem? hk
  have hin := getElem?_lt hc
  have hWs : w.heap.size + 3 ≤ W.heap.size := by have := heap_lt hx.r2; omega
  have keep : ∀ (b : Nat) (cs : Array Value) (T : TypeId), W.heap[b]? = some (.cells cs T (0, 0)) → T ≠ 82 → T ≠ 54 → T ≠ 61 → T ≠ 71 → k.ownBlock ≠ some b → W'.heap[b]? = some (.cells cs T (0, 0)) ∧ ¬ ArB W' p b := fun b cs T hb t1 t2 t3 t4 hn =>
    hg.heap hb (hd.ar.notB hb t1 t2) (fun hX => hX.elim (fun e => by rw [e, hd.at_] at hb; cases hb; exact t3 rfl) (fun hX => hX.elim (fun e => by rw [e, hcur] at hb; cases hb; exact t4 rfl) hn))
  have hk1 : k.ownBlock ≠ some (w.heap.size + 1) := (hN _ N1).2 k hkin
  have hkt : ∀ b cs T, T ≠ 39 → W.heap[b]? = some (.cells cs T (0, 0)) → k.ownBlock ≠ some b := fun b cs T hT hb e => by
    obtain ⟨cu, h'⟩ := own_type (ho.kept i c k hc hk) e
    rw [hb] at h'; cases h'; exact hT rfl
  have r1 := keep _ _ _ hx.r1 (by decide) (by decide) (by decide) (by decide) hk1
  have r2 := keep _ _ _ hx.r2 (by decide) (by decide) (by decide) (by decide) (hkt _ _ _ (by decide) hx.r2)
  have ro := keep _ _ _ ho.at_ (by decide) (by decide) (by decide) (by decide) (hkt _ _ _ (by decide) ho.at_)
  refine ⟨hx.next hd'.ar hg.st hg.old (fun b hb => ?_) r1.1 r2.1, ro.1, ⟨_, ?_, Reps.secs.2 rfl⟩, ?_⟩
  · obtain ⟨cs, T, h1, h2, h3, h4, _, h5⟩ := hx.ntyped hb
    rw [(keep b cs T h1 h2 h3 h4 h5 ((hN b (NM b hb)).2 k hkin)).1, h1]
  · refine SlR.step (K := fun b => ∃ cs, W.heap[b]? = some (.cells cs 58 (0, 0))) (SlR.own_sub ho.nodes fun b cs _ hb => ⟨cs, hb⟩) ?_ ?_
    · exact ⟨hg.st.kp.os, hg.st.kp.tape, hg.st.kp.output, hg.st.kp.size, fun b _ ⟨cs, hb⟩ => by rw [(keep b cs _ hb (by decide) (by decide) (by decide) (by decide) (hkt _ _ _ (by decide) hb)).1, hb]⟩
    · intro b _ ⟨cs, hb⟩
      exact ⟨(keep b cs _ hb (by decide) (by decide) (by decide) (by decide) (hkt _ _ _ (by decide) hb)).2, fun hn => by obtain ⟨⟨cs', T', h1, h2, _⟩, _⟩ := hN b hn; rw [hb] at h1; cases h1; exact h2 rfl⟩
  · have hgn : ¬ ArB W' p g ∧ ¬ M g := ⟨hd'.ar.notB hrow (by decide) (by decide), fun hn => by obtain ⟨⟨cs', T', h1, _, h2⟩, _⟩ := hN g hn; rw [hcur] at h1; cases h1; exact h2 rfl⟩
    have hlen : (cur'.toList.take (r.chains.length * 5)).length = r.chains.length * 5 := by
      rw [List.length_take, Array.length_toList, h3.size, hsz]
      have := Nat.mul_le_mul_right 5 hcap
      omega
    have hat : ∀ j, j < r.chains.length * 5 → (cur'.toList.take (r.chains.length * 5))[j]? = cur'[j]? := fun j hj => by rw [List.getElem?_take, if_pos hj, Array.getElem?_toList]
    have hold : ∀ j, j < r.chains.length * 5 → cur[j]? = (chCells r.chains ks)[j]? := fun j hj => by rw [← hpre, List.getElem?_take, if_pos hj, Array.getElem?_toList]
    refine ⟨cur'.toList.take (r.chains.length * 5), ⟨by rw [hlen, List.length_set]; rfl, ?_, .inr ⟨g, 0, cap, ?_, ?_, hgn, cur', _, _, hrow, fun j x hj => ?_⟩⟩, Reps.of_at (by rw [hlen, List.length_set]; rfl) fun j x hj => ?_⟩
    · rw [List.length_set]; exact Nat.le_trans hcap hm
    · rw [List.length_set]; exact hu
    · rw [List.length_set]; exact hcap
    · have hj' := getElem?_lt hj
      rw [hlen] at hj'
      rw [hat j hj'] at hj
      rw [Nat.zero_add]; exact hj
    · have hjl := getElem?_lt hj
      rw [List.length_set] at hjl
      rw [List.getElem?_set] at hj
      by_cases hij : i = j
      · subst hij
        rw [if_pos rfl, if_pos hjl] at hj
        cases hj
        refine ⟨c'.cs k', ⟨k', rfl, hkept.step (Kp.refl _ _) (fun b _ ⟨h1, h2⟩ => ⟨h1, ?_⟩)⟩, fun t y ht => ?_⟩
        · intro hn
          obtain ⟨⟨cs', T', h3, _⟩, h4⟩ := hN b hn
          rcases h2 with h2 | h2
          · exact h4 k hkin h2
          · have := heap_lt h3; omega
        · have ht5 : t < 5 := by have := getElem?_lt ht; simpa [Ch.cs] using this
          rw [show Rp.sz Ch = 5 from rfl, hat _ (by omega)]
          have hc5 := fun t y ht => chCells_at (l := r.chains) (ks := ks) hc hk t y ht
          match t, ht5 with
          | 0, _ =>
            rw [h3.same _ (by omega) (by omega) (by omega), hold _ (by omega)]
            have := hc5 0 _ rfl
            rw [this, ← hl]; exact ht
          | 1, _ =>
            rw [h3.same _ (by omega) (by omega) (by omega), hold _ (by omega)]
            have := hc5 1 _ rfl
            rw [this, ← hkd]; exact ht
          | 2, _ => rw [h3.c2]; exact ht
          | 3, _ => rw [h3.c3]; exact ht
          | 4, _ => rw [h3.c4]; exact ht
      · rw [if_neg hij] at hj
        obtain ⟨kj, hkj⟩ : ∃ kj, ks[j]? = some kj := ⟨_, List.getElem?_eq_getElem (by rw [ho.len]; exact hjl)⟩
        have hok := ho.kept j x kj hj hkj
        have hap := fun b h1 h2 => ho.apart i j k kj b hij hk hkj h1 h2
        refine ⟨x.cs kj, ⟨kj, rfl, _, SlR.step (K := fun b => kj.ownBlock = some b ∧ ∃ cs, W.heap[b]? = some (.cells cs 39 (0, 0))) (SlR.own_sub hok fun b cs h1 h2 => ⟨h1, cs, h2⟩) ⟨hg.st.kp.os, hg.st.kp.tape, hg.st.kp.output, hg.st.kp.size, fun b _ ⟨h1, cs, hb⟩ => ?_⟩ ?_, Reps.gks.2 rfl⟩, fun t y ht => ?_⟩
        · rw [(keep b cs _ hb (by decide) (by decide) (by decide) (by decide) (fun e => hap b e h1)).1, hb]
        · intro b _ ⟨h1, cs, hb⟩
          exact ⟨(keep b cs _ hb (by decide) (by decide) (by decide) (by decide) (fun e => hap b e h1)).2, fun hn => (hN b hn).2 kj (List.mem_of_getElem? hkj) h1⟩
        · have ht5 : t < 5 := by have := getElem?_lt ht; simpa [Ch.cs] using this
          rw [show Rp.sz Ch = 5 from rfl, hat _ (by omega), h3.same _ (by omega) (by omega) (by omega), hold _ (by omega)]
          exact chCells_at hj hkj t y ht

end Go.Proofs.YtnkndplbcbehkaaGreatDoor
