/-
  What stands between the steps of the laws; the laws' example runs.
-/
import Derived.Test.YtnkndplbcbehkaaGreatDoorLive
set_option linter.unusedVariables false
set_option linter.unusedSimpArgs false
namespace Go.Proofs.YtnkndplbcbehkaaGreatDoor
open Go.RowKit Go.Cas
set_option maxHeartbeats 4000000
set_option maxRecDepth 20000

/-- The law's arena, its own cells N; what was there when it began stays. -/
structure Ls (w0 : World) (N : Nat → Prop) (w : World) (p : Nat) (L : List Nd) : Prop where
  nw : Nw N w p
  env : Env (fun b => ArB w p b ∨ N b) w
  ar : IsArG 82 nkey w p (fun b => ArB w p b ∨ N b) L
  below : Below w0.heap.size w0 w
  fresh : ∀ b, ArB w p b ∨ N b → w0.heap.size ≤ b

/-- A key ring that is read. -/
def Ring (N : Nat → Prop) (w : World) (p : Nat) (r : Kr) (v u : Value) : Prop :=
  SlRep (fun b => ¬ (ArB w p b ∨ N b)) w v r.nodes ∧ SlRep (fun b => ¬ (ArB w p b ∨ N b)) w u r.chains

/-- What a step keeps. -/
structure Kl (N : Nat → Prop) (p : Nat) (w w' : World) : Prop where
  heap : ∀ b o, w.heap[b]? = some o → ¬ ArB w p b → ¬ N b → w'.heap[b]? = some o
  out : ∀ b o, w.heap[b]? = some o → ¬ ArB w p b → ¬ ArB w' p b
  base : w'.os = w.os ∧ w'.tape = w.tape ∧ w'.output = w.output ∧ w.heap.size ≤ w'.heap.size

theorem Ring.kl {N : Nat → Prop} {w w' : World} {p : Nat} {r : Kr} {v u : Value} (h : Ring N w p r v u) (k : Kl N p w w') : Ring N w' p r v u := by
  have hk : Kp (fun b => ¬ (ArB w p b ∨ N b)) w w' := ⟨k.base.1, k.base.2.1, k.base.2.2.1, k.base.2.2.2, fun b hb hn => by
    have h1 := Array.getElem?_eq_getElem hb
    rw [h1]; exact k.heap b _ h1 (fun h => hn (.inl h)) (fun h => hn (.inr h))⟩
  have hn : ∀ b, b < w.heap.size → ¬ (ArB w p b ∨ N b) → ¬ (ArB w' p b ∨ N b) := fun b hb hn h => by
    rcases h with h | h
    · exact k.out b _ (Array.getElem?_eq_getElem hb) (fun h => hn (.inl h)) h
    · exact hn (.inr h)
  exact ⟨h.1.step hk hn, h.2.step hk hn⟩

theorem Ls.bl {w0 : World} {N : Nat → Prop} {w w' : World} {p : Nat} {L : List Nd} (h : Ls w0 N w p L) (hb : Below w.heap.size w w') : Ls w0 N w' p L ∧ Kl N p w w' := by
  have hp : ArB w' p = ArB w p := by
    obtain ⟨v, m, xs, h0, _⟩ := h.ar
    exact arB_lt (hb.block p (heap_lt h0))
  refine ⟨⟨⟨fun b hb' => ?_, fun b hb' => by rw [hp]; exact h.nw.far b hb'⟩, ?_, ?_, h.below.trans (hb.mono h.below.size), fun b hb' => h.fresh b (by rwa [hp] at hb')⟩,
    ⟨fun b o ho _ _ => heap_bl hb ho, fun b o _ hn => by rw [hp]; exact hn, hb.os, hb.tape, hb.output, hb.size⟩⟩
  · obtain ⟨cs, T, h1, h2⟩ := h.nw.typed b hb'
    exact ⟨cs, T, heap_bl hb h1, h2⟩
  · rw [hp]; exact h.env.below hb
  · rw [hp]; exact h.ar.below hb

/-- One more cell of the law's own. -/
theorem Ls.more {w0 : World} {N : Nat → Prop} {w : World} {p : Nat} {L : List Nd} (h : Ls w0 N w p L) (cs : Array Value) {T : TypeId} (hT : T ≠ 82 ∧ T ≠ 54 ∧ T ≠ 61 ∧ T ≠ 58 ∧ T ≠ 71) :
    Ls w0 (fun b => N b ∨ b = w.heap.size) (w.alloc (.cells cs T)) p L ∧ Kl N p w (w.alloc (.cells cs T)) ∧ ∀ r v u, Ring N w p r v u → Ring (fun b => N b ∨ b = w.heap.size) (w.alloc (.cells cs T)) p r v u := by
  have hb : Below w.heap.size w (w.alloc (.cells cs T)) := (Below.refl _ _).alloc (Nat.le_refl _) _
  obtain ⟨h1, h2⟩ := h.bl hb
  have hp : ArB (w.alloc (.cells cs T)) p = ArB w p := by
    obtain ⟨v, m, xs, h0, _⟩ := h.ar
    exact arB_lt (hb.block p (heap_lt h0))
  have hlt : ∀ b, ArB w p b ∨ N b → b < w.heap.size := fun b hb => h.ar.lt hb
  have har := h.ar.add (X := fun b => b = w.heap.size) hb (fun b hb => by simp; omega)
  have e : (fun b => (ArB w p b ∨ N b) ∨ b = w.heap.size) = (fun b => ArB (w.alloc (.cells cs T)) p b ∨ N b ∨ b = w.heap.size) := by funext b; rw [hp, or_assoc]
  rw [e] at har
  refine ⟨⟨⟨fun b hb' => ?_, fun b hb' => ?_⟩, ?_, har, h1.below, fun b hb' => ?_⟩, h2, fun r v u hr => ?_⟩
  · rcases hb' with hb' | rfl
    · exact h1.nw.typed b hb'
    · exact ⟨_, _, heap_new w _, hT⟩
  · rcases hb' with hb' | rfl
    · exact h1.nw.far b hb'
    · rw [hp]; exact fun h' => by have := hlt _ (.inl h'); omega
  · rw [← e]; exact h.env.step ⟨Kp.of_all hb, fun b hb => hb.imp id (fun h => by omega)⟩
  · rw [hp, ← or_assoc] at hb'
    rcases hb' with hb' | hb'
    · exact h.fresh b hb'
    · rw [hb']; exact h.below.size
  · have hk : ∀ b, b < w.heap.size → ¬ (ArB w p b ∨ N b) → ¬ (ArB (w.alloc (.cells cs T)) p b ∨ N b ∨ b = w.heap.size) := fun b hl hn h' => by
      rw [hp, ← or_assoc] at h'
      exact h'.elim hn (fun h' => by omega)
    exact ⟨hr.1.step (Kp.of_all hb) hk, hr.2.step (Kp.of_all hb) hk⟩

/-- A store into one of the law's own cells. -/
theorem Ls.set {w0 : World} {N : Nat → Prop} {w : World} {p : Nat} {L : List Nd} (h : Ls w0 N w p L) {b : Nat} (hb : N b) (i : Nat) (x : Value) :
    Ls w0 N (w.setCell ⟨b, i, none⟩ x) p L ∧ Kl N p w (w.setCell ⟨b, i, none⟩ x) := by
  have hk : Kp (fun k => k ≠ b) w (w.setCell ⟨b, i, none⟩ x) := (Kp.refl _ _).setCell (fun _ h => h rfl) _
  have hnb := h.nw.far b hb
  have hp : ArB (w.setCell ⟨b, i, none⟩ x) p = ArB w p := by
    obtain ⟨v, m, xs, h0, _⟩ := h.ar
    exact arB_lt (hk.block p (heap_lt h0) (fun e => hnb (e ▸ .inl rfl)))
  have hkl : Kl N p w (w.setCell ⟨b, i, none⟩ x) := ⟨fun k o ho _ hn => hk.heap (K := fun k => k ≠ b) (fun e => hn (e ▸ hb)) ho, fun k o _ hn => by rw [hp]; exact hn, hk.os, hk.tape, hk.output, hk.size⟩
  refine ⟨⟨⟨fun k hk' => ?_, fun k hk' => by rw [hp]; exact h.nw.far k hk'⟩, ?_, ?_, ?_, fun k hk' => h.fresh k (by rwa [hp] at hk')⟩, hkl⟩
  · obtain ⟨cs, T, h1, h2⟩ := h.nw.typed k hk'
    by_cases e : k = b
    · subst e
      exact ⟨_, T, Lib.heap_setCell_same h1 x, h2⟩
    · exact ⟨cs, T, hk.heap (K := fun k => k ≠ b) e h1, h2⟩
  · rw [hp]; exact h.env.step ⟨hk.mono fun k _ hn e => hn (e ▸ .inr hb), fun _ h => .inl h⟩
  · rw [hp]; exact h.ar.other (hk.mono fun k _ hn e => hn.elim (fun h' => h' (e ▸ .inr hb)) (fun h' => hnb (e ▸ h')))
  · exact h.below.setCell (h.fresh b (.inr hb)) _

/-- 'Key', as the laws call it. -/
theorem key_ls {w0 : World} {N : Nat → Prop} {w : World} {p : Nat} {L : List Nd} {r : Kr} {v u : Value} {leaf kind gen : Int} {q : GK × Kr × Int × List Nd} {en : Ending} {w' : World} (h : Ls w0 N w p L)
    (hk : KeyPost N w p q en w') : ∃ v2 u2, en = .returned (.tuple #[.agg #[.int .i64 q.1.gen, .int .i64 q.1.key, .int .i64 q.1.nonce], .agg #[.int .i64 q.2.1.leaves, v2, u2], .int .i64 q.2.2.1]) ∧
      Ls w0 N w' p q.2.2.2 ∧ Ring N w' p q.2.1 v2 u2 ∧ Kl N p w w' ∧ (∀ b o, w.heap[b]? = some o → N b → w'.heap[b]? = some o) := by
  obtain ⟨v2, u2, he, h1, h2, h3, h4⟩ := hk
  have hkp : ∀ b o, w.heap[b]? = some o → ¬ ArB w p b → w'.heap[b]? = some o ∧ ¬ ArB w' p b := fun b o ho hn => h2.heap hn ho
  refine ⟨v2, u2, he, ⟨⟨fun b hb => ?_, fun b hb => ?_⟩, ?_, h1, ?_, fun b hb => ?_⟩, ⟨h3, h4⟩, ⟨fun b o ho hn _ => (hkp b o ho hn).1, fun b o ho hn => (hkp b o ho hn).2, h2.kp.os, h2.kp.tape, h2.kp.output, h2.kp.size⟩, fun b o ho hb => (hkp b o ho (h.nw.far b hb)).1⟩
  · obtain ⟨cs, T, h5, h6⟩ := h.nw.typed b hb
    exact ⟨cs, T, (hkp b _ h5 (h.nw.far b hb)).1, h6⟩
  · obtain ⟨cs, T, h5, h6⟩ := h.nw.typed b hb
    exact (hkp b _ h5 (h.nw.far b hb)).2
  · refine h.env.step ⟨h2.kp.mono fun k _ hn hk => hn (.inl hk), fun b hb => ?_⟩
    rcases hb with hb | hb
    · exact (h2.new b hb).imp .inl id
    · exact .inl (.inr hb)
  · refine ⟨h2.kp.os.trans h.below.os, h2.kp.tape.trans h.below.tape, h2.kp.output.trans h.below.output, Nat.le_trans h.below.size h2.kp.size, fun b hb => ?_⟩
    rw [h2.kp.block b (Nat.lt_of_lt_of_le hb h.below.size) (fun h' => by have := h.fresh b (.inl h'); omega)]
    exact h.below.block b hb
  · rcases hb with hb | hb
    · rcases h2.new b hb with h' | h'
      · exact h.fresh b (.inl h')
      · exact Nat.le_trans h.below.size h'
    · exact h.fresh b (.inr hb)

theorem Ls.keepc {w0 : World} {N : Nat → Prop} {w w' : World} {p : Nat} {L : List Nd} (h : Ls w0 N w p L) (k : Kl N p w w') {b : Nat} {cs : Array Value} {T : TypeId} {fr : Nat × Nat} (hb : w.heap[b]? = some (.cells cs T fr)) (h1 : T ≠ 82) (h2 : T ≠ 54) (hn : ¬ N b) :
    w'.heap[b]? = some (.cells cs T fr) := k.heap b _ hb (h.ar.notB hb h1 h2) hn

/-- The beginning of a law. -/
theorem ls_start {w w1 : World} {p : Nat} (hE : Env (fun _ => False) w) (hb : Below w.heap.size w w1) (ha : IsArG 82 nkey w1 p (ArB w1 p) (atoms 3)) (hf : ∀ b, ArB w1 p b → w.heap.size ≤ b) : Ls w (fun _ => False) w1 p (atoms 3) := by
  have e : (fun b => ArB w1 p b ∨ False) = ArB w1 p := by funext b; simp
  refine ⟨⟨fun _ h => h.elim, fun _ h => h.elim⟩, ?_, ?_, hb, fun b h => h.elim (hf b) (fun h => h.elim)⟩
  · rw [e]; exact hE.step ⟨Kp.of_all hb, fun b h => .inr (hf b h)⟩
  · rw [e]; exact ha

/-- The key ring that 'New' tells. -/
theorem ring_new {w0 : World} {N : Nat → Prop} {w w' : World} {p : Nat} {L : List Nd} (h : Ls w0 N w p L) (hb : Below w.heap.size w w') {lv : Int} {v : Value} (hv : SlRep (fun b => w.heap.size ≤ b) w' v [(⟨lv - 1, 0⟩ : Sec)]) : Ring N w' p (ring0 lv) v (.slice none 0 0) := by
  have hp : ArB w' p = ArB w p := by
    obtain ⟨v, m, xs, h0, _⟩ := h.ar
    exact arB_lt (hb.block p (heap_lt h0))
  refine ⟨hv.step (Kp.refl _ _) (fun b _ hb' hn => ?_), SlRep.nil _ _⟩
  rw [hp] at hn
  have := h.ar.lt hn
  exact absurd this (Nat.not_lt.2 hb')

/-- A call of 'Key' of the law's. -/
theorem key_law {w0 : World} {N : Nat → Prop} {w W : World} {p : Nat} {L : List Nd} {r : Kr} {v u : Value} (leaf kind gen : Int) (h : Ls w0 N w p L) (hr : Ring N w p r v u) (hg : Rg r) (hb : Below w.heap.size w W) (b4 : gen ≤ 9223372036854775807) :
    Calls Tryz.prog 7 #[.pointer (some ⟨p, 0, none⟩), .agg #[.int .i64 r.leaves, v, u], .int .i64 leaf, .int .i64 kind, .int .i64 gen] W fun en w' => ∃ v2 u2,
      en = .returned (.tuple #[.agg #[.int .i64 (keyR L r leaf kind gen).1.gen, .int .i64 (keyR L r leaf kind gen).1.key, .int .i64 (keyR L r leaf kind gen).1.nonce], .agg #[.int .i64 (keyR L r leaf kind gen).2.1.leaves, v2, u2], .int .i64 (keyR L r leaf kind gen).2.2.1]) ∧
      Ls w0 N w' p (keyR L r leaf kind gen).2.2.2 ∧ Ring N w' p (keyR L r leaf kind gen).2.1 v2 u2 ∧ Ls w0 N W p L ∧ Kl N p W w' ∧ (∀ b o, W.heap[b]? = some o → N b → w'.heap[b]? = some o) ∧ Ring N w' p r v u := by
  obtain ⟨h1, h2⟩ := h.bl hb
  have hr1 := hr.kl h2
  refine (sKey_any N p L W r v u leaf kind gen h1.nw h1.env h1.ar hr1.1 hr1.2 hg b4).mono ?_
  intro en w' hk
  obtain ⟨v2, u2, he, q1, q2, q3, q4⟩ := key_ls (r := r) (v := v) (u := u) (leaf := leaf) (kind := kind) (gen := gen) h1 hk
  exact ⟨v2, u2, he, q1, q2, h1, q3, q4, hr1.kl q3⟩

end Go.Proofs.YtnkndplbcbehkaaGreatDoor
