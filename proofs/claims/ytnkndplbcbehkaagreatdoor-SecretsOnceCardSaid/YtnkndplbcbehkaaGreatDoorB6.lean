/-
  Between the laws' steps: more. What the laws of layer 13 are asked: in memory. Between the steps of the laws of layer 13: one cell more.
-/
import Derived.Test.YtnkndplbcbehkaaGreatDoorLawL
import Derived.Test.YtnkndplbcbehkaaGreatDoorBd
set_option linter.unusedVariables false
set_option linter.unusedSimpArgs false

/-! Between the laws' steps: more. -/
namespace Go.Proofs.YtnkndplbcbehkaaGreatDoor
open Go.RowKit Go.Cas
set_option maxHeartbeats 16000000
set_option maxRecDepth 20000

theorem Kl.trans {N : Nat → Prop} {p : Nat} {w w' w'' : World} (h : Kl N p w w') (k : Kl N p w' w'') : Kl N p w w'' :=
  ⟨fun b o ho hn hb => k.heap b o (h.heap b o ho hn hb) (h.out b o ho hn) hb, fun b o ho hn => by
    by_cases hb : N b
    · intro h'
      exact absurd h' (by
        have h1 := h.out b o ho hn
        have hl : b < w'.heap.size := Nat.lt_of_lt_of_le (heap_lt ho) h.base.2.2.2
        exact k.out b _ (Array.getElem?_eq_getElem hl) h1)
    · exact k.out b o (h.heap b o ho hn hb) (h.out b o ho hn), k.base.1.trans h.base.1, k.base.2.1.trans h.base.2.1, k.base.2.2.1.trans h.base.2.2.1, Nat.le_trans h.base.2.2.2 k.base.2.2.2⟩

theorem Ls.set3 {w0 : World} {N : Nat → Prop} {w : World} {p : Nat} {L : List Nd} (h : Ls w0 N w p L) {b : Nat} (hb : N b) (x y z : Value) :
    Ls w0 N (((w.setCell ⟨b, 0, none⟩ x).setCell ⟨b, 1, none⟩ y).setCell ⟨b, 2, none⟩ z) p L ∧ Kl N p w (((w.setCell ⟨b, 0, none⟩ x).setCell ⟨b, 1, none⟩ y).setCell ⟨b, 2, none⟩ z) := by
  obtain ⟨h1, k1⟩ := h.set hb 0 x
  obtain ⟨h2, k2⟩ := h1.set hb 1 y
  obtain ⟨h3, k3⟩ := h2.set hb 2 z
  exact ⟨h3, (k1.trans k2).trans k3⟩

/-- A key ring in one of the law's cells. -/
structure Rb (N : Nat → Prop) (w : World) (p b : Nat) (r : Kr) (v u : Value) : Prop where
  ring : Ring N w p r v u
  at_ : w.heap[b]? = some (.cells #[.int .i64 r.leaves, v, u] 32 (0, 0))

theorem rem_idx (x : Int) (m : Nat) (h0 : 0 < m) (h1 : m ≤ 1000) : ∃ j : Nat, j < m ∧ (wrap64 (x.tmod m + m)).tmod m = (j : Int) := by
  have a1 := Int.tmod_lt_of_pos x (b := (m : Int)) (by omega)
  have a2 := Int.lt_tmod_of_pos x (b := (m : Int)) (by omega)
  have a3 : wrap64 (x.tmod m + m) = x.tmod m + m := by unfold wrap64; omega
  rw [a3, Int.tmod_eq_emod_of_nonneg (by omega)]
  have a4 := Int.emod_lt_of_pos (x.tmod m + m) (b := (m : Int)) (by omega)
  have a5 := Int.emod_nonneg (x.tmod m + m) (b := (m : Int)) (by omega)
  exact ⟨((x.tmod m + m) % (m : Int)).toNat, by omega, by omega⟩

theorem lv_idx (x : Int) : ∃ lv : Int, (lv = 1 ∨ lv = 2 ∨ lv = 4 ∨ lv = 8) ∧ 0 ≤ (wrap64 (x.tmod 4 + 4)).tmod 4 ∧ (wrap64 (x.tmod 4 + 4)).tmod 4 < 4 ∧
    ∀ h, ([Value.int .i64 1, .int .i64 2, .int .i64 4, .int .i64 8][((wrap64 (x.tmod 4 + 4)).tmod 4).toNat]'h) = .int .i64 lv := by
  obtain ⟨j, hj, e⟩ := rem_idx x 4 (by omega) (by omega)
  have e' : (wrap64 (x.tmod 4 + 4)).tmod 4 = (j : Int) := e
  rw [e']
  simp only [Int.toNat_natCast]
  rcases (by omega : j = 0 ∨ j = 1 ∨ j = 2 ∨ j = 3) with rfl | rfl | rfl | rfl
  · exact ⟨1, .inl rfl, by omega, by omega, fun _ => rfl⟩
  · exact ⟨2, .inr (.inl rfl), by omega, by omega, fun _ => rfl⟩
  · exact ⟨4, .inr (.inr (.inl rfl)), by omega, by omega, fun _ => rfl⟩
  · exact ⟨8, .inr (.inr (.inr rfl)), by omega, by omega, fun _ => rfl⟩

/-- The two cells of the law's own. -/
theorem own_two {w0 w3 : World} {p : Nat} {L : List Nd} {lv : Int} {v : Value} (h : Ls w0 (fun _ => False) w3 p L) (hr : Ring (fun _ => False) w3 p (ring0 lv) v (.slice none 0 0)) :
    ∃ N : Nat → Prop, N w3.heap.size ∧ N (w3.heap.size + 1) ∧
      Ls w0 N ((w3.alloc (.cells #[.int .i64 lv, v, .slice none 0 0] 32)).alloc (.cells #[.int .i64 lv, v, .slice none 0 0] 32)) p L ∧
      Rb N ((w3.alloc (.cells #[.int .i64 lv, v, .slice none 0 0] 32)).alloc (.cells #[.int .i64 lv, v, .slice none 0 0] 32)) p w3.heap.size (ring0 lv) v (.slice none 0 0) ∧
      Rb N ((w3.alloc (.cells #[.int .i64 lv, v, .slice none 0 0] 32)).alloc (.cells #[.int .i64 lv, v, .slice none 0 0] 32)) p (w3.heap.size + 1) (ring0 lv) v (.slice none 0 0) := by
  obtain ⟨h1, _, r1⟩ := h.more #[.int .i64 lv, v, .slice none 0 0] (T := 32) (by decide)
  obtain ⟨h2, _, r2⟩ := h1.more #[.int .i64 lv, v, .slice none 0 0] (T := 32) (by decide)
  obtain ⟨_, b1, b2⟩ := two_new (w := w3) (T := 32) (U := 32) (cs := #[.int .i64 lv, v, .slice none 0 0]) (ds := #[.int .i64 lv, v, .slice none 0 0])
  have hr2 := r2 _ _ _ (r1 _ _ _ hr)
  exact ⟨_, .inl (.inr rfl), .inr (World.alloc_size _ _).symm, h2, ⟨hr2, b1⟩, ⟨hr2, b2⟩⟩

theorem full4 {lv : Int} (h : lv = 1 ∨ lv = 2 ∨ lv = 4 ∨ lv = 8) : fullB lv = true := by
  rcases h with rfl | rfl | rfl | rfl <;> decide +kernel

theorem Rb.step {N : Nat → Prop} {w w' : World} {p b : Nat} {r : Kr} {v u : Value} (h : Rb N w p b r v u) (k : Kl N p w w') (hn : ∀ b o, w.heap[b]? = some o → N b → w'.heap[b]? = some o) (hb : N b) : Rb N w' p b r v u :=
  ⟨h.ring.kl k, hn b _ h.at_ hb⟩

theorem Rb.bl {w0 : World} {N : Nat → Prop} {w w' : World} {p b : Nat} {L : List Nd} {r : Kr} {v u : Value} (h : Rb N w p b r v u) (hl : Ls w0 N w p L) (hb : Below w.heap.size w w') : Rb N w' p b r v u :=
  ⟨h.ring.kl (hl.bl hb).2, heap_bl hb h.at_⟩

end Go.Proofs.YtnkndplbcbehkaaGreatDoor

/-! What the laws of layer 13 are asked: in memory. -/
namespace Go.Proofs.YtnkndplbcbehkaaGreatDoor
open Go.RowKit Go.Cas
set_option maxHeartbeats 2000000
set_option maxRecDepth 20000

/-- What is asked for. -/
structure OpR where
  leaf : Int
  kind : Int
  gen : Int
  next : Bool
deriving DecidableEq, Inhabited

instance : Rp OpR where
  sz := 4
  rep _ _ cs x := cs = [.int .i64 x.leaf, .int .i64 x.kind, .int .i64 x.gen, .bool x.next]
  len h := by subst h; rfl
  step h _ _ := h
  one h := by subst h; simp [Value.oneCell']

/-- A slice of them, that came in. -/
def OpsAt (w : World) (v : Value) (l : List OpR) : Prop :=
  ∃ a c, v = .slice a l.length c ∧ l.length ≤ c ∧ l.length ≤ maxLen ∧ (0 < l.length → ∃ b off, a = some ⟨b, off, none⟩ ∧
    ∀ i x, l[i]? = some x → ∀ j u, [Value.int .i64 x.leaf, .int .i64 x.kind, .int .i64 x.gen, .bool x.next][j]? = some u → w.cell? ⟨b, off + (i * 4 + j), none⟩ = some u)

end Go.Proofs.YtnkndplbcbehkaaGreatDoor

/-! Between the steps of the laws of layer 13: one cell more. -/
namespace Go.Proofs.YtnkndplbcbehkaaGreatDoor
open Go.RowKit Go.Cas
set_option maxHeartbeats 2000000
set_option maxRecDepth 20000

/-- One more cell of the law's own. -/
theorem own_one {w0 w : World} {N : Nat → Prop} {p : Nat} {L : List Nd} {lv : Int} {v : Value} (h : Ls w0 N w p L) (hr : Ring N w p (ring0 lv) v (.slice none 0 0)) :
    ∃ N' : Nat → Prop, N' w.heap.size ∧ (∀ b, N b → N' b) ∧ Ls w0 N' (w.alloc (.cells #[.int .i64 lv, v, .slice none 0 0] 32)) p L ∧ Rb N' (w.alloc (.cells #[.int .i64 lv, v, .slice none 0 0] 32)) p w.heap.size (ring0 lv) v (.slice none 0 0) ∧
      ∀ b r v' u, Rb N w p b r v' u → Rb N' (w.alloc (.cells #[.int .i64 lv, v, .slice none 0 0] 32)) p b r v' u := by
  obtain ⟨h1, _, r1⟩ := h.more #[.int .i64 lv, v, .slice none 0 0] (T := 32) (by decide)
  exact ⟨_, .inr rfl, fun _ h => .inl h, h1, ⟨r1 _ _ _ hr, heap_new _ _⟩, fun b r v' u hb => ⟨r1 _ _ _ hb.ring, heap_al _ hb.at_⟩⟩

theorem bd_start {lv : Int} (h : lv = 1 ∨ lv = 2 ∨ lv = 4 ∨ lv = 8) : Bd 0 (ring0 lv) :=
  ⟨by show lv ≤ 100000; omega, by simp [ring0], by simp [ring0], fun c hc => by simp [ring0] at hc⟩

end Go.Proofs.YtnkndplbcbehkaaGreatDoor
