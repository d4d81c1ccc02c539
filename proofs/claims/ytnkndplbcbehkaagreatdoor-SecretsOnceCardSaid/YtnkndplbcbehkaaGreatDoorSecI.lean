/-
  secrets: begin.
-/
import Derived.Test.YtnkndplbcbehkaaGreatDoorSecH
set_option linter.unusedVariables false
set_option linter.unusedSimpArgs false
namespace Go.Proofs.YtnkndplbcbehkaaGreatDoor
open Go.RowKit Go.Cas
set_option maxHeartbeats 400000
set_option maxRecDepth 20000

/-- The last of the first k places at which q holds. -/
def lastF (q : Sec → Bool) (l : List Sec) : Nat → Int
  | 0 => -1
  | k + 1 => if (match l[k]? with | some x => q x | none => false) = true then (k : Int) else lastF q l k

theorem lastF_at (q : Sec → Bool) (l : List Sec) : ∀ k, lastF q l k = -1 ∨ ∃ (i : Nat) (x : Sec), i < k ∧ lastF q l k = (i : Int) ∧ l[i]? = some x ∧ q x = true
  | 0 => .inl rfl
  | k + 1 => by
    rw [lastF]
    cases h : l[k]? with
    | none =>
      simp only [Bool.false_eq_true, if_false]
      rcases lastF_at q l k with h' | ⟨i, x, h1, h2⟩
      · exact .inl h'
      · exact .inr ⟨i, x, by omega, h2⟩
    | some x =>
      by_cases hq : q x = true
      · rw [if_pos (by simpa using hq)]; exact .inr ⟨k, x, by omega, rfl, h, hq⟩
      · rw [if_neg (by simpa using hq)]
        rcases lastF_at q l k with h' | ⟨i, y, h1, h2⟩
        · exact .inl h'
        · exact .inr ⟨i, y, by omega, h2⟩

/-- The way down to a leaf. -/
def begL : Nat → Int → Int → Int → List Sec → List Nd → Int → Option (Int × List Sec) × List Nd × Int
  | 0, _, _, _, _, L, e => (none, L, e)
  | n + 1, leaf, x, s, nodes, L, e =>
    if x = 2 * leaf then (some (s, nodes), L, e)
    else if childB x = true then
      (let a := dexpR L e s ⟨#[116, 114, 101, 101]⟩ ⟨#[108, 101, 102, 116]⟩
       let b := dexpR a.2.2 a.2.1 s ⟨#[116, 114, 101, 101]⟩ ⟨#[114, 105, 103, 104, 116]⟩
       let other : Sec := if aboveB (leftF x) leaf = true then ⟨rightF x, b.1⟩ else ⟨leftF x, a.1⟩
       let i := bsR nodes other.node 0 nodes.length
       begL n leaf (if aboveB (leftF x) leaf = true then leftF x else rightF x) (if aboveB (leftF x) leaf = true then a.1 else b.1) (nodes.take i ++ [other] ++ nodes.drop i) b.2.2 b.2.1)
    else (none, L, e)

/-- What 'begin' tells: its error, the key ring, the arena, the deriver's error. -/
def beginR (L : List Nd) (e : Int) (r : Kr) (leaf : Int) : Int × Kr × List Nd × Int :=
  let at_ := lastF (fun x => aboveB x.node leaf) r.nodes r.nodes.length
  if at_ < 0 then (4, r, L, e)
  else
    (let y := r.nodes.getD at_.toNat default
     let z := begL 10 leaf y.node y.sk (r.nodes.take at_.toNat ++ r.nodes.drop (at_.toNat + 1)) L e
     match z.1 with
     | none => (4, r, z.2.1, z.2.2)
     | some (s, nodes) =>
       (let h := dexpR z.2.1 z.2.2 s ⟨#[104, 97, 110, 100, 115, 104, 97, 107, 101]⟩ ⟨#[]⟩
        let p := dexpR h.2.2 h.2.1 s ⟨#[97, 112, 112, 108, 105, 99, 97, 116, 105, 111, 110]⟩ ⟨#[]⟩
        let i := if findB (fun c : Ch => decide (c.leaf > leaf)) r.chains < 0 then r.chains.length else (findB (fun c : Ch => decide (c.leaf > leaf)) r.chains).toNat
        (p.2.1, ⟨r.leaves, nodes, r.chains.take i ++ [⟨leaf, 0, 0, h.1, []⟩, ⟨leaf, 1, 0, p.1, []⟩] ++ r.chains.drop i⟩, p.2.2, p.2.1)))

def BeginPost (w : World) (F : Nat → Prop) (d p o : Nat) (ks : List Value) (q : Int × Kr × List Nd × Int) : Ending → World → Prop := fun en w' =>
  en = .returned (.int .i64 q.1) ∧ ∃ F', IsD d p F' w' q.2.2.1 q.2.2.2 ∧ St F w F' w' ∧ (∀ b, F b → F' b) ∧ Dg (BX d o w) p F w F' w' ∧ (q.1 = 0 → ∃ v u ks', IsO o F' w' q.2.1 v u ks' ∧ ∀ k ∈ ks', k ∈ ks ∨ k = .slice none 0 0)

theorem isD_drewN (n : Nat) {d p : Nat} {F : Nat → Prop} {w : World} {L : List Nd} {e : Int} (h : IsD d p F w L e) : IsD d p F (w.drewN n) L e :=
  (h.upd (X := fun _ => False) (w' := w.drewN n) ((Kp.refl _ _).drewN n) (fun _ h => h.elim) (fun _ h => h) (fun _ h => .inl h) (fun _ hb => h.ar.lt hb)).1
theorem dg_drewN (n : Nat) {X : Nat → Prop} {d p : Nat} {F : Nat → Prop} {w : World} {L : List Nd} {e : Int} (h : IsD d p F w L e) : Dg X p F w F (w.drewN n) :=
  (h.upd (X := fun _ => False) (w' := w.drewN n) ((Kp.refl _ _).drewN n) (fun _ h => h.elim) (fun _ h => h) (fun _ h => .inl h) (fun _ hb => h.ar.lt hb)).2.mono fun _ h => h.elim
theorem isO_drewN (n : Nat) {o : Nat} {F : Nat → Prop} {w : World} {r : Kr} {v u : Value} {ks : List Value} (h : IsO o F w r v u ks) : IsO o F (w.drewN n) r v u ks :=
  h.keep (fun _ h => h) (fun _ _ _ h _ => h)
theorem st_drewN (n : Nat) {F F' : Nat → Prop} {w w' : World} (h : St F w F' w') : St F w F' (w'.drewN n) := ⟨h.kp.drewN n, h.new⟩

theorem secs_one (l : List Sec) : ∀ u ∈ l.flatMap Sec.cs, u.oneCell' = true := by
  intro u hu
  obtain ⟨x, _, hx⟩ := List.mem_flatMap.1 hu
  simp only [Sec.cs, List.mem_cons, List.not_mem_nil, or_false] at hx
  rcases hx with rfl | rfl <;> rfl
theorem secs_drop (l : List Sec) (m : Nat) : (l.drop m).flatMap Sec.cs = (l.flatMap Sec.cs).drop (m * 2) := by
  induction l generalizing m with
  | nil => simp
  | cons x l ih =>
    cases m with
    | zero => simp
    | succ m => rw [List.drop_succ_cons, ih, show (m + 1) * 2 = m * 2 + 1 + 1 by omega]; rfl
theorem secs_take (l : List Sec) (m : Nat) : (l.take m).flatMap Sec.cs = (l.flatMap Sec.cs).take (m * 2) := by
  induction l generalizing m with
  | nil => simp
  | cons x l ih =>
    cases m with
    | zero => simp
    | succ m => rw [List.take_succ_cons, List.flatMap_cons, ih, show (m + 1) * 2 = m * 2 + 1 + 1 by omega]; rfl

theorem level_child (x : Int) (h : childB x = true) : levelF (leftF x) + 1 ≤ levelF x ∧ levelF (rightF x) + 1 ≤ levelF x := by
  have hx : (0 ≤ x ∧ x ≤ 510) ∧ x % 2 = 1 := by simpa [childB, any1B] using h
  exact small_ind (p := fun x => x % 2 = 1 → levelF (leftF x) + 1 ≤ levelF x ∧ levelF (rightF x) + 1 ≤ levelF x) (by decide +kernel) x hx.1.1 hx.1.2 hx.2

/-- How far it is yet. -/
def farF (x : Int) : Nat := if childB x = true then levelF x + 1 else 0
theorem farF_lt (x : Int) : farF x < 10 := by
  unfold farF
  split
  · rename_i h
    have hx : (0 ≤ x ∧ x ≤ 510) ∧ x % 2 = 1 := by simpa [childB, any1B] using h
    have := levelF_lt x hx.1.1 hx.1.2; omega
  · omega
theorem farF_child (x : Int) (h : childB x = true) : farF (leftF x) < farF x ∧ farF (rightF x) < farF x := by
  obtain ⟨h1, h2⟩ := level_child x h
  unfold farF
  rw [if_pos h]
  constructor <;> split <;> omega

/-- What stands on the way down. -/
structure Dn (w : World) (F : Nat → Prop) (d p o : Nat) (leaf : Int) (r : Kr) (u : Value) (ks : List Value) (F' : Nat → Prop) (wr : World) (L : List Nd) (e : Int) (nodes : List Sec) (v : Value) : Prop where
  isd : IsD d p F' wr L e
  iso : IsO o F' wr ⟨r.leaves, nodes, r.chains⟩ v u ks
  st : St F w F' wr
  old : ∀ b, F b → F' b
  box : wr.heap[w.heap.size]? = some (.cells #[.int .i64 leaf] 3 (0, 0))
  nb : ¬ F' w.heap.size
  dg : Dg (BX d o w) p F w F' wr
  xv : ∀ b, v.ownBlock = some b → BX d o w b ∨ w.heap.size ≤ b
  xu : ∀ b, u.ownBlock = some b → BX d o w b

theorem dn_below {w : World} {F : Nat → Prop} {d p o : Nat} {leaf : Int} {r : Kr} {u : Value} {ks : List Value} {F' : Nat → Prop} {wr w' : World} {L : List Nd} {e : Int} {nodes : List Sec} {v : Value}
    (h : Dn w F d p o leaf r u ks F' wr L e nodes v) (hb : Below wr.heap.size wr w') : Dn w F d p o leaf r u ks F' w' L e nodes v :=
  ⟨(h.isd.below hb).1, h.iso.below (fun _ h => h) hb, h.st.trans (St.all hb), h.old, heap_bl hb h.box, h.nb, h.dg.trans ((h.isd.below hb).2.mono fun _ h => h.elim), h.xv, h.xu⟩
theorem dn_drewN (n : Nat) {w : World} {F : Nat → Prop} {d p o : Nat} {leaf : Int} {r : Kr} {u : Value} {ks : List Value} {F' : Nat → Prop} {wr : World} {L : List Nd} {e : Int} {nodes : List Sec} {v : Value}
    (h : Dn w F d p o leaf r u ks F' wr L e nodes v) : Dn w F d p o leaf r u ks F' (wr.drewN n) L e nodes v :=
  ⟨isD_drewN n h.isd, isO_drewN n h.iso, st_drewN n h.st, h.old, h.box, h.nb, h.dg.trans (dg_drewN n h.isd), h.xv, h.xu⟩
theorem dn_expand {w : World} {F : Nat → Prop} {d p o : Nat} {leaf : Int} {r : Kr} {u : Value} {ks : List Value} {F' : Nat → Prop} {wr : World} {L : List Nd} {e : Int} {nodes : List Sec} {v : Value}
    (h : Dn w F d p o leaf r u ks F' wr L e nodes v) (s : Int) (label context : ByteArray) :
    Calls Tryz.prog 38 #[.pointer (some ⟨d, 0, none⟩), .int .i64 s, .string label, .string context] wr fun en w' =>
      en = .returned (.int .i64 (dexpR L e s label context).1) ∧ ∃ F'', Dn w F d p o leaf r u ks F'' w' (dexpR L e s label context).2.2 (dexpR L e s label context).2.1 nodes v := by
  refine (sExpand_any d p F' L e s label context wr h.isd).mono ?_
  rintro en w' ⟨rfl, F'', q1, q2⟩
  exact ⟨rfl, F'', q1, h.iso.dg h.isd q2, h.st.trans q2.st, fun b hb => q2.old _ (h.old b hb), (q2.st.heap h.nb h.box).1, (q2.st.heap h.nb h.box).2, h.dg.trans (q2.mono fun _ hb => .inl hb), h.xv, h.xu⟩

theorem dn_nodes {w : World} {F : Nat → Prop} {d p o : Nat} {leaf : Int} {r : Kr} {u : Value} {ks : List Value} {F' : Nat → Prop} {w1 w2 : World} {L : List Nd} {e : Int} {nodes l : List Sec} {v v2 : Value}
    (h : Dn w F d p o leaf r u ks F' w1 L e nodes v) (hg : w1.grownBy w2 v.ownBlock) (ho2 : w2.ownsRow 0 58 2 v2 l.length (l.flatMap Sec.cs)) (hat : v2.ownBlock = v.ownBlock ∨ ∃ b, v2.ownBlock = some b ∧ w1.heap.size ≤ b) :
    ∃ F'', Dn w F d p o leaf r u ks F'' (w2.setCell ⟨o, 1, none⟩ v2) L e l v2 := by
  obtain ⟨F3, q1, q2, q3, q4, q5⟩ := io_nodes h.isd h.iso hg ho2 hat
  refine ⟨F3, q1, q2, h.st.trans q3, fun b hb => q4 b (h.old b hb), (q3.heap h.nb h.box).1, (q3.heap h.nb h.box).2, ?_, fun b hb => ?_, h.xu⟩
  · refine Dg.fresh (Y := fun b => w.heap.size ≤ b) ((h.dg.mono fun b hb => .inl hb).trans (q5.mono fun b hb => ?_)) (fun b hb => hb)
    rcases hb with rfl | hb
    · exact .inl (.inr (.inl rfl))
    · exact h.xv b hb
  · rcases hat with ha | ⟨b', ha, hl⟩
    · rw [ha] at hb; exact h.xv b hb
    · rw [ha] at hb; cases hb; exact .inr (Nat.le_trans h.st.size hl)

theorem secs_ins {w : World} {v : Value} {nodes : List Sec} {i : Nat} {y : Sec} (hi : i ≤ nodes.length) (h : w.ownsRow 0 58 2 v (nodes.length + 1) ((nodes.flatMap Sec.cs).take (i * 2) ++ y.cs ++ (nodes.flatMap Sec.cs).drop (i * 2))) :
    w.ownsRow 0 58 2 v (nodes.take i ++ [y] ++ nodes.drop i).length ((nodes.take i ++ [y] ++ nodes.drop i).flatMap Sec.cs) := by
  rw [List.flatMap_append, List.flatMap_append, secs_take, secs_drop, show (nodes.take i ++ [y] ++ nodes.drop i).length = nodes.length + 1 by simp; omega]
  simpa using h

theorem ins_at {α : Type} (l : List α) (j : Nat) (hj : j ≤ l.length) (a b : α) (i : Nat) : (l.take j ++ [a, b] ++ l.drop j)[i]? = if i < j then l[i]? else if i = j then some a else if i = j + 1 then some b else l[i - 2]? := by
  have hl : (l.take j).length = j := by rw [List.length_take]; omega
  by_cases h1 : i < j
  · rw [if_pos h1, List.append_assoc, List.getElem?_append_left (by omega), List.getElem?_take, if_pos h1]
  · rw [if_neg h1, List.append_assoc, List.getElem?_append_right (by omega), hl]
    by_cases h2 : i = j
    · rw [if_pos h2, h2]; simp
    · rw [if_neg h2]
      by_cases h3 : i = j + 1
      · rw [if_pos h3, h3, show j + 1 - j = 1 by omega]; simp
      · rw [if_neg h3, List.getElem?_append_right (by simp; omega), List.getElem?_drop]
        congr 1; simp; omega

/-- The two new chains are laid down. -/
theorem dn_end {w : World} {F : Nat → Prop} {d p o : Nat} {leaf : Int} {r : Kr} {u : Value} {ks : List Value} {F' : Nat → Prop} {w1 w2 : World} {L : List Nd} {e : Int} {nodes : List Sec} {v u2 : Value} {j : Nat} {c1 c2 : Ch}
    (h : Dn w F d p o leaf r u ks F' w1 L e nodes v) (hj : j ≤ r.chains.length) (h1 : c1.kept = []) (h2 : c2.kept = []) (hg : w1.grownBy w2 u.ownBlock)
    (ho2 : w2.ownsRow 0 71 5 u2 (r.chains.length + 2) ((chCells r.chains ks).take (j * 5) ++ (c1.cs (.slice none 0 0) ++ c2.cs (.slice none 0 0)) ++ (chCells r.chains ks).drop (j * 5))) (hat : u2.ownBlock = u.ownBlock ∨ ∃ b, u2.ownBlock = some b ∧ w1.heap.size ≤ b) :
    ∃ F'', IsD d p F'' (w2.setCell ⟨o, 2, none⟩ u2) L e ∧ St F w F'' (w2.setCell ⟨o, 2, none⟩ u2) ∧ (∀ b, F b → F'' b) ∧ Dg (BX d o w) p F w F'' (w2.setCell ⟨o, 2, none⟩ u2) ∧ ∃ v' u' ks', IsO o F'' (w2.setCell ⟨o, 2, none⟩ u2) ⟨r.leaves, nodes, r.chains.take j ++ [c1, c2] ++ r.chains.drop j⟩ v' u' ks' ∧ ∀ k ∈ ks', k ∈ ks ∨ k = .slice none 0 0 := by
  have hl := h.iso.len
  obtain ⟨t1, t2⟩ := chCells_take r.chains ks hl j hj
  have hlt : (ks.take j).length = (r.chains.take j).length := by rw [List.length_take, List.length_take, show ks.length = r.chains.length from hl]
  have hlen : (ks.take j ++ [Value.slice none 0 0, Value.slice none 0 0] ++ ks.drop j).length = (r.chains.take j ++ [c1, c2] ++ r.chains.drop j).length := by
    simp only [List.length_append, List.length_take, List.length_drop, show ks.length = r.chains.length from hl, List.length_cons, List.length_nil]
  have hn : (r.chains.take j ++ [c1, c2] ++ r.chains.drop j).length = r.chains.length + 2 := by simp; omega
  have hcell : chCells (r.chains.take j ++ [c1, c2] ++ r.chains.drop j) (ks.take j ++ [.slice none 0 0, .slice none 0 0] ++ ks.drop j) = (chCells r.chains ks).take (j * 5) ++ (c1.cs (.slice none 0 0) ++ c2.cs (.slice none 0 0)) ++ (chCells r.chains ks).drop (j * 5) := by
    rw [chCells_append _ _ _ _ (by simp only [List.length_append, hlt, List.length_cons, List.length_nil]), chCells_append _ _ _ _ hlt, t1, t2]
    simp [chCells]
  obtain ⟨F3, q1, q2, q3, q4, q5⟩ := io_chains (l := r.chains.take j ++ [c1, c2] ++ r.chains.drop j) (ks2 := ks.take j ++ [.slice none 0 0, .slice none 0 0] ++ ks.drop j) h.isd h.iso hg (by rw [hn, hcell]; exact ho2) hat hlen
    (fun i c k hc hk => by
      rw [ins_at _ _ hj] at hc
      rw [ins_at _ _ (by rw [show ks.length = r.chains.length from hl]; exact hj)] at hk
      by_cases e1 : i < j
      · rw [if_pos e1] at hc hk; exact h.iso.kept i c k hc hk
      · rw [if_neg e1] at hc hk
        by_cases e2 : i = j
        · rw [if_pos e2] at hc hk; cases hc; cases hk; rw [h1]; exact World.ownsRow_nil _ _ _ _
        · rw [if_neg e2] at hc hk
          by_cases e3 : i = j + 1
          · rw [if_pos e3] at hc hk; cases hc; cases hk; rw [h2]; exact World.ownsRow_nil _ _ _ _
          · rw [if_neg e3] at hc hk; exact h.iso.kept _ c k hc hk)
    (fun k hk b hb => by
      simp only [List.mem_append, List.mem_cons, List.not_mem_nil, or_false] at hk
      rcases hk with (hk | hk | hk) | hk
      · exact h.iso.fk k (List.mem_of_mem_take hk) b hb
      · subst hk; cases hb
      · subst hk; cases hb
      · exact h.iso.fk k (List.mem_of_mem_drop hk) b hb)
    (fun x y k k' b hxy hk hk' hb hb' => by
      rw [ins_at _ _ (by rw [show ks.length = r.chains.length from hl]; exact hj)] at hk hk'
      by_cases e1 : x < j
      · rw [if_pos e1] at hk
        by_cases f1 : y < j
        · rw [if_pos f1] at hk'; exact h.iso.apart x y k k' b hxy hk hk' hb hb'
        · rw [if_neg f1] at hk'
          by_cases f2 : y = j
          · rw [if_pos f2] at hk'; cases hk'; cases hb'
          · rw [if_neg f2] at hk'
            by_cases f3 : y = j + 1
            · rw [if_pos f3] at hk'; cases hk'; cases hb'
            · rw [if_neg f3] at hk'; exact h.iso.apart x (y - 2) k k' b (by omega) hk hk' hb hb'
      · rw [if_neg e1] at hk
        by_cases e2 : x = j
        · rw [if_pos e2] at hk; cases hk; cases hb
        · rw [if_neg e2] at hk
          by_cases e3 : x = j + 1
          · rw [if_pos e3] at hk; cases hk; cases hb
          · rw [if_neg e3] at hk
            by_cases f1 : y < j
            · rw [if_pos f1] at hk'; exact h.iso.apart (x - 2) y k k' b (by omega) hk hk' hb hb'
            · rw [if_neg f1] at hk'
              by_cases f2 : y = j
              · rw [if_pos f2] at hk'; cases hk'; cases hb'
              · rw [if_neg f2] at hk'
                by_cases f3 : y = j + 1
                · rw [if_pos f3] at hk'; cases hk'; cases hb'
                · rw [if_neg f3] at hk'; exact h.iso.apart (x - 2) (y - 2) k k' b (by omega) hk hk' hb hb')
  refine ⟨F3, q1, h.st.trans q3, fun b hb => q4 b (h.old b hb), h.dg.trans (q5.mono fun b hb => ?_), _, _, _, q2, fun k hk => ?_⟩
  · rcases hb with rfl | hb
    · exact .inr (.inl rfl)
    · exact h.xu b hb
  · simp only [List.mem_append, List.mem_cons, List.not_mem_nil, or_false] at hk
    rcases hk with (hk | hk | hk) | hk
    · exact .inl (List.mem_of_mem_take hk)
    · exact .inr hk
    · exact .inr hk
    · exact .inl (List.mem_of_mem_drop hk)

end Go.Proofs.YtnkndplbcbehkaaGreatDoor
