/-
  SecretsOnce: parts of its walk. SecretsOnce: its walk.
-/
import Derived.Test.YtnkndplbcbehkaaGreatDoorB6
import Derived.Test.YtnkndplbcbehkaaGreatDoorB7
import Derived.Test.YtnkndplbcbehkaaGreatDoorB5
set_option linter.unusedVariables false
set_option linter.unusedSimpArgs false

/-! SecretsOnce: parts of its walk. -/
namespace Go.Proofs.YtnkndplbcbehkaaGreatDoor
open Go.RowKit Go.Cas
set_option maxHeartbeats 4000000
set_option maxRecDepth 20000

/-- The reference's 'In'. -/
theorem rIn_any (K : Nat → Prop) (v : Value) (l : List Int) (n : Int) (w : World) (hl : SlRep K w v l) :
    Calls Tryz.prog 8 #[v, .int .i64 n] w fun e w' => e = .returned (.bool (l.any fun x => x == n)) ∧ w = w' := by
  obtain ⟨a, c, rfl, hc, hm, ho⟩ := hl.openInt
  unfold maxLen at hm
  clear hl
  have key : ∀ k, k ≤ l.length → (∀ j y, j < k → l[j]? = some y → (y == n) = false) → (l.take k).any (fun x => x == n) = false := fun k hk h => by
    rw [List.any_eq_false]
    intro x hx
    obtain ⟨j, hj, rfl⟩ := List.getElem_of_mem hx
    rw [List.length_take] at hj
    have := h j l[j] (by omega) (List.getElem?_eq_getElem (by omega))
    rw [List.getElem_take]; simpa using this
  have HK := Lib.hid key
  clear key
  go_enter Tryz.func8, Tryz.ntmps8
  go_wp2
  go_loop [9] (fun i => ∃ k : Nat, k ≤ l.length ∧ i = .int .i64 k ∧ Hid (∀ j y, j < k → l[j]? = some y → (y == n) = false)) (fun i => l.length - (intOf i).toNat)
  case atStart => exact ⟨0, Nat.zero_le _, rfl, fun j y hj => by omega⟩
  case round =>
    obtain ⟨k, hk, rfl, H⟩ := hrel
    by_cases hlt : k < l.length
    · obtain ⟨b, off, rfl, _, _, hi⟩ := ho (by omega)
      obtain ⟨x, hx⟩ : ∃ x, l[k]? = some x := ⟨_, List.getElem?_eq_getElem hlt⟩
      have hcell := hi k x hx
      have HX := Lib.hid hx
      clear hi ho hx
      cases hqx : (x == n) with
      | true =>
        have HQ := Lib.hid hqx
        clear hqx
        have hq := HQ.out
        go_wp2_with fail
        go_ret
        exact ⟨ret_bool (List.any_eq_true.2 ⟨x, List.mem_of_getElem? HX.out, HQ.out⟩).symm, rfl⟩
      | false =>
        have HQ := Lib.hid hqx
        go_wp2_with fail
        go_round
        case rel =>
          refine ⟨k + 1, by omega, by go_num, fun j y hj hy => ?_⟩
          by_cases e : j = k
          · subst e; rw [HX.out] at hy; cases hy; exact HQ.out
          · exact H.out j y (by omega) hy
        case measure => simp [intOf]; omega
    · obtain rfl : k = l.length := by omega
      go_wp2_with fail
      go_ret
      refine ⟨ret_bool ?_, rfl⟩
      have := HK.out l.length (Nat.le_refl _) H.out
      rw [List.take_length] at this
      exact this.symm

/-- A key that was told. -/
structure Td where
  leaf : Int
  kind : Int
  gen : Int
  x : GK

def tks (l : List Td) : List Int := l.flatMap fun q => [q.x.key, q.x.nonce]
theorem tks_len (l : List Td) : (tks l).length = l.length * 2 := by
  unfold tks
  induction l with
  | nil => rfl
  | cons x l ih => rw [List.flatMap_cons, List.length_append, ih]; simp; omega

/-- The law's own cells: its key ring's, and those of what was told. -/
def Nt (s : Nat) (tv : Value) : Nat → Prop := fun b => b = s ∨ tv.ownBlock = some b

/-- What was told grows. -/
theorem Ls.told {w0 w w' : World} {p s : Nat} {L : List Nd} {tv tv' : Value} {n : Nat} {xs : List Value} (h : Ls w0 (Nt s tv) w p L) (hs : some s ≠ tv.ownBlock) (ho : w'.ownsRow w0.heap.size 3 1 tv' n xs) (hg : w.grownBy w' tv.ownBlock)
    (hb : tv'.ownBlock = tv.ownBlock ∨ tv'.ownBlock = some w.heap.size) :
    Ls w0 (Nt s tv') w' p L ∧ (∀ r v u, Ring (Nt s tv) w p r v u → Ring (Nt s tv') w' p r v u) := by
  have hp0 : ∃ o, w.heap[p]? = some o := by obtain ⟨v, m, xs, h0, _⟩ := h.ar; exact ⟨_, h0⟩
  have hrowp : some p ≠ tv.ownBlock := fun e => h.nw.far p (.inr e.symm) (.inl rfl)
  have hp : ArB w' p = ArB w p := arB_lt (hg.block p (heap_lt hp0.choose_spec) hrowp)
  have hkp : Kp (fun b => ¬ (ArB w p b ∨ Nt s tv b)) w w' := Kp.of_grown hg fun i _ hi e => hi (.inr (.inr e.symm))
  have hkpA : Kp (fun b => ¬ (ArB w p b ∨ Nt s tv b) ∨ ArB w p b) w w' := Kp.of_grown hg fun i _ hi e => by
    rcases hi with hi | hi
    · exact hi (.inr (.inr e.symm))
    · exact h.nw.far i (.inr e.symm) hi
  have hN : ∀ b, Nt s tv' b → Nt s tv b ∨ w.heap.size ≤ b := fun b hb' => by
    rcases hb' with hb' | hb'
    · exact .inl (.inl hb')
    · rcases hb with e | e
      · exact .inl (.inr (e ▸ hb'))
      · rw [e] at hb'; have := Option.some.inj hb'; exact .inr (by omega)
  have hlt : ∀ b, ArB w p b ∨ Nt s tv b → b < w.heap.size := fun b hb' => h.ar.lt hb'
  have hlt' : ∀ b, ArB w p b ∨ Nt s tv' b → b < w'.heap.size := fun b hb' => by
    rcases hb' with hb' | hb'
    · exact Nat.lt_of_lt_of_le (hlt b (.inl hb')) hg.size
    · rcases hb' with hb' | hb'
      · exact Nat.lt_of_lt_of_le (hlt b (.inr (.inl hb'))) hg.size
      · exact (ho.lt b hb').2
  have hst : St (fun b => ArB w p b ∨ Nt s tv b) w (fun b => ArB w p b ∨ Nt s tv' b) w' := ⟨hkp, fun b hb' => by
    rcases hb' with hb' | hb'
    · exact .inl (.inl hb')
    · exact (hN b hb').imp .inr id⟩
  refine ⟨⟨⟨fun b hb' => ?_, fun b hb' => ?_⟩, ?_, ?_, ?_, fun b hb' => ?_⟩, fun r v u hr => ?_⟩
  · rcases hb' with rfl | hb'
    · obtain ⟨cs, T, h1, h2⟩ := h.nw.typed b (.inl rfl)
      exact ⟨cs, T, heap_grown hg h1 hs, h2⟩
    · rcases ho.2 with ⟨rfl, _⟩ | ⟨g, cap, cur, rfl, _, hgg, _⟩
      · cases hb'
      · cases hb'
        exact ⟨cur, 3, hgg, by decide⟩
  · rw [hp]
    intro ha
    rcases hN b hb' with h' | h'
    · exact h.nw.far b h' ha
    · have := hlt b (.inl ha); omega
  · rw [hp]; exact h.env.step hst
  · rw [hp]
    obtain ⟨v, m, xs, g0, g1, g2, g3, g4, g5, g6, g7, g8⟩ := h.ar
    have harb : ∀ b, ArB w p b → w'.heap[b]? = w.heap[b]? := fun b hb' => hkpA.block b (hlt b (.inl hb')) (.inr hb')
    refine ⟨v, m, xs, by rw [harb p (.inl rfl)]; exact g0, own_block g1 fun k hk => harb k (.inr ⟨_, _, _, _, g0, .inr hk⟩), g2.step hkp (fun b hb' hn => hst.not hb' hn), ?_, .inl (.inl rfl), .inl (.inr ⟨_, _, _, _, g0, .inl rfl⟩), fun b hb' => .inl (.inr ⟨_, _, _, _, g0, .inr hb'⟩), hlt', g8⟩
    exact ownsMap_blk g3 (fun o ho' => by rw [harb m (.inr ⟨_, _, _, _, g0, .inl rfl⟩)]; exact ho')
  · refine ⟨hg.os.trans h.below.os, hg.tape.trans h.below.tape, hg.output.trans h.below.output, Nat.le_trans h.below.size hg.size, fun b hb' => ?_⟩
    rw [hg.block b (Nat.lt_of_lt_of_le hb' h.below.size) (fun e => by have := h.fresh b (.inr (.inr e.symm)); omega)]
    exact h.below.block b hb'
  · rw [hp] at hb'
    rcases hb' with hb' | hb'
    · exact h.fresh b (.inl hb')
    · rcases hN b hb' with h' | h'
      · exact h.fresh b (.inr h')
      · exact Nat.le_trans h.below.size h'
  · have hn : ∀ b, b < w.heap.size → ¬ (ArB w p b ∨ Nt s tv b) → ¬ (ArB w' p b ∨ Nt s tv' b) := fun b hb' hn => by rw [hp]; exact hst.not hb' hn
    exact ⟨hr.1.step hkp hn, hr.2.step hkp hn⟩
where
  ownsMap_blk {w w' : World} {k : TypeId} {R : Value → Option (DataW Unit × List MemPlace)} {m n : Nat} {D : DataW Unit} (h : w.ownsMap Tryz.prog k R m n D) (e : ∀ o, w.heap[m]? = some o → w'.heap[m]? = some o) : w'.ownsMap Tryz.prog k R m n D := by
    obtain ⟨es, ck, h1, h2⟩ := h
    exact ⟨es, ck, e _ h1, h2⟩

/-- What stands in the rounds. -/
structure Oc (w0 w : World) (p s : Nat) (lv : Int) (L : List Nd) (r : Kr) (v u tv : Value) (told : List Td) : Prop where
  ls : Ls w0 (Nt s tv) w p L
  one : Rb (Nt s tv) w p s r v u
  own : w.ownsRow w0.heap.size 3 1 tv (tks told).length ((tks told).map (Value.int .i64))
  atoms : atoms 3 <+: L
  ri : RI L lv r
  ru : RU r
  lvs : r.leaves = lv
  pl : LPl L
  gone : ∀ q ∈ told, (q.kind = 0 ∨ q.kind = 1) ∧ aboveB (lv - 1) q.leaf = true ∧ Gone r q.leaf q.kind q.gen ∧ KS L lv q.leaf q.kind q.gen q.x

section
variable {w0 w w' : World} {p s : Nat} {lv : Int} {L L' : List Nd} {r : Kr} {v u tv : Value} {told : List Td}

theorem Oc.nodup (h : Oc w0 w p s lv L r v u tv told) : L.Nodup := h.ls.ar.wf.1

theorem Oc.zero (h : Oc w0 w p s lv L r v u tv told) : ∃ n, At L 0 ⟨1, n, ⟨#[]⟩, []⟩ := by
  obtain ⟨z, hz⟩ := h.atoms
  refine ⟨0, by decide, ?_⟩
  rw [← hz]; rfl

theorem Oc.bl (h : Oc w0 w p s lv L r v u tv told) (hb : Below w.heap.size w w') : Oc w0 w' p s lv L r v u tv told :=
  ⟨(h.ls.bl hb).1, h.one.bl h.ls hb, own_below h.own hb, h.atoms, h.ri, h.ru, h.lvs, h.pl, h.gone⟩

/-- Behind 'Key', the key ring as it was. -/
theorem Oc.key (h : Oc w0 w p s lv L r v u tv told) (hl : Ls w0 (Nt s tv) w' p L') (hk : Kl (Nt s tv) p w w') (hn : ∀ b o, w.heap[b]? = some o → Nt s tv b → w'.heap[b]? = some o) (hp : L <+: L') (hpl : LPl L') : Oc w0 w' p s lv L' r v u tv told :=
  ⟨hl, h.one.step hk hn (.inl rfl), own_block h.own (fun k hk' => by obtain ⟨cu, hcu⟩ := own_type (own_ge h.own (Nat.zero_le _)) hk'; rw [hcu]; exact hn k _ hcu (.inr hk')), h.atoms.trans hp, h.ri.mono hp, h.ru, h.lvs, hpl,
    fun q hq => by obtain ⟨a, b, c, d⟩ := h.gone q hq; exact ⟨a, b, c, d.mono hp⟩⟩

theorem Oc.sne (h : Oc w0 w p s lv L r v u tv told) : some s ≠ tv.ownBlock := own_ne h.own h.one.at_ (by decide)
end

theorem root_above {lv leaf : Int} (h : lv = 1 ∨ lv = 2 ∨ lv = 4 ∨ lv = 8) (h0 : 0 ≤ leaf) (h1 : leaf < lv) : aboveB (lv - 1) leaf = true := by
  have key : any1B (lv - 1) = true ∧ fromF (lv - 1) = 0 ∧ toF (lv - 1) = lv := by rcases h with rfl | rfl | rfl | rfl <;> decide +kernel
  rw [aboveB_iff]
  exact ⟨key.1, by omega, by omega⟩

theorem lab_range {L : List Nd} {t : Int} {p : ByteArray → Prop} (h : Lab L t p) : 0 ≤ t ∧ t < L.length := by
  obtain ⟨_, _, _, _, _, _, _, _, h3⟩ := h
  exact h3.nd.2

/-- What is left is terms. -/
theorem has_range {L : List Nd} {lv : Int} {r : Kr} (h0 : ∃ n, At L 0 ⟨1, n, ⟨#[]⟩, []⟩) (hi : RI L lv r) (hu : RU r) : badL L (hasR r) = false := by
  unfold badL
  rw [List.any_eq_false]
  intro t ht
  have hr : 0 ≤ t ∧ t < L.length := by
    rcases has_lab hi hu ht with ⟨y, hy, lf, n, _, hn⟩ | ⟨c, hc, _, _, hn⟩ | ⟨c, hc, k, hk, _, hn, ht'⟩
    · rcases hn.lab with rfl | h'
      · obtain ⟨a, ha⟩ := h0; exact ha.nd.2
      · exact lab_range h'
    · exact lab_range hn.lab
    · exact lab_range (hn.lab ht')
  simp [hasB, hr.1, hr.2]

theorem tks_mem {l : List Td} {t : Int} (h : t ∈ tks l) : ∃ q ∈ l, t = q.x.key ∨ t = q.x.nonce := by
  unfold tks at h
  rw [List.mem_flatMap] at h
  obtain ⟨q, hq, ht⟩ := h
  exact ⟨q, hq, by simpa using ht⟩

section
variable {w0 w w' : World} {p s : Nat} {lv : Int} {L L' : List Nd} {r : Kr} {v u tv : Value} {told : List Td}

/-- What was told cannot be derived. -/
theorem Oc.safe (h : Oc w0 w p s lv L r v u tv told) {t : Int} (ht : t ∈ tks told) : ¬ Der L (hasR r) t ∧ 0 ≤ t ∧ t < L.length := by
  obtain ⟨q, hq, hqt⟩ := tks_mem ht
  obtain ⟨a, b, c, d⟩ := h.gone q hq
  have hg : Tg L lv r q.leaf q.kind q.gen q.x := ⟨h.pl, h.nodup, h.zero, h.ri, h.ru, a, b, c, d⟩
  exact ⟨hg.safe hqt, lab_range (d.lab hqt)⟩

theorem Oc.notHas (h : Oc w0 w p s lv L r v u tv told) {t : Int} (ht : t ∈ tks told) {x : Sp} (hx : Closed L (hasR r) x) : x.has t = false := by
  obtain ⟨h1, h2⟩ := h.safe ht
  have hs := hx.sound h.ls.ar.wf.mk (usesR_ok L) (badL_false (has_range h.zero h.ri h.ru))
  cases hb : x.has t with
  | false => rfl
  | true => exact absurd (hs.inn t h2 hb) h1

theorem Oc.notKnown (h : Oc w0 w p s lv L r v u tv told) {t : Int} (ht : t ∈ tks told) {x : Sp} (hx : Closed L (hasR r) x) : (knownR L (hasR r) x).any (fun y => y == t) = false := by
  rw [List.any_eq_false]
  intro y hy e
  have e' : y = t := by simpa using e
  subst e'
  unfold knownR at hy
  rw [List.mem_map] at hy
  obtain ⟨k, hk, e2⟩ := hy
  rw [List.mem_filter, Bool.and_eq_true] at hk
  have := h.notHas ht hx
  rw [← e2, hk.2.2] at this; cases this

/-- One key more. -/
theorem Oc.tell (h : Oc w0 w p s lv L r v u tv told) {w8 : World} {tv' : Value} {leaf kind gen : Int} {y : GK}
    (ho : w8.ownsRow w0.heap.size 3 1 tv' ((tks told).length + 2) ((tks told).map (Value.int .i64) ++ [.int .i64 y.key, .int .i64 y.nonce])) (hg : w.grownBy w8 tv.ownBlock) (hb : tv'.ownBlock = tv.ownBlock ∨ tv'.ownBlock = some w.heap.size)
    {r' : Kr} {v' u' : Value} (hr' : Ring (Nt s tv) w p r' v' u') (hri : RI L lv r') (hru : RU r') (hlv : r'.leaves = lv) (hk : kind = 0 ∨ kind = 1) (hab : aboveB (lv - 1) leaf = true) (hgn : Gone r' leaf kind gen)
    (hold : ∀ lf kd g, Gone r lf kd g → Gone r' lf kd g) (hks : KS L lv leaf kind gen y) :
    Oc w0 (((w8.setCell ⟨s, 0, none⟩ (.int .i64 r'.leaves)).setCell ⟨s, 1, none⟩ v').setCell ⟨s, 2, none⟩ u') p s lv L r' v' u' tv' (told ++ [⟨leaf, kind, gen, y⟩]) := by
  obtain ⟨l1, k1⟩ := h.ls.told h.sne ho hg hb
  have hs8 : w8.heap[s]? = some (.cells #[.int .i64 r.leaves, v, u] 32 (0, 0)) := heap_grown hg h.one.at_ h.sne
  obtain ⟨l2, k2⟩ := l1.set3 (b := s) (.inl rfl) (.int .i64 r'.leaves) v' u'
  have e : tks (told ++ [⟨leaf, kind, gen, y⟩]) = tks told ++ [y.key, y.nonce] := by simp [tks]
  refine ⟨l2, ⟨(k1 _ _ _ hr').kl k2, same_set3 hs8 _ _ _⟩, ?_, h.atoms, hri, hru, hlv, h.pl, fun q hq => ?_⟩
  · rw [e]
    have ho' : w8.ownsRow w0.heap.size 3 1 tv' (tks told ++ [y.key, y.nonce]).length ((tks told ++ [y.key, y.nonce]).map (Value.int .i64)) := by
      rw [List.length_append, List.map_append]; exact ho
    have hne : tv'.ownBlock ≠ some s := fun e' => own_ne ho' hs8 (by decide) e'.symm
    exact ownsRow_setCell_other (ownsRow_setCell_other (ownsRow_setCell_other ho' hne _) hne _) hne _
  · rw [List.mem_append, List.mem_singleton] at hq
    rcases hq with hq | rfl
    · obtain ⟨a, b, c, d⟩ := h.gone q hq
      exact ⟨a, b, hold _ _ _ c, d⟩
    · exact ⟨hk, hab, hgn, hks⟩

/-- What was told is told no more. -/
theorem Oc.fresh (h : Oc w0 w p s lv L r v u tv told) {leaf kind gen : Int} {y : GK} (hk : kind = 0 ∨ kind = 1) (hks : KS L lv leaf kind gen y) (hno : ∀ lf kd g, Gone r lf kd g → ¬ (lf = leaf ∧ kd = kind ∧ g = gen)) :
    (tks told).any (fun z => z == y.key) = false ∧ (tks told).any (fun z => z == y.nonce) = false := by
  have hn : ∀ q ∈ told, (q.x.key ≠ y.key ∧ q.x.nonce ≠ y.nonce) ∧ q.x.nonce ≠ y.key ∧ q.x.key ≠ y.nonce := fun q hq => by
    obtain ⟨a, b, c, d⟩ := h.gone q hq
    have hno' := hno _ _ _ c
    obtain ⟨g0, g1, t, h1, h2, h3⟩ := d
    obtain ⟨k0, k1, t', k2, k3, k4⟩ := hks
    have fin : t = t' → numeral q.gen = numeral gen → False := fun e1 e2 => by
      subst e1
      obtain ⟨a', b', _⟩ := CS.inj2 h.zero a hk h1 k2
      exact hno' ⟨a', b', numeral_inj g0 k0 e2⟩
    refine ⟨⟨fun e => ?_, fun e => ?_⟩, fun e => ?_, fun e => ?_⟩
    · rw [e] at h2; obtain ⟨x1, _, x3⟩ := h2.inj k3; exact fin x1 x3
    · rw [e] at h3; obtain ⟨x1, _, x3⟩ := h3.inj k4; exact fin x1 x3
    · rw [e] at h3; exact absurd (h3.inj k3).2.1 (by decide)
    · rw [e] at h2; exact absurd (h2.inj k4).2.1 (by decide)
  refine ⟨?_, ?_⟩
  · rw [List.any_eq_false]
    intro z hz e
    obtain ⟨q, hq, hqz⟩ := tks_mem hz
    have e' : z = y.key := by simpa using e
    have := hn q hq
    rcases hqz with h' | h'
    · exact this.1.1 (h'.symm.trans e')
    · exact this.2.1 (h'.symm.trans e')
  · rw [List.any_eq_false]
    intro z hz e
    obtain ⟨q, hq, hqz⟩ := tks_mem hz
    have e' : z = y.nonce := by simpa using e
    have := hn q hq
    rcases hqz with h' | h'
    · exact this.2.2 (h'.symm.trans e')
    · exact this.1.2 (h'.symm.trans e')
end

theorem oc_start {w w3 : World} {p : Nat} {lv : Int} {v : Value} (h : Ls w (fun _ => False) w3 p (atoms 3)) (hr : Ring (fun _ => False) w3 p (ring0 lv) v (.slice none 0 0)) (hlv : lv = 1 ∨ lv = 2 ∨ lv = 4 ∨ lv = 8) :
    Oc w (w3.alloc (.cells #[.int .i64 lv, v, .slice none 0 0] 32)) p w3.heap.size lv (atoms 3) (ring0 lv) v (.slice none 0 0) (.slice none 0 0) [] := by
  obtain ⟨h1, _, r1⟩ := h.more #[.int .i64 lv, v, .slice none 0 0] (T := 32) (by decide)
  have e : (fun b => False ∨ b = w3.heap.size) = Nt w3.heap.size (.slice none 0 0) := by
    funext b; simp [Nt, Value.ownBlock]
  rw [e] at h1 r1
  exact ⟨h1, ⟨r1 _ _ _ hr, heap_new _ _⟩, World.ownsRow_nil _ _ _ _, List.prefix_refl _, ri_start _ _, ru_start hlv, rfl, lpl_atoms, fun q hq => by cases hq⟩

end Go.Proofs.YtnkndplbcbehkaaGreatDoor

/-! SecretsOnce: its walk. -/
namespace Go.Proofs.YtnkndplbcbehkaaGreatDoor
open Go.RowKit Go.Cas
set_option maxHeartbeats 16000000
set_option maxRecDepth 20000

theorem sOnce_walk (w : World) (lv0 : Int) (lv_ : Value) (l : List OpR) (hE : Env (fun _ => False) w) (hl : OpsAt w lv_ l) (hw : ∀ o ∈ l, o.gen ≤ 9223372036854775807) :
    Calls Tryz.prog 3 #[.int .i64 lv0, lv_] w fun e w' => e = .returned (.bool true) ∧ Below w.heap.size w w' := by
  obtain ⟨la, lc, rfl, _, hlm, hlo⟩ := hl
  unfold maxLen at hlm
  have HE := Lib.hid hE
  have HLO := Lib.hid hlo
  have HW := Lib.hid hw
  obtain ⟨lv, hlv, hx0, hx1, hget⟩ := lv_idx lv0
  have HLV := Lib.hid hlv
  have HGET := Lib.hid hget
  clear hE hlv hget hlo hw
  by_cases hlen : l.length ≤ 12
  · go_enter Tryz.func3, Tryz.ntmps3
    go_wp2_with (first
      | (go_at_call 4; refine (live_any w HE.out).mono ?_; rintro en w1 ⟨rfl, hb1⟩; have HB1 := Lib.hid (hb1.alloc hb1.size (.cells #[.int .i64 1, .int .i64 2, .int .i64 4, .int .i64 8] 3)); clear hb1))
    simp only [HGET.out]
    generalize w1.alloc (.cells #[.int .i64 1, .int .i64 2, .int .i64 4, .int .i64 8] 3) = w1' at HB1 ⊢
    go_wp2_with (first
      | (go_at_call 5; refine (two_any w1' (HE.out.below HB1.out)).mono ?_; rintro en w2 ⟨p, q, rfl, hb2, ha2, hf2⟩; have LS2 := Lib.hid (ls_start HE.out (HB1.out.trans (hb2.mono HB1.out.size)) ha2 (fun b hb => Nat.le_trans HB1.out.size (hf2 b hb))); clear hb2 ha2 hf2)
      | (go_at_call 6; refine (sNew_any p _ (atoms 3) w2 lv 0 LS2.out.ar (full4 HLV.out) (by decide) (by decide)).mono ?_; rintro en w3 ⟨v, rfl, hb3, hv3⟩; obtain ⟨va, vc, hv, _⟩ := hv3.form; subst hv; have RN3 := Lib.hid (ring_new LS2.out hb3 hv3); have LS3 := Lib.hid (LS2.out.bl hb3).1; clear hb3 hv3))
    have OC := Lib.hid (oc_start LS3.out RN3.out HLV.out)
    have BD := Lib.hid (bd_start HLV.out)
    clear LS3 RN3 LS2 HGET
    generalize w3.alloc (.cells #[.int .i64 lv, .slice va 1 vc, .slice none 0 0] 32) = W0 at OC ⊢
    generalize w3.heap.size = s at OC ⊢
    go_loopw [10, 48] (fun tvv i wr => ∃ (k : Nat) (L : List Nd) (r : Kr) (v u : Value) (told : List Td), k ≤ l.length ∧ i = .int .i64 k ∧ Hid (Oc w wr p s lv L r v u tvv told) ∧ Hid (Bd k r) ∧ Hid (told.length ≤ k)) (fun _ i _ => l.length - (intOf i).toNat)
    case atStart => exact ⟨0, _, _, _, _, _, Nat.zero_le _, rfl, OC, BD, Lib.hid (Nat.le_refl _)⟩
    case round =>
      clear OC BD
      obtain ⟨k, L, r, v1, u1, told, hk, rfl, OC, BD, HTL⟩ := hrel
      obtain ⟨ta, tc, rfl⟩ := own_sl OC.out.own
      obtain ⟨v1a, v1c, hv1, _⟩ := OC.out.one.ring.1.form
      subst hv1
      obtain ⟨u1a, u1c, hu1, _⟩ := OC.out.one.ring.2.form
      subst hu1
      by_cases hlt : k < l.length
      · obtain ⟨b, off, rfl, hi⟩ := HLO.out (by omega)
        obtain ⟨x, hx⟩ : ∃ x, l[k]? = some x := ⟨_, List.getElem?_eq_getElem hlt⟩
        have hi' := hi k x hx
        have hi2 := fun j u hj => cell_bl OC.out.ls.below (hi' j u hj)
        have hc0 : wr.cell? ⟨b, off + k * 4, none⟩ = some _ := (by have := hi2 0 _ rfl; rw [← Nat.add_assoc] at this; exact this)
        have hc1 : wr.cell? ⟨b, off + k * 4 + 1, none⟩ = some _ := (by have := hi2 1 _ rfl; rw [← Nat.add_assoc] at this; exact this)
        have hc2 : wr.cell? ⟨b, off + k * 4 + 2, none⟩ = some _ := (by have := hi2 2 _ rfl; rw [← Nat.add_assoc] at this; exact this)
        have hc3 : wr.cell? ⟨b, off + k * 4 + 3, none⟩ = some _ := (by have := hi2 3 _ rfl; rw [← Nat.add_assoc] at this; exact this)
        have hgen := HW.out x (List.mem_of_getElem? hx)
        clear hi hi' hi2 hx
        have hbW : Below wr.heap.size wr (wr.alloc (.cells #[.int .i64 x.leaf, .int .i64 x.kind, .int .i64 x.gen, .bool x.next] 37)) := (Below.refl _ _).alloc (Nat.le_refl _) _
        obtain ⟨hpre, hok⟩ := keyR_spec L r x.leaf x.kind x.gen OC.out.ri
        have hring := keyR_ring (L := L) (leaf := x.leaf) (kind := x.kind) (gen := x.gen) OC.out.ru
        have hpl := OC.out.pl.key r x.leaf x.kind x.gen
        have hbd := fun h => keyR_bd (L := L) (leaf := x.leaf) (kind := x.kind) (gen := x.gen) BD.out h
        have hky := key_law x.leaf x.kind x.gen OC.out.ls OC.out.one.ring (BD.out.rg (by omega)) hbW hgen
        have hbx := heap_new wr (.cells #[.int .i64 x.leaf, .int .i64 x.kind, .int .i64 x.gen, .bool x.next] 37)
        have ocW := OC.out.bl hbW
        have nbx : ¬ Nt s (.slice ta (tks told).length tc) wr.heap.size := fun h => by obtain ⟨_, _, h1, _⟩ := OC.out.ls.nw.typed _ h; have := heap_lt h1; omega
        have hsB := heap_lt OC.out.one.at_
        obtain ⟨b0, b1, b2⟩ := row3_cells ocW.one.at_
        have OCW := Lib.hid ocW
        generalize keyR L r x.leaf x.kind x.gen = a at hpre hok hring hpl hbd hky
        obtain ⟨y, r', ea, La⟩ := a
        dsimp only at hpre hok hring hpl hbd hky
        have HKY := Lib.hid hky
        have HPRE := Lib.hid hpre
        have HPL := Lib.hid hpl
        have HBX := Lib.hid hbx
        have NBX := Lib.hid nbx
        have HSB := Lib.hid hsB
        clear hky hpre hbx nbx hsB hbW ocW hgen hpl
        by_cases h0 : ea = 0
        · subst h0
          obtain ⟨hkd, hks, hri⟩ := hok rfl
          obtain ⟨⟨hl0, hl1, _⟩, hlv2, hru, hgn, hold⟩ := hring rfl
          rw [OC.out.lvs] at hl1
          have hab := root_above HLV.out hl0 hl1
          have hyg : (y.gen != x.gen) = false := by simpa using hks.2.1
          have HKS := Lib.hid hks
          have HKD := Lib.hid hkd
          have HRI := Lib.hid hri
          have HRU := Lib.hid hru
          have HGN := Lib.hid hgn
          have HOLD := Lib.hid hold
          have HAB := Lib.hid hab
          have HLV2 := Lib.hid (hlv2.trans OC.out.lvs)
          have HBD := Lib.hid (hbd rfl)
          have OCW7F := Lib.hid (fun (W : World) (h : Oc w W p s lv La r (.slice v1a r.nodes.length v1c) (.slice u1a r.chains.length u1c) (.slice ta (tks told).length tc) told) => h.fresh hkd hks (fun lf kd g hg => (hold lf kd g hg).2))
          clear hok hring hks hkd hri hru hgn hold hab hlv2 hbd hl0 hl1
          go_wp2_with (first
            | (go_at_call 7; refine HKY.out.mono ?_; rintro en w6 ⟨v6, u6, rfl, ls6, rn6, lsW, kl6, nk6, _⟩; obtain ⟨v6a, v6c, hv6, _⟩ := rn6.1.form; subst hv6; obtain ⟨u6a, u6c, hu6, _⟩ := rn6.2.form; subst hu6; have hb6 := two_new (w := w6) (T := 39) (U := 32) (cs := #[.int .i64 y.gen, .int .i64 y.key, .int .i64 y.nonce]) (ds := #[.int .i64 r'.leaves, .slice v6a r'.nodes.length v6c, .slice u6a r'.chains.length u6c]); have OC7 := Lib.hid ((OCW.out.key ls6 kl6 nk6 HPRE.out HPL.out).bl hb6.1); have RN7 := Lib.hid (rn6.kl (ls6.bl hb6.1).2); obtain ⟨p0, p1, p2, p3⟩ := row4_cells (heap_bl hb6.1 (lsW.keepc kl6 HBX.out (by decide) (by decide) NBX.out)); have HKB := Lib.hid hb6.2.2; obtain ⟨f1, f2⟩ := OCW7F.out _ OC7.out; have hz6 := kl6.base.2.2.2; rw [al_size] at hz6; have n1 : s ≠ w6.heap.size + 1 := (by have h1 := HSB.out; omega); have n2 : s ≠ w6.heap.size := (by have h1 := HSB.out; omega); have n3 : w6.heap.size + 1 ≠ s := (by omega); have hsl := SlRep.of_ints (K := fun _ => True) (SlR.of_own OC7.out.own (fun _ _ => trivial)); have HI := Lib.hid (fun n => rIn_any _ _ _ n _ hsl); have FI1 := Lib.hid f1; have FI2 := Lib.hid f2; have hb8 := (Below.refl ((w6.alloc (.cells #[.int .i64 y.gen, .int .i64 y.key, .int .i64 y.nonce] 39)).alloc (.cells #[.int .i64 r'.leaves, .slice v6a r'.nodes.length v6c, .slice u6a r'.chains.length u6c] 32)).heap.size ((w6.alloc (.cells #[.int .i64 y.gen, .int .i64 y.key, .int .i64 y.nonce] 39)).alloc (.cells #[.int .i64 r'.leaves, .slice v6a r'.nodes.length v6c, .slice u6a r'.chains.length u6c] 32))).alloc (Nat.le_refl _) (.cells #[.int .i64 y.key, .int .i64 y.nonce] 3); have OC8 := Lib.hid (OC7.out.bl hb8); have RN8 := Lib.hid (RN7.out.kl (OC7.out.ls.bl hb8).2); have hle := heap_new ((w6.alloc (.cells #[.int .i64 y.gen, .int .i64 y.key, .int .i64 y.nonce] 39)).alloc (.cells #[.int .i64 r'.leaves, .slice v6a r'.nodes.length v6c, .slice u6a r'.chains.length u6c] 32)) (.cells #[.int .i64 y.key, .int .i64 y.nonce] 3); simp only [al_size] at hle; have HLE := Lib.hid hle; have HKB8 := Lib.hid (heap_bl hb8 HKB.out); clear ls6 rn6 lsW kl6 nk6 hb6 f1 f2 hsl hb8 hle hz6)
            | (go_at_call 8; refine (HI.out _).mono ?_; rintro e w' ⟨rfl, rfl⟩; first | rw [FI1.out] | rw [FI2.out])
            | (at_builtin; refine wpList_append_sl rfl _ _ 24 rfl el_ints5 w.heap.size (.slice ta (tks told).length tc) (tks told).length _ rfl OC8.out.own (K := fun _ => True) (.slice (some ⟨w6.heap.size + 1 + 1, 0, none⟩) 2 2) 2 [.int .i64 y.key, .int .i64 y.nonce] rfl (SlR.block (cs := #[.int .i64 y.key, .int .i64 y.nonce]) HLE.out 1 2 rfl (by decide)) (by simp [Value.oneCell']) (by have := HTL.out; rw [tks_len]; omega) (by have := HTL.out; rw [tks_len]; unfold maxLen; omega) OC8.out.ls.below.size ?_; intro v9 w9 ho9 hg9 _ hb9; obtain ⟨z0, z1, z2⟩ := row3_cells (heap_grown hg9 HKB8.out (own_ne OC8.out.own HKB8.out (by decide))); have hs9 := heap_grown hg9 OC8.out.one.at_ OC8.out.sne; obtain ⟨s0, s1, s2⟩ := row3_cells hs9; have g0 := frozen_of_row _ _ 0 _ _ hs9; have g1 := frozen_of_row _ _ 1 _ _ hs9; have g2 := frozen_of_row _ _ 2 _ _ hs9; have OC9 := Lib.hid (OC8.out.tell ho9 hg9 hb9 RN8.out HRI.out HRU.out HLV2.out HKD.out HAB.out HGN.out (fun lf kd g h => (HOLD.out lf kd g h).1) HKS.out); obtain ⟨v9a, v9c, hv9⟩ := own_sl ho9; subst hv9; clear ho9 hg9 hb9 hs9))
          go_round
          case rel => exact ⟨k + 1, _, _, _, _, _, by omega, by go_num, OC9, HBD, Lib.hid (by have := HTL.out; simp; omega)⟩
          case measure => simp [intOf]; omega
        · have d0 : (ea != 0) = true := by simpa using h0
          clear hok hring hbd h0
          go_wp2_with (first
            | (go_at_call 7; refine HKY.out.mono ?_; rintro en w6 ⟨v6, u6, rfl, ls6, rn6, lsW, kl6, nk6, _⟩; obtain ⟨v6a, v6c, hv6, _⟩ := rn6.1.form; subst hv6; obtain ⟨u6a, u6c, hu6, _⟩ := rn6.2.form; subst hu6; have hb6 := two_new (w := w6) (T := 39) (U := 32) (cs := #[.int .i64 y.gen, .int .i64 y.key, .int .i64 y.nonce]) (ds := #[.int .i64 r'.leaves, .slice v6a r'.nodes.length v6c, .slice u6a r'.chains.length u6c]); have OC7 := Lib.hid ((OCW.out.key ls6 kl6 nk6 HPRE.out HPL.out).bl hb6.1); clear ls6 rn6 lsW kl6 nk6 hb6))
          go_round
          case rel => exact ⟨k + 1, _, _, _, _, _, by omega, by go_num, OC7, Lib.hid (BD.out.mono (Nat.le_succ _)), Lib.hid (by have := HTL.out; omega)⟩
          case measure => simp [intOf]; omega
      · obtain rfl : k = l.length := by omega
        have hBD := BD.out
        have b1 := hBD.nodes
        have b2 := hBD.chains
        have b3 := hBD.kept
        have hL0 : 0 < L.length := by obtain ⟨n, hn⟩ := OC.out.zero; have := hn.nd.2; omega
        obtain ⟨z0, z1, z2⟩ := row3_cells OC.out.one.at_
        have HHS := Lib.hid (fun W (hb : Below wr.heap.size wr W) => sHas_any (fun _ => True) (.slice v1a r.nodes.length v1c) (.slice u1a r.chains.length u1c) r W ((OC.out.one.ring.1.step (Kp.of_all hb) (fun _ _ h => h)).step (Kp.refl _ _) (fun _ _ _ => trivial)) ((OC.out.one.ring.2.step (Kp.of_all hb) (fun _ _ h => h)).step (Kp.refl _ _) (fun _ _ _ => trivial)) (by omega) (by omega) (fun c hc => by have := (b3 c hc).1; omega))
        have HKN := Lib.hid (fun W (hb : Below wr.heap.size wr W) v hl => dKnown_any p _ (fun _ => True) L v (hasR r) W (OC.out.ls.ar.below hb) hL0 hl (has_range OC.out.zero OC.out.ri OC.out.ru))
        have HDR := Lib.hid (fun W (hb : Below wr.heap.size wr W) v t hl ht => dDerives_any p _ (fun _ => True) L v (hasR r) t W (OC.out.ls.ar.below hb) hL0 hl (has_range OC.out.zero OC.out.ri OC.out.ru) ht)
        have HSL := Lib.hid (SlRep.of_ints (K := fun _ => True) (SlR.of_own OC.out.own (fun _ _ => trivial)))
        have hmx : (tks told).length ≤ 9223372036854775807 := by obtain ⟨_, _, _, _, hm, _⟩ := HSL.out.openInt; exact hm
        have hlv3 := OC.out.lvs
        rw [hlv3] at z0
        have HLV3 := Lib.hid hlv3
        clear hBD b1 b2 b3 hL0 hlv3
        go_wp2_with (first
          | (go_at_call 10; have hh := HHS.out _ (Below.refl _ _); rw [HLV3.out] at hh; refine hh.mono ?_; rintro e w5 ⟨v5, rfl, hs5⟩; clear hh; obtain ⟨v5a, v5c, hv5⟩ := own_sl hs5.own; subst hv5; have HB5 := Lib.hid hs5.below; have HKC := Lib.hid (HKN.out w5 hs5.below _ (SlRep.of_ints (SlR.of_own hs5.own (fun _ _ => trivial)))); clear hs5)
          | (go_at_call 9; refine HKC.out.mono ?_; rintro e w6 ⟨x, v6, rfl, hx6, hb6, ho6⟩; obtain ⟨v6a, v6c, hv6⟩ := own_sl ho6; subst hv6; have HB6 := Lib.hid (HB5.out.trans (hb6.mono HB5.out.size)); have HKS := Lib.hid (SlRep.of_ints (K := fun _ => True) (SlR.of_own ho6 (fun _ _ => trivial))); have HNK := Lib.hid (fun t ht => OC.out.notKnown (t := t) ht hx6); clear hx6 hb6 ho6))
        go_loopw [104] (fun i wi => ∃ j : Nat, j ≤ (tks told).length ∧ i = .int .i64 j ∧ Hid (Below w6.heap.size w6 wi)) (fun i _ => (tks told).length - (intOf i).toNat)
        case atStart => exact ⟨0, Nat.zero_le _, rfl, Lib.hid (Below.refl _ _)⟩
        case round =>
          clear z0 z1 z2
          obtain ⟨j, hj, rfl, HBJ⟩ := hrel
          have hbJ := HB6.out.trans (HBJ.out.mono HB6.out.size)
          have HBW := Lib.hid hbJ
          obtain ⟨z0, z1, z2⟩ := row3_cells (heap_bl hbJ OC.out.one.at_)
          rw [HLV3.out] at z0
          clear hbJ
          by_cases hjt : j < (tks told).length
          · obtain ⟨tb, to, rfl, hi⟩ := SlRep.get (HSL.out.step (Kp.of_all HBW.out) (fun _ _ h => h)) (by omega)
            obtain ⟨t, ht⟩ : ∃ t, (tks told)[j]? = some t := ⟨_, List.getElem?_eq_getElem hjt⟩
            have hcell := hi j t ht
            have htm := List.mem_of_getElem? ht
            have hsf := OC.out.safe htm
            have hIN := rIn_any (fun _ => True) _ _ t _ (HKS.out.step (Kp.of_all HBJ.out) (fun _ _ h => h))
            rw [HNK.out t htm] at hIN
            have HIN := Lib.hid hIN
            have HSF := Lib.hid hsf.2
            have HTM := Lib.hid htm
            clear hi ht htm hsf hIN
            go_wp2_with (first
              | (go_at_call 8; refine HIN.out.mono ?_; rintro e w' ⟨rfl, rfl⟩)
              | (go_at_call 10; have hh := HHS.out _ HBW.out; rw [HLV3.out] at hh; refine hh.mono ?_; rintro e w7 ⟨v7, rfl, hs7⟩; clear hh; obtain ⟨v7a, v7c, hv7⟩ := own_sl hs7.own; subst hv7; have HB7 := Lib.hid hs7.below; have HDC := Lib.hid (HDR.out w7 (HBW.out.trans (hs7.below.mono HBW.out.size)) _ t (SlRep.of_ints (SlR.of_own hs7.own (fun _ _ => trivial))) HSF.out); clear hs7)
              | (go_at_call 11; refine HDC.out.mono ?_; rintro e w8 ⟨x8, rfl, hx8, hb8⟩; rw [OC.out.notHas HTM.out hx8]; have HB8 := Lib.hid (HBJ.out.trans ((HB7.out.trans (hb8.mono HB7.out.size)).mono HBJ.out.size)); clear hx8 hb8))
            go_round
            case rel => exact ⟨j + 1, by omega, by go_num, HB8⟩
            case measure => simp [intOf]; omega
          · obtain rfl : j = (tks told).length := by omega
            go_wp2_with fail
            go_ret
            exact ⟨rfl, OC.out.ls.below.trans (HBW.out.mono OC.out.ls.below.size)⟩
  · go_enter Tryz.func3, Tryz.ntmps3
    go_wp2_with (first
      | (go_at_call 4; refine (live_any w HE.out).mono ?_; rintro en w1 ⟨rfl, hb1⟩; have HB1 := Lib.hid hb1; clear hb1))
    go_ret
    exact ⟨rfl, HB1.out⟩
end Go.Proofs.YtnkndplbcbehkaaGreatDoor
