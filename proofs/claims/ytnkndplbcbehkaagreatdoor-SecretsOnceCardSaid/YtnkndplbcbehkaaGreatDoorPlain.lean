/-
  Layer 3 (term), plain: nodes, which may be made, their texts, that a text tells its node; what an arena's map holds.
-/
import Derived.Maps.OwnSet
import Derived.Lib.ItoaNum
import Derived.Lib.ItoaMem
set_option linter.unusedVariables false
set_option linter.unusedSimpArgs false
namespace Go.Proofs.YtnkndplbcbehkaaGreatDoor

/-- A term's node. -/
structure Nd where
  op : Int
  n : Int
  s : ByteArray
  l : List Int
  deriving DecidableEq

/-- 'has' is this test. -/
def hasB (n : Nat) (t : Int) : Bool := decide (0 ≤ t) && decide (t < n)

/-- How many parts. -/
def arityF (op : Int) : Int :=
  if op = 1 ∨ op = 2 then 0 else if op = 3 then -1 else if op = 4 ∨ op = 7 then 1 else if op = 5 ∨ op = 10 ∨ op = 11 ∨ op = 12 then 2
  else if op = 6 then 3 else if op = 8 ∨ op = 9 then 4 else -2

/-- Which nodes may be made. -/
def mayB (L : List Nd) (x : Nd) : Bool :=
  bif (arityF x.op == -2) then false else bif (decide (0 ≤ arityF x.op) && ((x.l.length : Int) != arityF x.op)) then false
  else bif decide ((64 : Int) < (x.l.length : Int)) then false else bif decide (x.n < 0) then false else bif decide ((200 : Int) < (x.s.size : Int)) then false
  else bif ((x.op != 1) && (x.n != 0)) then false else bif ((x.op != 2) && (!x.s.toList.isEmpty)) then false
  else bif x.l.any (fun t => !hasB L.length t) then false
  else bif (x.op != 6) then true else (match x.l[1]? with | some t => (match L[t.toNat]? with | some y => (y.op == 2) | none => false) | none => false)

/-- A number behind a blank. -/
def spaced (x : Int) : List UInt8 := 32 :: Lib.itoa x

/-- A node's text. -/
def nkey (x : Nd) : List UInt8 := (Lib.itoa x.op ++ (x.n :: x.l).flatMap spaced) ++ 124 :: x.s.data.toList

/-- The document's text of a node, in the reference. -/
def rkey (x : Nd) : List UInt8 := (((((Lib.itoa x.op ++ [32]) ++ Lib.itoa x.n) ++ [32]) ++ Lib.itoa (x.s.size : Int)) ++ [32]) ++ x.s.data.toList ++ x.l.flatMap spaced

/-- The numbers in a node are such as have a text without a sign. -/
structure Good (x : Nd) : Prop where
  op : 1 ≤ x.op ∧ x.op ≤ 12
  n : 0 ≤ x.n ∧ x.n ≤ 9223372036854775807
  len : x.l.length ≤ 64
  s : x.s.size ≤ 200
  l : ∀ y ∈ x.l, 0 ≤ y ∧ y < 100000

theorem arityF_range (op : Int) (h : arityF op ≠ -2) : 1 ≤ op ∧ op ≤ 12 := by
  unfold arityF at h
  by_cases h1 : 1 ≤ op ∧ op ≤ 12
  · exact h1
  · exfalso; apply h; repeat rw [if_neg (by omega)]

theorem mayB_good {L : List Nd} {x : Nd} (h : mayB L x = true) (hn : x.n ≤ 9223372036854775807) (hL : L.length ≤ 100000) : Good x := by
  unfold mayB at h
  simp only [cond_eq_ite] at h
  by_cases t1 : (arityF x.op == -2) = true
  · simp [t1] at h
  rw [if_neg t1] at h
  by_cases t2 : (decide (0 ≤ arityF x.op) && ((x.l.length : Int) != arityF x.op)) = true
  · rw [if_pos t2] at h; cases h
  rw [if_neg t2] at h
  by_cases t3 : decide ((64 : Int) < (x.l.length : Int)) = true
  · rw [if_pos t3] at h; cases h
  rw [if_neg t3] at h
  by_cases t4 : decide (x.n < 0) = true
  · rw [if_pos t4] at h; cases h
  rw [if_neg t4] at h
  by_cases t5 : decide ((200 : Int) < (x.s.size : Int)) = true
  · rw [if_pos t5] at h; cases h
  rw [if_neg t5] at h
  by_cases t6 : ((x.op != 1) && (x.n != 0)) = true
  · rw [if_pos t6] at h; cases h
  rw [if_neg t6] at h
  by_cases t7 : ((x.op != 2) && (!x.s.toList.isEmpty)) = true
  · rw [if_pos t7] at h; cases h
  rw [if_neg t7] at h
  by_cases t8 : (x.l.any fun t => !hasB L.length t) = true
  · rw [if_pos t8] at h; cases h
  simp only [decide_eq_true_eq] at t3 t4 t5
  refine ⟨arityF_range _ (by simpa using t1), ⟨by omega, hn⟩, by omega, by omega, fun y hy => ?_⟩
  have := List.any_eq_false.1 (by simpa using t8 : (x.l.any fun t => !hasB L.length t) = false) y hy
  simp [hasB] at this
  omega

/-- From the front on. -/
theorem snocInd {α : Type} {p : List α → Prop} (h0 : p []) (h1 : ∀ l x, p l → p (l ++ [x])) (l : List α) : p l := by
  have : ∀ m : List α, p m.reverse := by
    intro m
    induction m with
    | nil => exact h0
    | cons x m ih => rw [List.reverse_cons]; exact h1 _ _ ih
  simpa using this l.reverse

/-! ### Digits -/
def digVal (l : List UInt8) : Nat := l.foldl (fun a c => a * 10 + (c.toNat - 48)) 0

theorem digVal_snoc (l : List UInt8) (c : UInt8) : digVal (l ++ [c]) = digVal l * 10 + (c.toNat - 48) := by simp [digVal, List.foldl_append]

theorem dig_toNat (d : Nat) (h : d < 10) : (UInt8.ofNat (48 + d)).toNat = 48 + d := by
  rw [UInt8.toNat_ofNat']; omega

theorem decDigits_val (u : Nat) : digVal (Lib.decDigits u) = u ∧ ∀ c ∈ Lib.decDigits u, 48 ≤ c.toNat ∧ c.toNat ≤ 57 := by
  induction u using Nat.strongRecOn with
  | _ u ih =>
    rw [Lib.decDigits]
    by_cases h : u < 10
    · rw [dif_pos h]
      refine ⟨by simp only [digVal, List.foldl_cons, List.foldl_nil, dig_toNat u h]; omega, fun c hc => ?_⟩
      rw [List.mem_singleton.1 hc, dig_toNat u h]; omega
    · rw [dif_neg h]
      have := ih (u / 10) (by omega)
      have hd : u % 10 < 10 := Nat.mod_lt _ (by decide)
      refine ⟨by rw [digVal_snoc, this.1, dig_toNat _ hd]; omega, fun c hc => ?_⟩
      rcases List.mem_append.1 hc with h' | h'
      · exact this.2 c h'
      · rw [List.mem_singleton.1 h', dig_toNat _ hd]; omega

/-- No sign: digits alone. -/
def Dig (l : List UInt8) : Prop := ∀ c ∈ l, 48 ≤ c.toNat ∧ c.toNat ≤ 57

theorem itoa_dig {n : Int} (h : 0 ≤ n) : Dig (Lib.itoa n) := by
  obtain ⟨u, rfl⟩ := Int.eq_ofNat_of_zero_le h
  rw [Lib.itoa_nonneg]; exact (decDigits_val u).2

theorem itoa_inj {n m : Int} (hn : 0 ≤ n) (hm : 0 ≤ m) (h : Lib.itoa n = Lib.itoa m) : n = m := by
  obtain ⟨u, rfl⟩ := Int.eq_ofNat_of_zero_le hn
  obtain ⟨v, rfl⟩ := Int.eq_ofNat_of_zero_le hm
  rw [Lib.itoa_nonneg, Lib.itoa_nonneg] at h
  rw [← (decDigits_val u).1, h, (decDigits_val v).1]

theorem dig_split : ∀ {a b : List UInt8} {c d : UInt8} {r q : List UInt8}, Dig a → Dig b → ¬ (48 ≤ c.toNat ∧ c.toNat ≤ 57) → ¬ (48 ≤ d.toNat ∧ d.toNat ≤ 57) → a ++ c :: r = b ++ d :: q → a = b ∧ c = d ∧ r = q
  | [], [], _, _, _, _, _, _, _, _, h => by simp at h; exact ⟨rfl, h⟩
  | [], y :: b, c, _, _, _, _, hb, hc, _, h => by
    simp at h; exact absurd (h.1 ▸ hb y (by simp)) hc
  | x :: a, [], _, d, _, _, ha, _, _, hd, h => by
    simp at h; exact absurd (h.1 ▸ ha x (by simp)) hd
  | x :: a, y :: b, _, _, _, _, ha, hb, hc, hd, h => by
    simp only [List.cons_append, List.cons.injEq] at h
    obtain ⟨h1, h2⟩ := h
    obtain ⟨h3, h4⟩ := dig_split (fun c hc => ha c (by simp [hc])) (fun c hc => hb c (by simp [hc])) hc hd h2
    exact ⟨by rw [h1, h3], h4⟩

theorem itoa_split {n m : Int} (hn : 0 ≤ n) (hm : 0 ≤ m) {c d : UInt8} {r q : List UInt8} (hc : ¬ (48 ≤ c.toNat ∧ c.toNat ≤ 57)) (hd : ¬ (48 ≤ d.toNat ∧ d.toNat ≤ 57))
    (h : Lib.itoa n ++ c :: r = Lib.itoa m ++ d :: q) : n = m ∧ c = d ∧ r = q := by
  obtain ⟨h1, h2⟩ := dig_split (itoa_dig hn) (itoa_dig hm) hc hd h
  exact ⟨itoa_inj hn hm h1, h2⟩

/-- Numbers behind blanks, up to a bar. -/
theorem spaced_inj : ∀ {a b : List Int} {r q : List UInt8}, (∀ y ∈ a, 0 ≤ y) → (∀ y ∈ b, 0 ≤ y) → a.flatMap spaced ++ 124 :: r = b.flatMap spaced ++ 124 :: q → a = b ∧ r = q
  | [], [], _, _, _, _, h => by simpa using h
  | [], y :: b, _, _, _, _, h => by simp [spaced] at h
  | x :: a, [], _, _, _, _, h => by simp [spaced] at h
  | x :: a, y :: b, r, q, ha, hb, h => by
    simp only [List.flatMap_cons, spaced, List.cons_append, List.append_assoc, List.cons.injEq, true_and] at h
    have hx := ha x (by simp)
    have hy := hb y (by simp)
    -- what stands behind the number begins with a blank or a bar
    have key : ∀ (l : List Int) (s : List UInt8), ∃ c t, l.flatMap spaced ++ 124 :: s = c :: t ∧ ¬ (48 ≤ c.toNat ∧ c.toNat ≤ 57) := by
      intro l s
      cases l with
      | nil => exact ⟨124, s, rfl, by decide⟩
      | cons z l => exact ⟨32, Lib.itoa z ++ (l.flatMap spaced ++ 124 :: s), by simp [spaced], by decide⟩
    obtain ⟨c, t, h1, hc⟩ := key a r
    obtain ⟨d, u, h2, hd⟩ := key b q
    have h' := h
    rw [h1, h2] at h'
    obtain ⟨h3, h4, h5⟩ := itoa_split hx hy hc hd h'
    have h6 : a.flatMap spaced ++ 124 :: r = b.flatMap spaced ++ 124 :: q := by rw [h1, h2, h4, h5]
    obtain ⟨h7, h8⟩ := spaced_inj (fun z hz => ha z (by simp [hz])) (fun z hz => hb z (by simp [hz])) h6
    exact ⟨by rw [h3, h7], h8⟩

theorem bytes_ext {a b : ByteArray} (h : a.data.toList = b.data.toList) : a = b := ByteArray.ext (Array.ext' h)

theorem nkey_inj {x y : Nd} (hx : Good x) (hy : Good y) (h : nkey x = nkey y) : x = y := by
  obtain ⟨o, n, s, l⟩ := x
  obtain ⟨o', n', s', l'⟩ := y
  have a1 := hx.op; have a2 := hx.n; have a5 := hx.l
  have b1 := hy.op; have b2 := hy.n; have b5 := hy.l
  dsimp only at a1 a2 a5 b1 b2 b5
  unfold nkey at h
  simp only [List.flatMap_cons, List.append_assoc] at h
  have e1 : Lib.itoa o ++ 32 :: (Lib.itoa n ++ (l.flatMap spaced ++ 124 :: s.data.toList)) = Lib.itoa o' ++ 32 :: (Lib.itoa n' ++ (l'.flatMap spaced ++ 124 :: s'.data.toList)) := by simpa [spaced] using h
  obtain ⟨rfl, _, e2⟩ := itoa_split (by omega) (by omega) (by decide) (by decide) e1
  have e3 : ([n] ++ l).flatMap spaced ++ 124 :: s.data.toList = ([n'] ++ l').flatMap spaced ++ 124 :: s'.data.toList := by simp only [List.cons_append, List.nil_append, List.flatMap_cons, List.append_assoc]; simp only [spaced, List.cons_append]; exact congrArg (List.cons 32) e2
  obtain ⟨h1, h2⟩ := spaced_inj (fun z hz => by
    rcases List.mem_cons.1 hz with h | h
    · rw [h]; omega
    · exact (a5 z h).1) (fun z hz => by
    rcases List.mem_cons.1 hz with h | h
    · rw [h]; omega
    · exact (b5 z h).1) e3
  simp only [List.singleton_append, List.cons.injEq] at h1
  obtain ⟨rfl, rfl⟩ := h1
  rw [bytes_ext h2]

theorem rkey_inj {x y : Nd} (hx : Good x) (hy : Good y) (h : rkey x = rkey y) : x = y := by
  obtain ⟨o, n, s, l⟩ := x
  obtain ⟨o', n', s', l'⟩ := y
  have a1 := hx.op; have a2 := hx.n; have a5 := hx.l
  have b1 := hy.op; have b2 := hy.n; have b5 := hy.l
  dsimp only at a1 a2 a5 b1 b2 b5
  unfold rkey at h
  simp only [List.append_assoc, List.singleton_append] at h
  obtain ⟨rfl, _, h⟩ := itoa_split (by omega) (by omega) (by decide) (by decide) h
  obtain ⟨rfl, _, h⟩ := itoa_split (by omega) (by omega) (by decide) (by decide) h
  obtain ⟨h1, _, h⟩ := itoa_split (by simp) (by simp) (by decide) (by decide) h
  have h2 : s.data.toList.length = s'.data.toList.length := by
    have : s.size = s'.size := by omega
    rw [ByteArray.size, ByteArray.size] at this
    simpa using this
  obtain ⟨h3, h4⟩ := List.append_inj h h2
  obtain ⟨rfl, _⟩ := spaced_inj (a := l) (b := l') (r := []) (q := []) (fun z hz => (a5 z hz).1) (fun z hz => (b5 z hz).1) (by rw [h4])
  rw [bytes_ext h3]

/-! ### What an arena is, and what 'Make' makes of it -/
/-- Each node may be made of those before it, and stands once. -/
def Wf (L : List Nd) : Prop := L.Nodup ∧ ∀ i x, L[i]? = some x → mayB (L.take i) x = true ∧ x.n ≤ 9223372036854775807

theorem Wf.nil : Wf [] := ⟨List.Pairwise.nil, fun i x h => by simp at h⟩

theorem Wf.good {L : List Nd} (h : Wf L) (hL : L.length ≤ 100000) {x : Nd} (hx : x ∈ L) : Good x := by
  obtain ⟨i, hi, rfl⟩ := List.getElem_of_mem hx
  obtain ⟨h1, h2⟩ := h.2 i _ (List.getElem?_eq_getElem hi)
  exact mayB_good h1 h2 (by simp; omega)

theorem Wf.snoc {L : List Nd} (h : Wf L) {x : Nd} (hx : x ∉ L) (hm : mayB L x = true) (hn : x.n ≤ 9223372036854775807) : Wf (L ++ [x]) := by
  refine ⟨List.nodup_append.2 ⟨h.1, by simp, fun a ha b hb e => hx (by rw [List.mem_singleton.1 hb] at e; rw [← e]; exact ha)⟩, fun i y hy => ?_⟩
  rcases Nat.lt_or_ge i L.length with hi | hi
  · rw [List.getElem?_append_left hi] at hy
    have := h.2 i y hy
    rwa [List.take_append_of_le_length (by omega)]
  · rw [List.getElem?_append_right hi] at hy
    have : i - L.length = 0 := by
      rcases Nat.eq_zero_or_pos (i - L.length) with h | h
      · exact h
      · rw [List.getElem?_eq_none (by simp; omega)] at hy; cases hy
    rw [this] at hy
    simp at hy
    subst hy
    have : i = L.length := by omega
    subst this
    rw [List.take_left]
    exact ⟨hm, hn⟩

/-- The map's datum of an arena: each node's text, and its number. -/
def keyMap (key : Nd → List UInt8) (L : List Nd) : DataW Unit :=
  (L.zipIdx).foldl (fun D x => D.put (.string (key x.1)) (.lit (.int .i64 x.2))) (.map [])

theorem keyMap_snoc (key : Nd → List UInt8) (L : List Nd) (x : Nd) : keyMap key (L ++ [x]) = (keyMap key L).put (.string (key x)) (.lit (.int .i64 L.length)) := by
  simp [keyMap, List.zipIdx_append]

theorem keyMap_isMap (key : Nd → List UInt8) (L : List Nd) : Maps.IsMap (keyMap key L) := by
  refine snocInd (p := fun L => Maps.IsMap (keyMap key L)) Maps.isMap_empty (fun L x ih => ?_) L
  rw [keyMap_snoc]; exact ih.put _ _

theorem isKey_string (l : List UInt8) : WideAt.IsKeyLit (.string l) := by simp [WideAt.IsKeyLit]

/-- What the map says of a node. -/
theorem keyMap_look (key : Nd → List UInt8) (hk : ∀ x y, Good x → Good y → key x = key y → x = y) (x : Nd) (hx : Good x) :
    ∀ (L : List Nd), L.Nodup → (∀ y ∈ L, Good y) →
      (x ∉ L → Maps.has (keyMap key L) (.string (key x)) = false) ∧
      (∀ i : Nat, L[i]? = some x → Maps.has (keyMap key L) (.string (key x)) = true ∧ ∀ z, (keyMap key L).atKey (.string (key x)) z = .lit (.int .i64 i)) := by
  refine snocInd ?_ fun L y ih => ?_
  · intro _ _; exact ⟨fun _ => rfl, fun i h => by simp at h⟩
  · intro hn hg
    obtain ⟨hn1, _, hn2⟩ := List.nodup_append.1 hn
    obtain ⟨i1, i2⟩ := ih hn1 (fun z hz => hg z (by simp [hz]))
    rw [keyMap_snoc]
    by_cases e : x = y
    · subst e
      refine ⟨fun h => absurd (by simp) h, fun i hi => ?_⟩
      have hi' : i = L.length := by
        rcases Nat.lt_or_ge i L.length with h | h
        · rw [List.getElem?_append_left h] at hi
          exact absurd rfl (hn2 x (List.mem_of_getElem? hi) x (by simp))
        · have : i < (L ++ [x]).length := by
            rcases Nat.lt_or_ge i (L ++ [x]).length with h' | h'
            · exact h'
            · rw [List.getElem?_eq_none h'] at hi; cases hi
          simp at this; omega
      subst hi'
      exact ⟨Maps.has_put_same (keyMap_isMap key L) (isKey_string _) _, fun z => Maps.atKey_put_same (keyMap_isMap key L) (isKey_string _) _ z⟩
    · have hne : (Lit.string (key x)) ≠ (Lit.string (key y)) := by
        intro h
        simp only [Lit.string.injEq] at h
        exact e (hk x y hx (hg y (by simp)) h)
      refine ⟨fun h => ?_, fun i hi => ?_⟩
      · rw [Maps.has_put_other hne]
        exact i1 (fun h' => h (by simp [h']))
      · have hi' : L[i]? = some x := by
          rcases Nat.lt_or_ge i L.length with h | h
          · rwa [List.getElem?_append_left h] at hi
          · rw [List.getElem?_append_right h] at hi
            rcases Nat.eq_zero_or_pos (i - L.length) with h' | h'
            · rw [h'] at hi; simp at hi; exact absurd hi.symm e
            · rw [List.getElem?_eq_none (by simp; omega)] at hi; cases hi
        obtain ⟨h1, h2⟩ := i2 i hi'
        exact ⟨by rw [Maps.has_put_other hne]; exact h1, fun z => by rw [Maps.atKey_put_other hne]; exact h2 z⟩

/-- 'Make': the term's number, an error, and what the arena then is. -/
def makeR (L : List Nd) (x : Nd) : Int × Int × List Nd :=
  if mayB L x = true then
    (match L.idxOf? x with
      | some i => ((i : Int), 0, L)
      | none => if 100000 ≤ L.length then (0, 2, L) else ((L.length : Int), 0, L ++ [x]))
  else (0, 1, L)
end Go.Proofs.YtnkndplbcbehkaaGreatDoor
