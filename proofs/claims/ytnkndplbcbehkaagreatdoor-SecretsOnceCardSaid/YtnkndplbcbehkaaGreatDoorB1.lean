/-
  Layer 5 (deduce), plain: what the space of an arena is, and how what can be derived is found. Layer 5 (deduce): the space in memory; the walk of 'add'. Layer 5 (deduce): the walks of 'unblind', 'all'. Layer 5 (deduce): the walks of 'all', of the closures that test. Layer 5 (deduce): the walk of 'apart'. Layer 5 (deduce): the walk of 'apart', the rest. Layer 5 (deduce): the walk of 'apart', of what is signed; 'apart', whole. Layer 3 (term): the walk of 'Node'.
-/
import Derived.Test.YtnkndplbcbehkaaGreatDoorPlain
import Derived.Test.YtnkndplbcbehkaaGreatDoorMake
set_option linter.unusedVariables false
set_option linter.unusedSimpArgs false

/-! Layer 5 (deduce), plain: what the space of an arena is, and how what can be derived is found. -/
namespace Go.Proofs.YtnkndplbcbehkaaGreatDoor

/-- A term's node. -/
def ndF (L : List Nd) (t : Int) : Nd := L.getD t.toNat ⟨0, 0, ⟨#[]⟩, []⟩
/-- A part of a node. -/
def ptF (n : Nd) (i : Nat) : Int := n.l.getD i 0

/-! ### In which terms one is a part, or a key -/

def useR (us : List (List Int)) (x t : Int) : List (List Int) := us.modify x.toNat (· ++ [t])

def useXR (L : List Nd) (us : List (List Int)) (n : Nd) (t : Int) : List (List Int) :=
  if n.op = 8 ∧ (ndF L (ptF n 0)).op = 7 then useR us (ptF (ndF L (ptF n 0)) 0) t
  else if n.op = 10 ∧ (ndF L (ptF n 1)).op = 12 then useR us (ptF (ndF L (ptF n 1)) 1) t
  else us

def usesStep (L : List Nd) (us : List (List Int)) (t : Int) (n : Nd) : List (List Int) := useXR L (n.l.foldl (fun us x => useR us x t) us) n t

def usesK (L : List Nd) : Nat → List (List Int)
  | 0 => List.replicate L.length []
  | k + 1 => usesStep L (usesK L k) k (ndF L k)

def usesR (L : List Nd) : List (List Int) := usesK L L.length

/-! ### What can be derived -/

structure Sp where
  inn : List Bool
  opn : List Int
deriving DecidableEq

def Sp.has (s : Sp) (t : Int) : Bool := s.inn.getD t.toNat false

def addR1 (s : Sp) (t : Int) : Sp := if s.has t = true then s else ⟨s.inn.set t.toNat true, s.opn ++ [t]⟩
def addR (s : Sp) (l : List Int) : Sp := l.foldl addR1 s

def unbR1 (L : List Nd) (sk m : Int) (s : Sp) (t : Int) : Sp := if (ndF L t).op = 10 ∧ ptF (ndF L t) 0 = sk ∧ ptF (ndF L t) 1 = m then addR s [t] else s
def unbR (L : List Nd) (sk m : Int) (s : Sp) (l : List Int) : Sp := l.foldl (unbR1 L sk m) s

def apartR (L : List Nd) (us : List (List Int)) (s : Sp) (t : Int) : Sp :=
  if (ndF L t).op = 3 then addR s (ndF L t).l
  else if (ndF L t).op = 8 then (if (ndF L (ptF (ndF L t) 0)).op = 7 ∧ s.has (ptF (ndF L (ptF (ndF L t) 0)) 0) = true then addR s [ptF (ndF L t) 1, ptF (ndF L t) 2] else s)
  else if (ndF L t).op = 9 then (if s.has (ptF (ndF L t) 0) = true then addR s ((ndF L t).l.drop 1) else s)
  else if (ndF L t).op = 10 then
    (if (ndF L (ptF (ndF L t) 1)).op = 12 ∧ (addR s [ptF (ndF L t) 1]).has (ptF (ndF L (ptF (ndF L t) 1)) 1) = true
      then unbR L (ptF (ndF L t) 0) (ptF (ndF L (ptF (ndF L t) 1)) 0) (addR s [ptF (ndF L t) 1]) (us.getD (ptF (ndF L (ptF (ndF L t) 1)) 0).toNat []) else addR s [ptF (ndF L t) 1])
  else if (ndF L t).op = 12 then (if s.has (ptF (ndF L t) 1) = true then addR s [ptF (ndF L t) 0] else s)
  else s

def useS (L : List Nd) (us : List (List Int)) (s : Sp) (u : Int) : Sp :=
  if s.has u = true then apartR L us s u else if ((ndF L u).l.all s.has) = true then addR s [u] else s

/-- One round: the last one that is open is gone through. -/
def roundR (L : List Nd) (us : List (List Int)) (s : Sp) : Sp :=
  match s.opn.getLast? with
  | none => s
  | some t => (us.getD t.toNat []).foldl (useS L us) (apartR L us ⟨s.inn, s.opn.dropLast⟩ t)

def pubR (L : List Nd) : Nat → Sp
  | 0 => ⟨List.replicate L.length false, []⟩
  | k + 1 => if (ndF L k).op ≠ 1 ∧ (ndF L k).l = [] then addR (pubR L k) [(k : Int)] else pubR L k

def startR (L : List Nd) (l : List Int) : Sp := addR (pubR L L.length) l

/-- So many rounds. -/
def roundsR (L : List Nd) (us : List (List Int)) : Nat → Sp → Sp
  | 0, s => s
  | k + 1, s => roundR L us (roundsR L us k s)

/-- What 'close' comes to. -/
def Closed (L : List Nd) (l : List Int) (s : Sp) : Prop := ∃ k, s = roundsR L (usesR L) k (startR L l) ∧ s.opn = []

/-! ### The space stays sound -/

/-- n terms; what is open is some of them, and is in. -/
structure SpOk (n : Nat) (s : Sp) : Prop where
  len : s.inn.length = n
  opn : ∀ t ∈ s.opn, 0 ≤ t ∧ t < n
  room : s.opn.length + s.inn.count false ≤ n

theorem count_set {l : List Bool} {i : Nat} (h : l[i]? = some false) : (l.set i true).count false + 1 = l.count false := by
  induction l generalizing i with
  | nil => simp at h
  | cons x l ih =>
    cases i with
    | zero => simp at h; subst h; simp
    | succ i =>
      simp only [List.getElem?_cons_succ] at h
      have := ih h
      rw [List.set_cons_succ, List.count_cons, List.count_cons]
      omega

theorem Sp.has_false {s : Sp} {n : Nat} {t : Int} (h : SpOk n s) (ht : 0 ≤ t ∧ t < n) (hf : s.has t = false) : s.inn[t.toNat]? = some false := by
  have hl : t.toNat < s.inn.length := by rw [h.len]; omega
  rw [List.getElem?_eq_getElem hl]
  unfold Sp.has at hf
  rw [List.getD_eq_getElem?_getD, List.getElem?_eq_getElem hl] at hf
  simpa using hf

theorem SpOk.add1 {n : Nat} {s : Sp} (h : SpOk n s) {t : Int} (ht : 0 ≤ t ∧ t < n) : SpOk n (addR1 s t) := by
  unfold addR1
  split
  · exact h
  · rename_i hf
    have hf' := Sp.has_false h ht (by simpa using hf)
    have := count_set hf'
    have h3 := h.room
    refine ⟨by simpa using h.len, fun x hx => ?_, ?_⟩
    · rw [List.mem_append, List.mem_singleton] at hx
      rcases hx with hx | rfl
      · exact h.opn x hx
      · exact ht
    · show (s.opn ++ [t]).length + (s.inn.set t.toNat true).count false ≤ n
      rw [List.length_append, List.length_singleton]; omega

theorem SpOk.add {n : Nat} : ∀ {l : List Int} {s : Sp}, SpOk n s → (∀ t ∈ l, 0 ≤ t ∧ t < n) → SpOk n (addR s l)
  | [], _, h, _ => h
  | t :: l, _, h, hl => SpOk.add (l := l) (h.add1 (hl t List.mem_cons_self)) (fun x hx => hl x (List.mem_cons_of_mem _ hx))

theorem addR_snoc (s : Sp) (l : List Int) (t : Int) : addR s (l ++ [t]) = addR1 (addR s l) t := by simp [addR, List.foldl_append]

/-- What makes progress: the less the nearer. -/
def Sp.mu (s : Sp) : Nat := 2 * s.inn.count false + s.opn.length

theorem mu_add1 {n : Nat} {s : Sp} (h : SpOk n s) {t : Int} (ht : 0 ≤ t ∧ t < n) : (addR1 s t).mu ≤ s.mu := by
  unfold addR1
  split
  · exact Nat.le_refl _
  · rename_i hf
    have := count_set (Sp.has_false h ht (by simpa using hf))
    show 2 * (s.inn.set t.toNat true).count false + (s.opn ++ [t]).length ≤ 2 * s.inn.count false + s.opn.length
    rw [List.length_append, List.length_singleton]; omega

theorem mu_add {n : Nat} : ∀ {l : List Int} {s : Sp}, SpOk n s → (∀ t ∈ l, 0 ≤ t ∧ t < n) → (addR s l).mu ≤ s.mu
  | [], _, _, _ => Nat.le_refl _
  | t :: l, _, h, hl => Nat.le_trans (mu_add (l := l) (h.add1 (hl t List.mem_cons_self)) (fun x hx => hl x (List.mem_cons_of_mem _ hx))) (mu_add1 h (hl t List.mem_cons_self))

/-- The arena's nodes are made of the arena's terms; each has as many parts as it must. -/
structure Mk (L : List Nd) : Prop where
  parts : ∀ n ∈ L, ∀ y ∈ n.l, 0 ≤ y ∧ y < L.length
  ar : ∀ n ∈ L, (n.op = 8 → n.l.length = 4) ∧ (n.op = 9 → n.l.length = 4) ∧ (n.op = 10 → n.l.length = 2) ∧ (n.op = 12 → n.l.length = 2) ∧ (n.op = 7 → n.l.length = 1)

theorem mayB_ar {L : List Nd} {x : Nd} (h : mayB L x = true) : (0 ≤ arityF x.op → (x.l.length : Int) = arityF x.op) ∧ ∀ y ∈ x.l, 0 ≤ y ∧ y < L.length := by
  unfold mayB at h
  simp only [cond_eq_ite] at h
  by_cases t1 : (arityF x.op == -2) = true
  · simp [t1] at h
  rw [if_neg t1] at h
  by_cases t2 : (decide (0 ≤ arityF x.op) && ((x.l.length : Int) != arityF x.op)) = true
  · rw [if_pos t2] at h; cases h
  rw [if_neg t2] at h
  by_cases t3 : decide ((64 : Int) < (x.l.length : Int)) = true
  · rw [if_pos t3] at h; cases h
  rw [if_neg t3] at h
  by_cases t4 : decide (x.n < 0) = true
  · rw [if_pos t4] at h; cases h
  rw [if_neg t4] at h
  by_cases t5 : decide ((200 : Int) < (x.s.size : Int)) = true
  · rw [if_pos t5] at h; cases h
  rw [if_neg t5] at h
  by_cases t6 : ((x.op != 1) && (x.n != 0)) = true
  · rw [if_pos t6] at h; cases h
  rw [if_neg t6] at h
  by_cases t7 : ((x.op != 2) && (!x.s.toList.isEmpty)) = true
  · rw [if_pos t7] at h; cases h
  rw [if_neg t7] at h
  by_cases t8 : (x.l.any fun t => !hasB L.length t) = true
  · rw [if_pos t8] at h; cases h
  refine ⟨fun h0 => ?_, fun y hy => ?_⟩
  · have : decide (0 ≤ arityF x.op) = true := by simpa using h0
    rw [this] at t2
    simpa using t2
  · have := List.any_eq_false.1 (by simpa using t8 : (x.l.any fun t => !hasB L.length t) = false) y hy
    simpa [hasB] using this

theorem Wf.mk {L : List Nd} (h : Wf L) : Mk L := by
  have key : ∀ n ∈ L, ∃ i, i ≤ L.length ∧ mayB (L.take i) n = true := fun n hn => by
    obtain ⟨i, hi, rfl⟩ := List.getElem_of_mem hn
    exact ⟨i, Nat.le_of_lt hi, (h.2 i _ (List.getElem?_eq_getElem hi)).1⟩
  refine ⟨fun n hn y hy => ?_, fun n hn => ?_⟩
  · obtain ⟨i, hi, hm⟩ := key n hn
    have h1 := (mayB_ar hm).2 y hy
    rw [List.length_take] at h1
    omega
  · obtain ⟨i, hi, hm⟩ := key n hn
    have h1 := (mayB_ar hm).1
    refine ⟨fun e => ?_, fun e => ?_, fun e => ?_, fun e => ?_, fun e => ?_⟩
    all_goals
      rw [e] at h1
      have h2 := h1 (by decide)
      have h3 : (n.l.length : Int) = _ := h2
      first
        | (have : arityF 8 = 4 := by decide
           omega)
        | (have : arityF 9 = 4 := by decide
           omega)
        | (have : arityF 10 = 2 := by decide
           omega)
        | (have : arityF 12 = 2 := by decide
           omega)
        | (have : arityF 7 = 1 := by decide
           omega)

theorem ndF_mem {L : List Nd} {t : Int} (h : 0 ≤ t ∧ t < L.length) : ndF L t ∈ L ∧ L[t.toNat]? = some (ndF L t) := by
  have hl : t.toNat < L.length := by omega
  have e : ndF L t = L[t.toNat] := by
    unfold ndF; rw [List.getD_eq_getElem?_getD, List.getElem?_eq_getElem hl]; rfl
  rw [e]
  exact ⟨List.getElem_mem hl, List.getElem?_eq_getElem hl⟩

theorem ptF_mem {n : Nd} {i : Nat} (h : i < n.l.length) : ptF n i ∈ n.l ∧ n.l[i]? = some (ptF n i) := by
  have e : ptF n i = n.l[i] := by
    unfold ptF; rw [List.getD_eq_getElem?_getD, List.getElem?_eq_getElem h]; rfl
  rw [e]
  exact ⟨List.getElem_mem h, List.getElem?_eq_getElem h⟩

theorem Mk.part {L : List Nd} (h : Mk L) {t : Int} (ht : 0 ≤ t ∧ t < L.length) {i : Nat} (hi : i < (ndF L t).l.length) : 0 ≤ ptF (ndF L t) i ∧ ptF (ndF L t) i < L.length :=
  h.parts _ (ndF_mem ht).1 _ (ptF_mem hi).1

/-- The tables of uses speak of the arena's terms. -/
structure UsOk (L : List Nd) (us : List (List Int)) : Prop where
  len : us.length = L.length
  parts : ∀ l ∈ us, ∀ t ∈ l, 0 ≤ t ∧ t < L.length

theorem UsOk.at {L : List Nd} {us : List (List Int)} (h : UsOk L us) {t : Int} (ht : 0 ≤ t ∧ t < L.length) : ∀ u ∈ us.getD t.toNat [], 0 ≤ u ∧ u < L.length := by
  have hl : t.toNat < us.length := by rw [h.len]; omega
  have hx : us.getD t.toNat [] = us[t.toNat] := by rw [List.getD_eq_getElem?_getD, List.getElem?_eq_getElem hl]; rfl
  rw [hx]; exact h.parts _ (List.getElem_mem hl)

theorem unbR_snoc (L : List Nd) (sk m : Int) (s : Sp) (l : List Int) (t : Int) : unbR L sk m s (l ++ [t]) = unbR1 L sk m (unbR L sk m s l) t := by simp [unbR, List.foldl_append]

theorem SpOk.unb {L : List Nd} {sk m : Int} : ∀ {l : List Int} {s : Sp}, SpOk L.length s → (∀ t ∈ l, 0 ≤ t ∧ t < L.length) → SpOk L.length (unbR L sk m s l)
  | [], _, h, _ => h
  | t :: l, s, h, hl => by
    refine SpOk.unb (l := l) (s := unbR1 L sk m s t) ?_ (fun x hx => hl x (List.mem_cons_of_mem _ hx))
    unfold unbR1
    split
    · exact h.add (fun x hx => by rw [List.mem_singleton] at hx; rw [hx]; exact hl t List.mem_cons_self)
    · exact h

/-! ### Progress -/

/-- From s to s': sound still, and not farther off. -/
def Adv (n : Nat) (s s' : Sp) : Prop := SpOk n s' ∧ s'.mu ≤ s.mu

theorem Adv.refl {n : Nat} {s : Sp} (h : SpOk n s) : Adv n s s := ⟨h, Nat.le_refl _⟩
theorem Adv.trans {n : Nat} {s s' s'' : Sp} (h : Adv n s s') (k : Adv n s' s'') : Adv n s s'' := ⟨k.1, Nat.le_trans k.2 h.2⟩
theorem adv_add {n : Nat} {s : Sp} (h : SpOk n s) {l : List Int} (hl : ∀ t ∈ l, 0 ≤ t ∧ t < n) : Adv n s (addR s l) := ⟨h.add hl, mu_add h hl⟩
theorem adv_fold {n : Nat} {f : Sp → Int → Sp} : ∀ {l : List Int} {s : Sp}, SpOk n s → (∀ s t, SpOk n s → t ∈ l → Adv n s (f s t)) → Adv n s (l.foldl f s)
  | [], _, h, _ => Adv.refl h
  | t :: l, s, h, hf => by
    have h1 := hf s t h List.mem_cons_self
    exact h1.trans (adv_fold (l := l) h1.1 (fun s x hs hx => hf s x hs (List.mem_cons_of_mem _ hx)))

theorem adv_unb {L : List Nd} {sk m : Int} {l : List Int} {s : Sp} (h : SpOk L.length s) (hl : ∀ t ∈ l, 0 ≤ t ∧ t < L.length) : Adv L.length s (unbR L sk m s l) := by
  refine adv_fold h fun s t hs ht => ?_
  unfold unbR1
  split
  · exact adv_add hs (fun x hx => by rw [List.mem_singleton] at hx; rw [hx]; exact hl t ht)
  · exact Adv.refl hs

theorem adv_apart {L : List Nd} (hk : Mk L) {us : List (List Int)} (hu : UsOk L us) {s : Sp} (h : SpOk L.length s) {t : Int} (ht : 0 ≤ t ∧ t < L.length) : Adv L.length s (apartR L us s t) := by
  have hpt := hk.parts _ (ndF_mem ht).1
  have har := hk.ar _ (ndF_mem ht).1
  unfold apartR
  split
  · exact adv_add h hpt
  split
  · rename_i h8
    have hl := har.1 h8
    split
    · refine adv_add h fun x hx => ?_
      simp only [List.mem_cons, List.not_mem_nil, or_false] at hx
      rcases hx with rfl | rfl
      · exact hk.part ht (by omega)
      · exact hk.part ht (by omega)
    · exact Adv.refl h
  split
  · split
    · exact adv_add h fun x hx => hpt x (List.mem_of_mem_drop hx)
    · exact Adv.refl h
  split
  · rename_i h10
    have hl := har.2.2.1 h10
    have hq := hk.part ht (i := 1) (by omega)
    have h1 := adv_add h (l := [ptF (ndF L t) 1]) (fun x hx => by rw [List.mem_singleton] at hx; rw [hx]; exact hq)
    split
    · rename_i hc
      have hl2 := (hk.ar _ (ndF_mem hq).1).2.2.2.1 hc.1
      exact h1.trans (adv_unb h1.1 (hu.at (hk.part hq (by omega))))
    · exact h1
  split
  · rename_i h12
    have hl := har.2.2.2.1 h12
    split
    · exact adv_add h fun x hx => by rw [List.mem_singleton] at hx; rw [hx]; exact hk.part ht (by omega)
    · exact Adv.refl h
  · exact Adv.refl h

theorem adv_use {L : List Nd} (hk : Mk L) {us : List (List Int)} (hu : UsOk L us) {s : Sp} (h : SpOk L.length s) {u : Int} (ht : 0 ≤ u ∧ u < L.length) : Adv L.length s (useS L us s u) := by
  unfold useS
  split
  · exact adv_apart hk hu h ht
  split
  · exact adv_add h fun x hx => by rw [List.mem_singleton] at hx; rw [hx]; exact ht
  · exact Adv.refl h

/-- The last one is taken off. -/
theorem SpOk.pop {n : Nat} {s : Sp} (h : SpOk n s) {l : List Int} {t : Int} (hs : s.opn = l ++ [t]) : SpOk n ⟨s.inn, l⟩ ∧ (0 ≤ t ∧ t < n) ∧ (⟨s.inn, l⟩ : Sp).mu + 1 = s.mu := by
  have h3 := h.room
  rw [hs, List.length_append, List.length_singleton] at h3
  refine ⟨⟨h.len, fun x hx => h.opn x (by rw [hs]; exact List.mem_append_left _ hx), ?_⟩, h.opn t (by rw [hs]; simp), ?_⟩
  · show l.length + s.inn.count false ≤ n; omega
  · show 2 * s.inn.count false + l.length + 1 = 2 * s.inn.count false + s.opn.length
    rw [hs, List.length_append, List.length_singleton]; omega

theorem roundR_at {L : List Nd} {us : List (List Int)} {s : Sp} {l : List Int} {t : Int} (hs : s.opn = l ++ [t]) : roundR L us s = (us.getD t.toNat []).foldl (useS L us) (apartR L us ⟨s.inn, l⟩ t) := by
  unfold roundR
  rw [hs, List.getLast?_append]
  simp

theorem adv_round {L : List Nd} (hk : Mk L) {us : List (List Int)} (hu : UsOk L us) {s : Sp} (h : SpOk L.length s) {l : List Int} {t : Int} (hs : s.opn = l ++ [t]) : SpOk L.length (roundR L us s) ∧ (roundR L us s).mu < s.mu := by
  obtain ⟨h1, h2, h3⟩ := h.pop hs
  rw [roundR_at hs]
  have h4 := adv_apart hk hu h1 h2
  have h5 := h4.trans (adv_fold h4.1 (fun s x hs hx => adv_use hk hu hs (hu.at h2 x hx)))
  exact ⟨h5.1, Nat.lt_of_le_of_lt h5.2 (by rw [← h3]; exact Nat.lt_succ_self _)⟩

theorem pub_ok (L : List Nd) : ∀ k, k ≤ L.length → SpOk L.length (pubR L k)
  | 0, _ => ⟨by simp [pubR], fun t ht => by simp [pubR] at ht, by simp [pubR]⟩
  | k + 1, h => by
    have h1 := pub_ok L k (by omega)
    rw [pubR]
    split
    · exact h1.add (fun x hx => by rw [List.mem_singleton] at hx; omega)
    · exact h1

end Go.Proofs.YtnkndplbcbehkaaGreatDoor

/-! Layer 5 (deduce): the space in memory; the walk of 'add'. -/
namespace Go.Proofs.YtnkndplbcbehkaaGreatDoor
open Go.RowKit Go.Cas
set_option maxHeartbeats 2000000
set_option maxRecDepth 20000

theorem el_ints5 : ElemT Tryz.prog 24 3 1 8 := ElemT.mk' Tryz.underlying24 (by kernel_rfl) (by decide)

theorem own_sl {w : World} {b : Nat} {e : TypeId} {sz : Nat} {v : Value} {n : Nat} {xs : List Value} (h : w.ownsRow b e sz v n xs) : ∃ a c, v = .slice a n c := by
  rcases h.2 with ⟨rfl, rfl⟩ | ⟨g, cap, cur, rfl, _⟩
  · exact ⟨_, _, rfl⟩
  · exact ⟨_, _, rfl⟩

theorem al_size (w : World) (o : Obj) : (w.alloc o).heap.size = w.heap.size + 1 := by simp

/-- Truth values as cells. -/
def boolCs (l : List Bool) : Array Value := (l.map Value.bool).toArray

/-- A space in memory: at block s; its tables of truth at block ib, of uses at block ub; F is what is mutable. -/
structure IsSp (w : World) (s : Nat) (L : List Nd) (us : List (List Int)) (x : Sp) (F : Nat → Prop) (vl vu : Value) (ib : Nat) (vo : Value) : Prop where
  at_ : w.heap[s]? = some (.cells #[vl, .slice (some ⟨ib, 0, none⟩) L.length L.length, vu, vo] 79 (0, 0))
  l : SlRep (fun b => ¬ F b) w vl L
  inn : w.heap[ib]? = some (.cells (boolCs x.inn) 4 (0, 0))
  us : SlRep (fun b => ¬ F b) w vu us
  opn : w.ownsRow 0 3 1 vo x.opn.length (x.opn.map (Value.int .i64))
  ok : SpOk L.length x
  fs : F s
  fi : F ib
  fo : ∀ b, vo.ownBlock = some b → F b
  lt : ∀ b, F b → b < w.heap.size
  big : L.length ≤ 100000

/-- A step that changes the space alone. -/
structure IsSp1 (w : World) (s : Nat) (L : List Nd) (us : List (List Int)) (vl vu : Value) (ib : Nat) (F : Nat → Prop) (x' : Sp) (w' : World) : Prop where
  ex : ∃ F' vo, IsSp w' s L us x' F' vl vu ib vo ∧ St F w F' w' ∧ (∀ b, F b → F' b)

theorem IsSp.bl {w w' : World} {s : Nat} {L : List Nd} {us : List (List Int)} {x : Sp} {F : Nat → Prop} {vl vu : Value} {ib : Nat} {vo : Value} (h : IsSp w s L us x F vl vu ib vo) (hb : Below w.heap.size w w') : IsSp w' s L us x F vl vu ib vo :=
  ⟨heap_bl hb h.at_, h.l.step (Kp.of_all hb) (fun _ _ h => h), heap_bl hb h.inn, h.us.step (Kp.of_all hb) (fun _ _ h => h), own_below h.opn hb, h.ok, h.fs, h.fi, h.fo, fun b hf => Nat.lt_of_lt_of_le (h.lt b hf) hb.size, h.big⟩

theorem boolCs_at (l : List Bool) (i : Nat) : (boolCs l)[i]? = l[i]?.map Value.bool := by
  unfold boolCs; rw [List.getElem?_toArray, List.getElem?_map]

theorem boolCs_set (l : List Bool) (i : Nat) (b : Bool) : (boolCs l).setIfInBounds i (.bool b) = boolCs (l.set i b) := by
  unfold boolCs; simp [List.map_set]

theorem IsSp.cells {w : World} {s : Nat} {L : List Nd} {us : List (List Int)} {x : Sp} {F : Nat → Prop} {vl vu : Value} {ib : Nat} {vo : Value} (h : IsSp w s L us x F vl vu ib vo) :
    w.cell? ⟨s, 0, none⟩ = some vl ∧ w.cell? ⟨s, 1, none⟩ = some (.slice (some ⟨ib, 0, none⟩) L.length L.length) ∧ w.cell? ⟨s, 2, none⟩ = some vu ∧ w.cell? ⟨s, 3, none⟩ = some vo := by
  refine ⟨?_, ?_, ?_, ?_⟩ <;> rw [cell_of_row _ _ _ _ _ _ h.at_] <;> rfl

theorem IsSp.frz {w : World} {s : Nat} {L : List Nd} {us : List (List Int)} {x : Sp} {F : Nat → Prop} {vl vu : Value} {ib : Nat} {vo : Value} (h : IsSp w s L us x F vl vu ib vo) (o : Nat) :
    w.frozen? ⟨s, o, none⟩ = false ∧ w.frozen? ⟨ib, o, none⟩ = false := by
  refine ⟨?_, ?_⟩
  · unfold World.frozen?; rw [h.at_]; simp
  · unfold World.frozen?; rw [h.inn]; simp

theorem IsSp.has_cell {w : World} {s : Nat} {L : List Nd} {us : List (List Int)} {x : Sp} {F : Nat → Prop} {vl vu : Value} {ib : Nat} {vo : Value} (h : IsSp w s L us x F vl vu ib vo) {t : Int} (ht : 0 ≤ t ∧ t < L.length) :
    w.cell? ⟨ib, t.toNat, none⟩ = some (.bool (x.has t)) := by
  rw [cell_of_row _ _ _ _ _ _ h.inn, boolCs_at]
  have hl : t.toNat < x.inn.length := by rw [h.ok.len]; omega
  unfold Sp.has
  rw [List.getD_eq_getElem?_getD, List.getElem?_eq_getElem hl]; rfl

/-- The space's blocks are apart. -/
theorem IsSp.apart {w : World} {s : Nat} {L : List Nd} {us : List (List Int)} {x : Sp} {F : Nat → Prop} {vl vu : Value} {ib : Nat} {vo : Value} (h : IsSp w s L us x F vl vu ib vo) :
    s ≠ ib ∧ some s ≠ vo.ownBlock ∧ some ib ≠ vo.ownBlock := by
  refine ⟨fun e => ?_, own_ne h.opn h.at_ (by decide), own_ne h.opn h.inn (by decide)⟩
  have h1 := h.at_
  have h2 := h.inn
  rw [e, h2] at h1
  simp only [Option.some.injEq, Obj.cells.injEq] at h1
  exact absurd h1.2.1 (by decide)

/-- One more is in. -/
theorem IsSp.add1 {w w2 : World} {s : Nat} {L : List Nd} {us : List (List Int)} {x : Sp} {F : Nat → Prop} {vl vu : Value} {ib : Nat} {vo vo' : Value} (h : IsSp w s L us x F vl vu ib vo) {t : Int} (ht : 0 ≤ t ∧ t < L.length) (hf : x.has t = false)
    {wa : World} (hwa : Below w.heap.size (w.setCell ⟨ib, t.toNat, none⟩ (.bool true)) wa)
    (ho : w2.ownsRow 0 3 1 vo' (x.opn.length + 1) (x.opn.map (Value.int .i64) ++ [.int .i64 t])) (hg : wa.grownBy w2 vo.ownBlock) (hb : vo'.ownBlock = vo.ownBlock ∨ vo'.ownBlock = some wa.heap.size) :
    IsSp1 w s L us vl vu ib F (addR1 x t) (w2.setCell ⟨s, 3, none⟩ vo') := by
  have hnb : wa.heap.size ≤ w2.heap.size := hg.size
  have hsz : (w.setCell ⟨ib, t.toNat, none⟩ (.bool true)).heap.size = w.heap.size := by simp [World.setCell]
  have hsa : w.heap.size ≤ wa.heap.size := by have := hwa.size; rwa [hsz] at this
  obtain ⟨a1, a2, a3⟩ := h.apart
  have hs1 : w2.heap[s]? = some (.cells #[vl, .slice (some ⟨ib, 0, none⟩) L.length L.length, vu, vo] 79 (0, 0)) := by
    rw [hg.block s (Nat.lt_of_lt_of_le (h.lt s h.fs) hsa) a2, hwa.block s (h.lt s h.fs), Below.heap_setCell _ _ _ _ a1]
    exact h.at_
  have hi1 : w2.heap[ib]? = some (.cells (boolCs (x.inn.set t.toNat true)) 4 (0, 0)) := by
    rw [hg.block ib (Nat.lt_of_lt_of_le (h.lt ib h.fi) hsa) a3, hwa.block ib (h.lt ib h.fi), Lib.heap_setCell_same h.inn, boolCs_set]
  have hkp2 : Kp (fun b => ¬ F b) w w2 := by
    refine ⟨hg.os.trans hwa.os, hg.tape.trans hwa.tape, hg.output.trans hwa.output, Nat.le_trans hsa hnb, fun k hk hn => ?_⟩
    rw [hg.block k (Nat.lt_of_lt_of_le hk hsa) (fun e => hn (h.fo k e.symm)), hwa.block k hk, Below.heap_setCell _ _ _ _ (fun e => hn (by have e' : k = ib := e; rw [e']; exact h.fi))]
  have hkp : Kp (fun b => ¬ F b) w (w2.setCell ⟨s, 3, none⟩ vo') := hkp2.setCell (fun _ hn => hn h.fs) _
  have hx : addR1 x t = ⟨x.inn.set t.toNat true, x.opn ++ [t]⟩ := by unfold addR1; rw [if_neg (by rw [hf]; decide)]
  have hvs : vo'.ownBlock ≠ some s := by
    rcases hb with e | e
    · rw [e]; exact fun h' => a2 h'.symm
    · rw [e]; exact fun h' => by have := h.lt s h.fs; simp only [Option.some.injEq] at h'; omega
  refine ⟨⟨fun b => F b ∨ vo'.ownBlock = some b, vo', ⟨?_, ?_, ?_, ?_, ?_, h.ok.add1 ht, .inl h.fs, .inl h.fi, fun b hb' => .inr hb', fun b hb' => ?_, h.big⟩, ⟨hkp, fun b hb' => ?_⟩, fun b hb' => .inl hb'⟩⟩
  · have := Lib.heap_setCell_same (i := 3) hs1 vo'
    rw [this]; rfl
  · refine h.l.step hkp fun b hbl hn h' => ?_
    rcases h' with h' | h'
    · exact hn h'
    · rcases hb with e | e
      · exact hn (h.fo b (e ▸ h'))
      · rw [e] at h'; simp only [Option.some.injEq] at h'; omega
  · rw [hx, Below.heap_setCell _ _ _ _ (fun e => a1 e.symm)]
    exact hi1
  · refine h.us.step hkp fun b hbl hn h' => ?_
    rcases h' with h' | h'
    · exact hn h'
    · rcases hb with e | e
      · exact hn (h.fo b (e ▸ h'))
      · rw [e] at h'; simp only [Option.some.injEq] at h'; omega
  · rw [hx]
    refine ownsRow_setCell_other ?_ hvs _
    have e1 : (x.opn ++ [t]).length = x.opn.length + 1 := by simp
    have e2 : (x.opn ++ [t]).map (Value.int .i64) = x.opn.map (Value.int .i64) ++ [.int .i64 t] := by simp
    show w2.ownsRow 0 3 1 vo' (x.opn ++ [t]).length ((x.opn ++ [t]).map (Value.int .i64))
    rw [e1, e2]; exact ho
  · have hs2 : (w2.setCell ⟨s, 3, none⟩ vo').heap.size = w2.heap.size := by simp [World.setCell]
    rw [hs2]
    rcases hb' with hb' | hb'
    · have := h.lt b hb'; omega
    · exact (ho.lt b hb').2
  · rcases hb' with hb' | hb'
    · exact .inl hb'
    · rcases hb with e | e
      · exact .inl (h.fo b (e ▸ hb'))
      · rw [e] at hb'; simp only [Option.some.injEq] at hb'; exact .inr (by omega)

/-- Ahead of the append, and behind it. -/
theorem IsSp.pre {w : World} {s : Nat} {L : List Nd} {us : List (List Int)} {x : Sp} {F : Nat → Prop} {vl vu : Value} {ib : Nat} {vo : Value} (h : IsSp w s L us x F vl vu ib vo) (t : Int) :
    (w.setCell ⟨ib, t.toNat, none⟩ (.bool true)).cell? ⟨s, 3, none⟩ = some vo ∧ Below w.heap.size (w.setCell ⟨ib, t.toNat, none⟩ (.bool true)) ((w.setCell ⟨ib, t.toNat, none⟩ (.bool true)).alloc (.cells #[.int .i64 t] 3)) ∧
    ((w.setCell ⟨ib, t.toNat, none⟩ (.bool true)).alloc (.cells #[.int .i64 t] 3)).ownsRow 0 3 1 vo x.opn.length (x.opn.map (Value.int .i64)) ∧
    ((w.setCell ⟨ib, t.toNat, none⟩ (.bool true)).alloc (.cells #[.int .i64 t] 3)).heap[w.heap.size]? = some (.cells #[.int .i64 t] 3 (0, 0)) ∧
    ∀ w2, ((w.setCell ⟨ib, t.toNat, none⟩ (.bool true)).alloc (.cells #[.int .i64 t] 3)).grownBy w2 vo.ownBlock → w2.cell? ⟨s, 3, none⟩ = some vo ∧ w2.frozen? ⟨s, 3, none⟩ = false := by
  obtain ⟨a1, a2, a3⟩ := h.apart
  have hsz : (w.setCell ⟨ib, t.toNat, none⟩ (.bool true)).heap.size = w.heap.size := by simp [World.setCell]
  have hbl : Below (w.setCell ⟨ib, t.toNat, none⟩ (.bool true)).heap.size (w.setCell ⟨ib, t.toNat, none⟩ (.bool true)) ((w.setCell ⟨ib, t.toNat, none⟩ (.bool true)).alloc (.cells #[.int .i64 t] 3)) := (Below.refl _ _).alloc (Nat.le_refl _) _
  have hs0 : (w.setCell ⟨ib, t.toNat, none⟩ (.bool true)).heap[s]? = some (.cells #[vl, .slice (some ⟨ib, 0, none⟩) L.length L.length, vu, vo] 79 (0, 0)) := by
    rw [Below.heap_setCell _ _ _ _ a1]; exact h.at_
  refine ⟨by rw [cell_of_row _ _ _ _ _ _ hs0]; rfl, hsz ▸ hbl, own_below (ownsRow_setCell_other h.opn (fun e => a3 e.symm) _) hbl, ?_, fun w2 hg => ?_⟩
  · have := heap_new (w.setCell ⟨ib, t.toNat, none⟩ (.bool true)) (.cells #[.int .i64 t] 3)
    rwa [hsz] at this
  · have h2 := heap_grown hg (heap_bl hbl hs0) a2
    refine ⟨by rw [cell_of_row _ _ _ _ _ _ h2]; rfl, ?_⟩
    unfold World.frozen?; rw [h2]; simp

theorem IsSp1.trans {w w' : World} {s : Nat} {L : List Nd} {us : List (List Int)} {x'' : Sp} {F F' : Nat → Prop} {vl vu : Value} {ib : Nat} (hst : St F w F' w') (hold : ∀ b, F b → F' b) {w'' : World} (h : IsSp1 w' s L us vl vu ib F' x'' w'') : IsSp1 w s L us vl vu ib F x'' w'' := by
  obtain ⟨F2, vo, h1, h2, h3⟩ := h.ex
  exact ⟨F2, vo, h1, hst.trans h2, fun b hb => h3 b (hold b hb)⟩

theorem IsSp1.refl {w : World} {s : Nat} {L : List Nd} {us : List (List Int)} {x : Sp} {F : Nat → Prop} {vl vu : Value} {ib : Nat} {vo : Value} (h : IsSp w s L us x F vl vu ib vo) : IsSp1 w s L us vl vu ib F x w := ⟨F, vo, h, St.refl _ _, fun _ h => h⟩

/-- 'add'. -/
theorem dAdd_any (s : Nat) (L : List Nd) (us : List (List Int)) (x : Sp) (F : Nat → Prop) (vl vu : Value) (ib : Nat) (vo : Value) (v : Value) (l : List Int) (w : World) (h : IsSp w s L us x F vl vu ib vo)
    (hl : SlRep (fun b => ¬ F b) w v l) (hb : ∀ t ∈ l, 0 ≤ t ∧ t < L.length) :
    Calls Tryz.prog 75 #[.pointer (some ⟨s, 0, none⟩), v] w fun e w' => e = .returned (.tuple #[]) ∧ IsSp1 w s L us vl vu ib F (addR x l) w' := by
  obtain ⟨a, c, rfl, _, hm, ho⟩ := hl.openInt
  unfold maxLen at hm
  have HH := Lib.hid h
  have HO := Lib.hid ho
  have HB := Lib.hid hb
  clear h hl ho hb
  go_enter Tryz.func75, Tryz.ntmps75
  go_wp2
  go_loopw [8] (fun i wr => ∃ k : Nat, k ≤ l.length ∧ i = .int .i64 k ∧ Hid (IsSp1 w s L us vl vu ib F (addR x (l.take k)) wr)) (fun i _ => l.length - (intOf i).toNat)
  case atStart => exact ⟨0, Nat.zero_le _, rfl, Lib.hid (IsSp1.refl HH.out)⟩
  case round =>
    obtain ⟨k, hk, rfl, HI⟩ := hrel
    obtain ⟨F1, vo1, h1, hst, hold⟩ := HI.out.ex
    by_cases hlt : k < l.length
    · obtain ⟨b, off, rfl, hnb, hbl, hi⟩ := HO.out (by omega)
      obtain ⟨t, ht⟩ : ∃ t, l[k]? = some t := ⟨_, List.getElem?_eq_getElem hlt⟩
      have hcell := hst.kp.cell (K := fun b => ¬ F b) hnb (hi k t ht)
      have htb := HB.out t (List.mem_of_getElem? ht)
      obtain ⟨c0, c1, c2, c3⟩ := h1.cells
      have ch := h1.has_cell htb
      have hf := h1.frz
      obtain ⟨ht0, ht1⟩ := htb
      have HT := Lib.hid ht
      have H1 := Lib.hid h1
      have HS := Lib.hid hst
      have HOL := Lib.hid hold
      obtain ⟨oa, oc, hvo⟩ := own_sl h1.opn
      subst hvo
      clear hi ht h1 hst hold
      have hsn : addR x (l.take (k + 1)) = addR1 (addR x (l.take k)) t := by
        rw [List.take_add_one, HT.out]; exact addR_snoc _ _ _
      cases hh : (addR x (l.take k)).has t with
      | true =>
        rw [hh] at ch
        have hsn2 : addR x (l.take (k + 1)) = addR x (l.take k) := by rw [hsn]; unfold addR1; rw [if_pos hh]
        have HSN := Lib.hid hsn2
        clear hh hsn hsn2
        go_wp2_with fail
        go_round
        case rel => exact ⟨k + 1, by omega, by go_num, Lib.hid (by rw [HSN.out]; exact HI.out)⟩
        case measure => simp [intOf]; omega
      | false =>
        rw [hh] at ch
        obtain ⟨p3, pb, po, ph, pw⟩ := H1.out.pre t
        have hro := H1.out.ok.room
        have hbig := H1.out.big
        have HSN := Lib.hid hsn
        have HHH := Lib.hid hh
        have HPB := Lib.hid pb
        have HPO := Lib.hid po
        have HPH := Lib.hid ph
        have HPW := Lib.hid pw
        clear hh pb po ph pw hsn
        generalize hx1 : addR x (l.take k) = x1 at *
        go_wp2_with (at_builtin; refine wpList_append_sl rfl _ _ 24 rfl el_ints5 0 (.slice oa x1.opn.length oc) _ _ rfl HPO.out (K := fun _ => True) (.slice (some ⟨wr.heap.size, 0, none⟩) 1 1) 1 [.int .i64 t] rfl (SlR.block (cs := #[.int .i64 t]) HPH.out 1 1 rfl (by decide)) (by simp [Value.oneCell']) (by omega) (by unfold maxLen; omega) (Nat.zero_le _) ?_; intro v6 w6 ho6 hg6 _ hb6; obtain ⟨q3, q4⟩ := HPW.out w6 hg6; have HA := Lib.hid (H1.out.add1 ⟨ht0, ht1⟩ HHH.out HPB.out ho6 hg6 hb6); obtain ⟨va, vc, hv6⟩ := own_sl ho6; subst hv6; clear ho6 hg6 hb6)
        go_round
        case rel => exact ⟨k + 1, by omega, by go_num, Lib.hid (by rw [HSN.out]; exact IsSp1.trans HS.out HOL.out HA.out)⟩
        case measure => simp [intOf]; omega
    · obtain rfl : k = l.length := by omega
      go_wp2_with fail
      rw [List.take_length] at HI
      go_end0
      exact ⟨rfl, HI.out⟩

end Go.Proofs.YtnkndplbcbehkaaGreatDoor

/-! Layer 5 (deduce): the walks of 'unblind', 'all'. -/
namespace Go.Proofs.YtnkndplbcbehkaaGreatDoor
open Go.RowKit Go.Cas
set_option maxHeartbeats 4000000
set_option maxRecDepth 20000

/-- A slice of whole numbers, laid open. -/
structure IntsAt (w : World) (v : Value) (l : List Int) (a : Option Addr) (c : Nat) : Prop where
  form : v = .slice a l.length c
  cap : l.length ≤ c
  max : l.length ≤ 9223372036854775807
  cells : 0 < l.length → ∃ b off, a = some ⟨b, off, none⟩ ∧ ∀ i x, l[i]? = some x → w.cell? ⟨b, off + i, none⟩ = some (.int .i64 x)

theorem SlRep.intsAt {K : Nat → Prop} {w : World} {v : Value} {l : List Int} (h : SlRep K w v l) : ∃ a c, IntsAt w v l a c := by
  obtain ⟨a, c, hv, hc, hm, ho⟩ := h.openInt
  exact ⟨a, c, hv, hc, hm, fun h0 => by obtain ⟨b, off, e, _, _, hi⟩ := ho h0; exact ⟨b, off, e, hi⟩⟩

/-- One cell after the other. -/
theorem SlRep.get {K : Nat → Prop} {w : World} {a : Option Addr} {n c : Nat} {l : List Int} (h : SlRep K w (.slice a n c) l) (h0 : 0 < l.length) :
    ∃ b off, a = some ⟨b, off, none⟩ ∧ ∀ i x, l[i]? = some x → w.cell? ⟨b, off + i, none⟩ = some (.int .i64 x) := by
  obtain ⟨a', c', e, _, _, ho⟩ := h.openInt
  simp only [Value.slice.injEq] at e
  obtain ⟨b, off, e', _, _, hi⟩ := ho h0
  exact ⟨b, off, e.1.trans e', hi⟩

theorem SlRep.get1 {K : Nat → Prop} {w : World} {b off n c : Nat} {l : List Int} (h : SlRep K w (.slice (some ⟨b, off, none⟩) n c) l) : ∀ i x, l[i]? = some x → w.cell? ⟨b, off + i, none⟩ = some (.int .i64 x) := fun i x hx => by
  obtain ⟨b', off', e, hi⟩ := SlRep.get h (by have := getElem?_lt hx; omega)
  cases e
  exact hi i x hx

/-- The space's nodes in memory. -/
theorem IsSp.node {w : World} {s : Nat} {L : List Nd} {us : List (List Int)} {x : Sp} {F : Nat → Prop} {vl vu : Value} {ib : Nat} {vo : Value} (h : IsSp w s L us x F vl vu ib vo) (h0 : 0 < L.length) :
    ∃ b off c, vl = .slice (some ⟨b, off, none⟩) L.length c ∧ ∀ t : Int, 0 ≤ t ∧ t < L.length → ∃ v, w.cell? ⟨b, off + t.toNat * 4, none⟩ = some (.int .i64 (ndF L t).op) ∧ w.cell? ⟨b, off + t.toNat * 4 + 1, none⟩ = some (.int .i64 (ndF L t).n) ∧
      w.cell? ⟨b, off + t.toNat * 4 + 2, none⟩ = some (.string (ndF L t).s) ∧ w.cell? ⟨b, off + t.toNat * 4 + 3, none⟩ = some v ∧ SlRep (fun b => ¬ F b) w v (ndF L t).l := by
  obtain ⟨b, off, c, e, _, _, _, hi⟩ := h.l.at h0
  refine ⟨b, off, c, e, fun t ht => ?_⟩
  obtain ⟨cs, ⟨v, rfl, hv⟩, hc⟩ := hi _ _ (ndF_mem ht).2
  refine ⟨v, ?_, ?_, ?_, ?_, hv⟩
  · exact hc 0 _ rfl
  · have := hc 1 _ rfl; rwa [← Nat.add_assoc] at this
  · have := hc 2 _ rfl; rwa [← Nat.add_assoc] at this
  · have := hc 3 _ rfl; rwa [← Nat.add_assoc] at this

/-- The table of uses in memory. -/
theorem IsSp.uses {w : World} {s : Nat} {L : List Nd} {us : List (List Int)} {x : Sp} {F : Nat → Prop} {vl vu : Value} {ib : Nat} {vo : Value} (h : IsSp w s L us x F vl vu ib vo) (hu : UsOk L us) (h0 : 0 < L.length) :
    ∃ b off c, vu = .slice (some ⟨b, off, none⟩) L.length c ∧ ∀ t : Int, 0 ≤ t ∧ t < L.length → ∃ v, w.cell? ⟨b, off + t.toNat, none⟩ = some v ∧ SlRep (fun b => ¬ F b) w v (us.getD t.toNat []) := by
  obtain ⟨b, off, c, e, _, _, _, hi⟩ := h.us.at (by rw [hu.len]; exact h0)
  rw [hu.len] at e
  refine ⟨b, off, c, e, fun t ht => ?_⟩
  have hl : t.toNat < us.length := by rw [hu.len]; omega
  have hx : us[t.toNat]? = some (us.getD t.toNat []) := by rw [List.getD_eq_getElem?_getD, List.getElem?_eq_getElem hl]; rfl
  obtain ⟨cs, ⟨v, rfl, hv⟩, hc⟩ := hi _ _ hx
  refine ⟨v, ?_, hv⟩
  have := hc 0 _ rfl
  rwa [show t.toNat * Rp.sz (List Int) + 0 = t.toNat by show t.toNat * 1 + 0 = _; omega] at this

theorem IsSp1.bl {w w' w'' : World} {s : Nat} {L : List Nd} {us : List (List Int)} {x : Sp} {F : Nat → Prop} {vl vu : Value} {ib : Nat} (h : IsSp1 w s L us vl vu ib F x w') (hb : Below w'.heap.size w' w'') : IsSp1 w s L us vl vu ib F x w'' := by
  obtain ⟨F', vo, h1, h2, h3⟩ := h.ex
  exact ⟨F', vo, h1.bl hb, h2.trans (St.all hb), h3⟩

/-- One cell more, and a one-element slice. -/
theorem IsSp.one {w : World} {s : Nat} {L : List Nd} {us : List (List Int)} {x : Sp} {F : Nat → Prop} {vl vu : Value} {ib : Nat} {vo : Value} (h : IsSp w s L us x F vl vu ib vo) (t : Int) :
    IsSp (w.alloc (.cells #[.int .i64 t] 3)) s L us x F vl vu ib vo ∧ SlRep (fun b => ¬ F b) (w.alloc (.cells #[.int .i64 t] 3)) (.slice (some ⟨w.heap.size, 0, none⟩) 1 1) [t] := by
  refine ⟨h.bl ((Below.refl _ _).alloc (Nat.le_refl _) _), SlRep.of_ints ⟨rfl, by show 1 ≤ maxLen; decide, .inr ⟨w.heap.size, 0, 1, rfl, Nat.le_refl _, fun hf => ?_, #[.int .i64 t], 3, (0, 0), heap_new w _, fun i u hi => ?_⟩⟩⟩
  · have := h.lt _ hf; omega
  · rw [Nat.zero_add, List.getElem?_toArray]; exact hi

/-- 'unblind'. -/
theorem dUnblind_any (s : Nat) (L : List Nd) (us : List (List Int)) (x : Sp) (F : Nat → Prop) (vl vu : Value) (ib : Nat) (vo : Value) (sk m : Int) (w : World) (h : IsSp w s L us x F vl vu ib vo) (hk : Mk L) (hu : UsOk L us) (hm : 0 ≤ m ∧ m < L.length) :
    Calls Tryz.prog 88 #[.pointer (some ⟨s, 0, none⟩), .int .i64 sk, .int .i64 m] w fun e w' => e = .returned (.tuple #[]) ∧ IsSp1 w s L us vl vu ib F (unbR L sk m x (us.getD m.toNat [])) w' := by
  obtain ⟨ub, uo, uc, rfl, hus⟩ := h.uses hu (by omega)
  obtain ⟨nb, no, nc, rfl, _⟩ := h.node (by omega)
  obtain ⟨v, hv1, hv2⟩ := hus m hm
  obtain ⟨a, c, hI⟩ := SlRep.intsAt hv2
  have hal := hu.at hm
  generalize us.getD m.toNat [] = l at hv2 hI hal ⊢
  obtain rfl := hI.form
  obtain ⟨c0, c1, c2, c3⟩ := h.cells
  have hmx := hI.max
  have HH := Lib.hid h
  have HV := Lib.hid hv2
  have HK := Lib.hid hk
  have HA := Lib.hid hal
  obtain ⟨hm0, hm1⟩ := hm
  clear h hus hv2 hI hal hk
  go_enter Tryz.func88, Tryz.ntmps88
  go_wp2
  go_loopw [17] (fun i wr => ∃ k : Nat, k ≤ l.length ∧ i = .int .i64 k ∧ Hid (IsSp1 w s L us (.slice (some ⟨nb, no, none⟩) L.length nc) (.slice (some ⟨ub, uo, none⟩) L.length uc) ib F (unbR L sk m x (l.take k)) wr)) (fun i _ => l.length - (intOf i).toNat)
  case atStart => exact ⟨0, Nat.zero_le _, rfl, Lib.hid (IsSp1.refl HH.out)⟩
  case round =>
    clear c0 c1 c2 c3 hv1
    obtain ⟨k, hk, rfl, HI⟩ := hrel
    by_cases hlt : k < l.length
    · obtain ⟨F1, vo1, h1, hst, hold⟩ := HI.out.ex
      obtain ⟨b, off, rfl, hi⟩ := SlRep.get (HV.out.step hst.kp (fun b hb hn => hst.not hb hn)) (by omega)
      obtain ⟨t, ht⟩ : ∃ t, l[k]? = some t := ⟨_, List.getElem?_eq_getElem hlt⟩
      have hcell := hi k t ht
      have htb := HA.out t (List.mem_of_getElem? ht)
      obtain ⟨c0, c1, c2, c3⟩ := h1.cells
      obtain ⟨_, _, _, e, hnd⟩ := h1.node (by omega)
      cases e
      obtain ⟨nv, n0, n1, n2, n3, n4⟩ := hnd t htb
      have hsn : unbR L sk m x (l.take (k + 1)) = unbR1 L sk m (unbR L sk m x (l.take k)) t := by
        rw [List.take_add_one, ht]; exact unbR_snoc _ _ _ _ _ _
      have har := HK.out.ar _ (ndF_mem htb).1
      have hun : unbR1 L sk m (unbR L sk m x (l.take k)) t = if (ndF L t).op = 10 ∧ ptF (ndF L t) 0 = sk ∧ ptF (ndF L t) 1 = m then addR (unbR L sk m x (l.take k)) [t] else unbR L sk m x (l.take k) := rfl
      obtain ⟨nd0, hnd0⟩ : ∃ nd0, ndF L t = nd0 := ⟨_, rfl⟩
      rw [hnd0] at n0 n1 n2 n4 har hun
      generalize unbR L sk m x (l.take k) = x1 at *
      obtain ⟨na, nlc, hN⟩ := SlRep.intsAt n4
      obtain rfl := hN.form
      have hbb : Below wr.heap.size wr (wr.alloc (.cells #[.int .i64 nd0.op, .int .i64 nd0.n, .string nd0.s, .slice na nd0.l.length nlc] 54)) := (Below.refl _ _).alloc (Nat.le_refl _) _
      have hbx := heap_new wr (.cells #[.int .i64 nd0.op, .int .i64 nd0.n, .string nd0.s, .slice na nd0.l.length nlc] 54)
      have hI1 := HI.out.bl hbb
      have HI1 := Lib.hid hI1
      have HSN := Lib.hid hsn
      have HUN := Lib.hid hun
      obtain ⟨ht0, ht1⟩ := htb
      by_cases h10 : nd0.op = 10
      · have hl2 := har.2.2.1 h10
        obtain ⟨pb, po, rfl, hp⟩ := SlRep.get n4 (by omega)
        have e0 := cell_bl hbb (hp 0 _ (ptF_mem (n := nd0) (i := 0) (by omega)).2)
        have e1 := cell_bl hbb (hp 1 _ (ptF_mem (n := nd0) (i := 1) (by omega)).2)
        rw [Nat.add_zero] at e0
        rw [h10] at n0 hbx
        rw [hl2] at hbx n3
        rw [h10, hl2] at HI1 e0 e1
        clear hi ht h1 hst hold hnd har n4 hN hp hsn hI1 hbb hbx
        by_cases hsk : ptF nd0 0 = sk
        · have e2 : (ptF nd0 0 == sk) = true := by simpa using hsk
          by_cases hmm : ptF nd0 1 = m
          · have e3 : (ptF nd0 1 == m) = true := by simpa using hmm
            rw [if_pos ⟨h10, hsk, hmm⟩] at hun
            have HUN := Lib.hid hun
            clear hsk hmm hun h10 hnd0
            obtain ⟨F1, vo1, h1, hst, hold⟩ := HI1.out.ex
            have hone := h1.one t
            rw [al_size] at hone
            have HADD := Lib.hid (dAdd_any s L us x1 F1 _ _ ib vo1 _ [t] _ hone.1 hone.2 (by simp; omega))
            have HS := Lib.hid hst
            have HOL := Lib.hid hold
            clear h1 hst hold hone
            go_wp2_with (go_at_call 75; refine HADD.out.mono ?_; rintro e w2 ⟨rfl, h2⟩; have H2 := Lib.hid h2; clear h2)
            go_round
            case rel => exact ⟨k + 1, by omega, by go_num, Lib.hid (by rw [HSN.out, HUN.out]; exact IsSp1.trans (HS.out.trans (St.all ((Below.refl _ _).alloc (Nat.le_refl _) _))) HOL.out H2.out)⟩
            case measure => simp [intOf]; omega
          · have e3 : (ptF nd0 1 == m) = false := by simpa using hmm
            rw [if_neg (fun h => hmm h.2.2)] at hun
            have HUN := Lib.hid hun
            clear hsk hmm hun h10 hnd0
            go_wp2_with fail
            go_round
            case rel => exact ⟨k + 1, by omega, by go_num, Lib.hid (by rw [HSN.out, HUN.out]; exact HI1.out)⟩
            case measure => simp [intOf]; omega
        · have e2 : (ptF nd0 0 == sk) = false := by simpa using hsk
          rw [if_neg (fun h => hsk h.2.1)] at hun
          have HUN := Lib.hid hun
          clear hsk hun h10 hnd0
          go_wp2_with fail
          go_round
          case rel => exact ⟨k + 1, by omega, by go_num, Lib.hid (by rw [HSN.out, HUN.out]; exact HI1.out)⟩
          case measure => simp [intOf]; omega
      · have e2 : (nd0.op == 10) = false := by simpa using h10
        rw [if_neg (fun h => h10 h.1)] at hun
        have HUN := Lib.hid hun
        clear hi ht h1 hst hold hnd har n4 hN hsn hI1 hbb hbx h10 hun hnd0
        go_wp2_with fail
        go_round
        case rel => exact ⟨k + 1, by omega, by go_num, Lib.hid (by rw [HSN.out, HUN.out]; exact HI1.out)⟩
        case measure => simp [intOf]; omega
    · obtain rfl : k = l.length := by omega
      go_wp2_with fail
      rw [List.take_length] at HI
      go_end0
      exact ⟨rfl, HI.out⟩
end Go.Proofs.YtnkndplbcbehkaaGreatDoor

/-! Layer 5 (deduce): the walks of 'all', of the closures that test. -/
namespace Go.Proofs.YtnkndplbcbehkaaGreatDoor
open Go.RowKit Go.Cas
set_option maxHeartbeats 4000000
set_option maxRecDepth 20000

/-- A predicate on some whole numbers that only reads. -/
def PredL (g : FuncId) (cap : Array Value) (q : Int → Bool) (l : List Int) (w : World) : Prop :=
  ∀ x ∈ l, Calls Tryz.prog g (#[.int .i64 x] ++ cap) w fun e w' => e = .returned (.bool (q x)) ∧ w = w'

/-- 'slices.IndexFunc' of whole numbers, tested with those alone. -/
theorem indexIntL_any (g : FuncId) (cap : Array Value) (q : Int → Bool) (K : Nat → Prop) (v : Value) (l : List Int) (w : World) (hl : SlRep K w v l) (hq : PredL g cap q l w)
    (eg : ∀ args w, (callFunc g args).run Tryz.prog w = .ok (.enter g args) w) :
    Calls Tryz.prog 74 #[v, .func (.func g) #[] cap] w fun e w' => e = .returned (.int .i64 (findB q l)) ∧ w = w' := by
  obtain ⟨a, c, rfl, hc, hm, ho⟩ := hl.openInt
  unfold maxLen at hm
  clear hl
  go_enter Tryz.func74, Tryz.ntmps74
  go_wp2
  go_loop [8] (fun i => ∃ k : Nat, k ≤ l.length ∧ i = .int .i64 k ∧ Hid (∀ j y, j < k → l[j]? = some y → q y = false)) (fun i => l.length - (intOf i).toNat)
  case atStart => exact ⟨0, Nat.zero_le _, rfl, fun j y hj => by omega⟩
  case round =>
    obtain ⟨k, hk, rfl, H⟩ := hrel
    by_cases hlt : k < l.length
    · obtain ⟨b, off, rfl, _, _, hi⟩ := ho (by omega)
      obtain ⟨x, hx⟩ : ∃ x, l[k]? = some x := ⟨_, List.getElem?_eq_getElem hlt⟩
      have hcell := hi k x hx
      clear hi ho
      have HC := Lib.hid (hq x (List.mem_of_getElem? hx))
      have HX := Lib.hid hx
      clear hx
      clear hq
      cases hqx : q x with
      | true =>
        rw [hqx] at HC
        have HQ := Lib.hid hqx
        clear hqx
        go_wp2_with (go_at_fn g; refine HC.out.mono ?_; rintro e w' ⟨rfl, rfl⟩)
        go_ret
        exact ⟨ret_int (findB_hit H.out HX.out HQ.out).symm, rfl⟩
      | false =>
        rw [hqx] at HC
        have HQ := Lib.hid hqx
        clear hqx
        go_wp2_with (go_at_fn g; refine HC.out.mono ?_; rintro e w' ⟨rfl, rfl⟩)
        go_round
        case rel =>
          refine ⟨k + 1, by omega, by go_num, fun j y hj hy => ?_⟩
          by_cases e : j = k
          · subst e; rw [HX.out] at hy; cases hy; exact HQ.out
          · exact H.out j y (by omega) hy
        case measure => simp [intOf]; omega
    · go_wp2
      go_ret
      exact ⟨ret_int (findB_miss (fun j y hj => H.out j y (by omega))).symm, rfl⟩

/-- 'slices.ContainsFunc', likewise. -/
theorem containsIntL_any (g : FuncId) (cap : Array Value) (q : Int → Bool) (K : Nat → Prop) (v : Value) (l : List Int) (w : World) (hl : SlRep K w v l) (hq : PredL g cap q l w)
    (eg : ∀ args w, (callFunc g args).run Tryz.prog w = .ok (.enter g args) w) :
    Calls Tryz.prog 50 #[v, .func (.func g) #[] cap] w fun e w' => e = .returned (.bool (l.any q)) ∧ w = w' := by
  have HC := Lib.hid (indexIntL_any g cap q K v l w hl hq eg)
  have HE := Lib.hid (findB_nonneg q l)
  clear hl hq
  generalize hf : findB q l = f at HC HE
  clear hf
  go_enter Tryz.func50, Tryz.ntmps50
  go_wp2_with (go_at_call 74; refine HC.out.mono ?_; rintro e w' ⟨rfl, rfl⟩)
  go_ret
  exact ⟨ret_bool HE.out, rfl⟩

/-- 'all$1'. -/
theorem dAll1_any (s bx : Nat) (L : List Nd) (us : List (List Int)) (x : Sp) (F : Nat → Prop) (vl vu : Value) (ib : Nat) (vo : Value) (t : Int) (w : World) (h : IsSp w s L us x F vl vu ib vo) (ht : 0 ≤ t ∧ t < L.length)
    (hb : w.cell? ⟨bx, 0, none⟩ = some (.pointer (some ⟨s, 0, none⟩))) :
    Calls Tryz.prog 89 #[.int .i64 t, .pointer (some ⟨bx, 0, none⟩)] w fun e w' => e = .returned (.bool (!x.has t)) ∧ w = w' := by
  obtain ⟨c0, c1, c2, c3⟩ := h.cells
  have ch := h.has_cell ht
  obtain ⟨h0, h1⟩ := ht
  clear h
  generalize x.has t = b at ch
  go_enter Tryz.func89, Tryz.ntmps89
  go_wp2
  go_ret
  exact ⟨rfl, rfl⟩

theorem any_not {α : Type} (q : α → Bool) (l : List α) : (!l.any fun x => !q x) = l.all q := by
  induction l with
  | nil => rfl
  | cons x l ih => simp only [List.any_cons, List.all_cons, ← ih]; cases q x <;> simp

/-- 'all'. -/
theorem dAll_any (s : Nat) (L : List Nd) (us : List (List Int)) (x : Sp) (F : Nat → Prop) (vl vu : Value) (ib : Nat) (vo : Value) (K : Nat → Prop) (v : Value) (l : List Int) (w : World) (h : IsSp w s L us x F vl vu ib vo)
    (hl : SlRep K w v l) (hb : ∀ t ∈ l, 0 ≤ t ∧ t < L.length) :
    Calls Tryz.prog 77 #[.pointer (some ⟨s, 0, none⟩), v] w fun e w' => e = .returned (.bool (l.all x.has)) ∧ Below w.heap.size w w' := by
  have hbb : Below w.heap.size w (w.alloc (.cells #[.pointer (some ⟨s, 0, none⟩)] 72)) := (Below.refl _ _).alloc (Nat.le_refl _) _
  have h1 := h.bl hbb
  have hc := cell_new w 72 (c := #[.pointer (some ⟨s, 0, none⟩)]) (i := 0) rfl
  have HP := Lib.hid (containsIntL_any 89 #[.pointer (some ⟨w.heap.size, 0, none⟩)] (fun t => !x.has t) K v l (w.alloc (.cells #[.pointer (some ⟨s, 0, none⟩)] 72)) (hl.step (Kp.of_all hbb) (fun _ _ h => h))
    (fun t ht => dAll1_any s w.heap.size L us x F vl vu ib vo t _ h1 (hb t ht) hc) Tryz.call89)
  have HB := Lib.hid hbb
  rw [← any_not x.has l]
  obtain ⟨a, c, rfl, _⟩ := hl.form
  clear h hl hb hbb h1 hc
  generalize l.any (fun t => !x.has t) = r at HP ⊢
  go_enter Tryz.func77, Tryz.ntmps77
  go_wp2_with (go_at_call 50; refine HP.out.mono ?_; rintro e w' ⟨rfl, rfl⟩)
  go_ret
  exact ⟨rfl, HB.out⟩

/-- 'closed$1': the test that a number is no term's. -/
theorem dClosed1_any (s bx : Nat) (L : List Nd) (us : List (List Int)) (x : Sp) (F : Nat → Prop) (vl vu : Value) (ib : Nat) (vo : Value) (t : Int) (w : World) (h : IsSp w s L us x F vl vu ib vo)
    (hb : w.cell? ⟨bx, 0, none⟩ = some (.pointer (some ⟨s, 0, none⟩))) :
    Calls Tryz.prog 51 #[.int .i64 t, .pointer (some ⟨bx, 0, none⟩)] w fun e w' => e = .returned (.bool (!hasB L.length t)) ∧ w = w' := by
  obtain ⟨c0, c1, c2, c3⟩ := h.cells
  obtain ⟨a, c, rfl, _⟩ := h.l.form
  unfold hasB
  clear h
  by_cases h0 : t < 0
  · have d : decide (t < 0) = true := by simpa using h0
    have HE := Lib.hid (show (!(decide (0 ≤ t) && decide (t < (L.length : Int)))) = true by simp; omega)
    rw [HE.out]
    go_enter Tryz.func51, Tryz.ntmps51
    go_wp2
    go_ret
    exact ⟨rfl, rfl⟩
  · have d : decide (t < 0) = false := by simpa using h0
    have HE := Lib.hid (show (!(decide (0 ≤ t) && decide (t < (L.length : Int)))) = decide ((L.length : Int) ≤ t) by
      have e : decide (0 ≤ t) = true := by simp; omega
      rw [e, Bool.true_and, ← decide_not]
      exact decide_eq_decide.2 (by omega))
    rw [HE.out]
    go_enter Tryz.func51, Tryz.ntmps51
    go_wp2
    go_ret
    exact ⟨rfl, rfl⟩
end Go.Proofs.YtnkndplbcbehkaaGreatDoor

/-! Layer 5 (deduce): the walk of 'apart'. -/
namespace Go.Proofs.YtnkndplbcbehkaaGreatDoor
open Go.RowKit Go.Cas
set_option maxHeartbeats 8000000
set_option maxRecDepth 20000

/-- A part of a slice of whole numbers. -/
theorem SlRep.sub {K : Nat → Prop} {w : World} {b off n c : Nat} {l : List Int} (h : SlRep K w (.slice (some ⟨b, off, none⟩) n c) l) (i m : Nat) (hm : i + m ≤ l.length) :
    SlRep K w (.slice (some ⟨b, off + i, none⟩) m (c - i)) ((l.drop i).take m) := by
  obtain ⟨h1, h2, h3⟩ := h.ints
  have hlen : ((l.drop i).take m).length = m := by rw [List.length_take, List.length_drop]; omega
  refine SlRep.of_ints ?_
  rw [hlen]
  refine ⟨by rw [List.length_map, hlen]; omega, by omega, ?_⟩
  rcases h3 with ⟨e, _⟩ | ⟨b', off', cap, e, hc, hK, cs, T, fr, hb, hi⟩
  · simp at e
  · simp only [Value.slice.injEq, Option.some.injEq, Addr.mk.injEq, and_true] at e
    obtain ⟨⟨rfl, rfl⟩, _, rfl⟩ := e
    refine .inr ⟨b, off + i, c - i, rfl, by omega, hK, cs, T, fr, hb, fun j u hj => ?_⟩
    rw [Nat.add_assoc]
    refine hi _ u ?_
    rw [List.getElem?_map, List.getElem?_take] at hj
    rw [List.getElem?_map]
    split at hj
    · rw [List.getElem?_drop] at hj; exact hj
    · simp at hj

theorem four_sub {l : List Int} (h : l.length = 4) : (l.drop 1).take 2 = [l.getD 1 0, l.getD 2 0] ∧ (l.drop 1).take 3 = l.drop 1 := by
  rcases l with _ | ⟨a, _ | ⟨b, _ | ⟨c, _ | ⟨d, _ | ⟨e, l⟩⟩⟩⟩⟩ <;> simp at h ⊢

/-- 'apart' of a list, and of whatever is not taken apart. -/
theorem dApart_list (s : Nat) (L : List Nd) (us : List (List Int)) (x : Sp) (F : Nat → Prop) (vl vu : Value) (ib : Nat) (vo : Value) (t : Int) (w : World) (h : IsSp w s L us x F vl vu ib vo) (hk : Mk L) (ht : 0 ≤ t ∧ t < L.length)
    (h8 : (ndF L t).op ≠ 8) (h9 : (ndF L t).op ≠ 9) (h10 : (ndF L t).op ≠ 10) (h12 : (ndF L t).op ≠ 12) :
    Calls Tryz.prog 76 #[.pointer (some ⟨s, 0, none⟩), .int .i64 t] w fun e w' => e = .returned (.tuple #[]) ∧ IsSp1 w s L us vl vu ib F (apartR L us x t) w' := by
  obtain ⟨nb, no, nc, rfl, hnd⟩ := h.node (by omega)
  obtain ⟨nv, n0, n1, n2, n3, n4⟩ := hnd t ht
  have hpt := hk.parts _ (ndF_mem ht).1
  have hap : apartR L us x t = if (ndF L t).op = 3 then addR x (ndF L t).l else x := by
    unfold apartR; rw [if_neg h8, if_neg h9, if_neg h10, if_neg h12]
  obtain ⟨nd0, hnd0⟩ : ∃ nd0, ndF L t = nd0 := ⟨_, rfl⟩
  rw [hnd0] at n0 n1 n2 n4 hap h8 h9 h10 h12 hpt
  rw [hap]
  obtain ⟨na, nlc, hN⟩ := SlRep.intsAt n4
  obtain rfl := hN.form
  have hbb : Below w.heap.size w (w.alloc (.cells #[.int .i64 nd0.op, .int .i64 nd0.n, .string nd0.s, .slice na nd0.l.length nlc] 54)) := (Below.refl _ _).alloc (Nat.le_refl _) _
  have h1 := h.bl hbb
  obtain ⟨c0, c1, c2, c3⟩ := h.cells
  obtain ⟨ht0, ht1⟩ := ht
  have n4' := n4.step (Kp.of_all hbb) (fun _ _ h => h)
  by_cases h3 : nd0.op = 3
  · rw [if_pos h3]
    have HADD := Lib.hid (dAdd_any s L us x F _ vu ib vo _ nd0.l _ h1 n4' hpt)
    have HB := Lib.hid hbb
    rw [h3] at n0 HADD HB
    clear h h1 n4 n4' hnd hpt hN hnd0 hap hbb hk h8 h9 h10 h12 h3
    go_enter Tryz.func76, Tryz.ntmps76
    go_wp2_with (go_at_call 75; refine HADD.out.mono ?_; rintro e w2 ⟨rfl, h2⟩; have H2 := Lib.hid h2; clear h2)
    go_end0
    exact ⟨rfl, IsSp1.trans (St.all HB.out) (fun _ h => h) H2.out⟩
  · rw [if_neg h3]
    have d3 : (nd0.op == 3) = false := by simpa using h3
    have d8 : (nd0.op == 8) = false := by simpa using h8
    have d9 : (nd0.op == 9) = false := by simpa using h9
    have d10 : (nd0.op == 10) = false := by simpa using h10
    have d12 : (nd0.op == 12) = false := by simpa using h12
    have H1 := Lib.hid ((IsSp1.refl h).bl hbb)
    clear h h1 n4 n4' hnd hpt hN hnd0 hap hbb hk h8 h9 h10 h12 h3
    go_enter Tryz.func76, Tryz.ntmps76
    go_wp2_with fail
    go_end0
    exact ⟨rfl, H1.out⟩

/-- 'apart' of what is sealed. -/
theorem dApart_seal (s : Nat) (L : List Nd) (us : List (List Int)) (x : Sp) (F : Nat → Prop) (vl vu : Value) (ib : Nat) (vo : Value) (t : Int) (w : World) (h : IsSp w s L us x F vl vu ib vo) (hk : Mk L) (ht : 0 ≤ t ∧ t < L.length)
    (h8 : (ndF L t).op = 8) :
    Calls Tryz.prog 76 #[.pointer (some ⟨s, 0, none⟩), .int .i64 t] w fun e w' => e = .returned (.tuple #[]) ∧ IsSp1 w s L us vl vu ib F (apartR L us x t) w' := by
  obtain ⟨nb, no, nc, rfl, hnd⟩ := h.node (by omega)
  obtain ⟨nv, n0, n1, n2, n3, n4⟩ := hnd t ht
  have hpt := hk.parts _ (ndF_mem ht).1
  have hl4 := (hk.ar _ (ndF_mem ht).1).1 h8
  have hp0 := hk.part ht (i := 0) (by omega)
  obtain ⟨mv, m0, m1, m2, m3, m4⟩ := hnd _ hp0
  have hk0 := (hk.ar _ (ndF_mem hp0).1).2.2.2.2
  have hpt0 := hk.parts _ (ndF_mem hp0).1
  have hap : apartR L us x t = if (ndF L (ptF (ndF L t) 0)).op = 7 ∧ x.has (ptF (ndF L (ptF (ndF L t) 0)) 0) = true then addR x [ptF (ndF L t) 1, ptF (ndF L t) 2] else x := by
    unfold apartR; rw [if_neg (by rw [h8]; decide), if_pos h8]
  rw [hap]
  clear hnd hap
  generalize ndF L t = nd0 at *
  generalize ndF L (ptF nd0 0) = nd1 at *
  obtain ⟨na, nlc, hN⟩ := SlRep.intsAt n4
  obtain rfl := hN.form
  obtain ⟨pb, po, rfl, hp⟩ := SlRep.get n4 (by omega)
  obtain ⟨ma, mlc, hM⟩ := SlRep.intsAt m4
  obtain rfl := hM.form
  have hlc := hN.cap
  rw [h8] at n0
  rw [hl4] at n3
  rw [hl4] at hlc
  have hbb : Below w.heap.size w (w.alloc (.cells #[.int .i64 8, .int .i64 nd0.n, .string nd0.s, .slice (some ⟨pb, po, none⟩) 4 nlc] 54)) := (Below.refl _ _).alloc (Nat.le_refl _) _
  have h1 := h.bl hbb
  obtain ⟨c0, c1, c2, c3⟩ := h1.cells
  obtain ⟨k0, _, _, _⟩ := h.cells
  obtain ⟨ht0, ht1⟩ := ht
  have n4' := n4.step (Kp.of_all hbb) (fun _ _ h => h)
  have e0 := cell_bl hbb (hp 0 _ (ptF_mem (n := nd0) (i := 0) (by omega)).2)
  rw [Nat.add_zero] at e0
  have g0 := cell_bl hbb m0
  have g1 := cell_bl hbb m1
  have g2 := cell_bl hbb m2
  have g3 := cell_bl hbb m3
  obtain ⟨hp0, hp1⟩ := hp0
  have HX := Lib.hid h
  generalize hbx : Obj.cells #[.int .i64 8, .int .i64 nd0.n, .string nd0.s, .slice (some ⟨pb, po, none⟩) 4 nlc] 54 = bx at *
  have z1 : s ≠ w.heap.size + 1 := by have := HX.out.lt _ HX.out.fs; omega
  have z2 : nb ≠ w.heap.size + 1 := by have := World.block_lt_of_cell? w _ n0; exact fun e => by simp only at this; omega
  have z3 : pb ≠ w.heap.size + 1 := by have := World.block_lt_of_cell? w _ (hp 0 _ (ptF_mem (n := nd0) (i := 0) (by omega)).2); exact fun e => by simp only at this; omega
  subst hbx
  have HH := Lib.hid h1
  have HB := Lib.hid hbb
  have HN4 := Lib.hid n4'
  have HM4 := Lib.hid (m4.step (Kp.of_all hbb) (fun _ _ h => h))
  have HPT := Lib.hid hpt
  clear h h1 n4 n4' m4 hM hpt hN hbb hp m0 m1 m2 m3
  by_cases h7 : nd1.op = 7
  · have hl1 := hk0 h7
    have hq := hpt0 _ (ptF_mem (n := nd1) (i := 0) (by omega)).1
    obtain ⟨mb, mo, rfl, hmq⟩ := SlRep.get HM4.out (by omega)
    have hmq0 := hmq 0 _ (ptF_mem (n := nd1) (i := 0) (by omega)).2
    rw [Nat.add_zero] at hmq0
    have hch := HH.out.has_cell hq
    rw [h7] at g0
    rw [hl1] at g3
    have y1 := cell_al (.cells #[.int .i64 7, .int .i64 nd1.n, .string nd1.s, .slice (some ⟨mb, mo, none⟩) 1 mlc] 54) hmq0
    have y2 := cell_al (.cells #[.int .i64 7, .int .i64 nd1.n, .string nd1.s, .slice (some ⟨mb, mo, none⟩) 1 mlc] 54) hch
    have y3 := cell_al (.cells #[.int .i64 7, .int .i64 nd1.n, .string nd1.s, .slice (some ⟨mb, mo, none⟩) 1 mlc] 54) c1
    obtain ⟨hq0, hq1⟩ := hq
    have hBB : ∀ n, Below (w.alloc (.cells #[.int .i64 8, .int .i64 nd0.n, .string nd0.s, .slice (some ⟨pb, po, none⟩) 4 nlc] 54)).heap.size (w.alloc (.cells #[.int .i64 8, .int .i64 nd0.n, .string nd0.s, .slice (some ⟨pb, po, none⟩) 4 nlc] 54))
      (((w.alloc (.cells #[.int .i64 8, .int .i64 nd0.n, .string nd0.s, .slice (some ⟨pb, po, none⟩) 4 nlc] 54)).alloc (.cells #[.int .i64 7, .int .i64 nd1.n, .string nd1.s, .slice (some ⟨mb, mo, none⟩) 1 mlc] 54)).drewN n) := fun n => below_dN ((Below.refl _ _).alloc (Nat.le_refl _) _) n
    have hBD : ∀ n, Below (w.alloc (.cells #[.int .i64 8, .int .i64 nd0.n, .string nd0.s, .slice (some ⟨pb, po, none⟩) 4 nlc] 54)).heap.size (w.alloc (.cells #[.int .i64 8, .int .i64 nd0.n, .string nd0.s, .slice (some ⟨pb, po, none⟩) 4 nlc] 54))
      (((w.alloc (.cells #[.int .i64 8, .int .i64 nd0.n, .string nd0.s, .slice (some ⟨pb, po, none⟩) 4 nlc] 54)).alloc (.cells #[.int .i64 7, .int .i64 nd1.n, .string nd1.s, .slice (some ⟨mb, mo, none⟩) 1 mlc] 54)).drew.drewN n) := fun n => below_dN ((Below.refl _ _).alloc (Nat.le_refl _) _).drew n
    have HBD := Lib.hid hBD
    have HBB := Lib.hid hBB
    clear hBB hBD hmq hmq0 hch
    cases hhq : x.has (ptF nd1 0) with
    | true =>
      rw [hhq] at y2
      rw [if_pos ⟨h7, rfl⟩]
      have hsub := SlRep.sub HN4.out 1 2 (by omega)
      rw [(four_sub hl4).1] at hsub
      have HADD := Lib.hid (fun n => dAdd_any s L us x F _ vu ib vo _ [ptF nd0 1, ptF nd0 2] _ (HH.out.bl (HBB.out n)) (hsub.step (Kp.of_all (HBB.out n)) (fun _ _ h => h)) (fun t ht => by
        simp only [List.mem_cons, List.not_mem_nil, or_false] at ht
        rcases ht with rfl | rfl
        · exact HPT.out _ (ptF_mem (n := nd0) (i := 1) (by omega)).1
        · exact HPT.out _ (ptF_mem (n := nd0) (i := 2) (by omega)).1))
      have hcl : ¬ nlc = 1 := by omega
      clear hsub hhq hpt0 hk0 h7 hl1 h8
      go_enter Tryz.func76, Tryz.ntmps76
      go_wp2_with fail
      go_region_held3 (fun w' => (w'.cell? ⟨s, 0, none⟩ = some (.slice (some ⟨nb, no, none⟩) L.length nc) ∧ w'.cell? ⟨s, 1, none⟩ = some (.slice (some ⟨ib, 0, none⟩) L.length L.length) ∧ w'.cell? ⟨pb, po, none⟩ = some (.int .i64 (ptF nd0 0)) ∧ w'.cell? ⟨w.heap.size, 3, none⟩ = some (.slice (some ⟨pb, po, none⟩) 4 nlc)) ∧
      w'.cell? ⟨nb, no + (ptF nd0 0).toNat * 4, none⟩ = some (.int .i64 7) ∧ w'.cell? ⟨nb, no + (ptF nd0 0).toNat * 4 + 1, none⟩ = some (.int .i64 nd1.n) ∧ w'.cell? ⟨nb, no + (ptF nd0 0).toNat * 4 + 2, none⟩ = some (.string nd1.s) ∧ w'.cell? ⟨nb, no + (ptF nd0 0).toNat * 4 + 3, none⟩ = some (.slice (some ⟨mb, mo, none⟩) 1 mlc)) (go_keep) (fail)
      all_goals
        go_wp2_with fail
        go_quiet (fail)
        go_wp2_with (go_at_call 75; refine (HADD.out _).mono ?_; rintro e w2 ⟨rfl, h2⟩; have H2 := Lib.hid h2; clear h2)
        go_end0
        exact ⟨rfl, IsSp1.trans ((St.all HB.out).trans (St.all (HBB.out _))) (fun _ h => h) H2.out⟩
    | false =>
      rw [hhq] at y2
      rw [if_neg (fun h => by cases h.2)]
      clear hhq hpt0 hk0 h7 hl1 h8
      go_enter Tryz.func76, Tryz.ntmps76
      go_wp2_with fail
      go_region_held3 (fun w' => (w'.cell? ⟨s, 0, none⟩ = some (.slice (some ⟨nb, no, none⟩) L.length nc) ∧ w'.cell? ⟨s, 1, none⟩ = some (.slice (some ⟨ib, 0, none⟩) L.length L.length) ∧ w'.cell? ⟨pb, po, none⟩ = some (.int .i64 (ptF nd0 0)) ∧ w'.cell? ⟨w.heap.size, 3, none⟩ = some (.slice (some ⟨pb, po, none⟩) 4 nlc)) ∧
      w'.cell? ⟨nb, no + (ptF nd0 0).toNat * 4, none⟩ = some (.int .i64 7) ∧ w'.cell? ⟨nb, no + (ptF nd0 0).toNat * 4 + 1, none⟩ = some (.int .i64 nd1.n) ∧ w'.cell? ⟨nb, no + (ptF nd0 0).toNat * 4 + 2, none⟩ = some (.string nd1.s) ∧ w'.cell? ⟨nb, no + (ptF nd0 0).toNat * 4 + 3, none⟩ = some (.slice (some ⟨mb, mo, none⟩) 1 mlc)) (go_keep) (fail)
      all_goals
        go_wp2_with fail
        go_quiet (fail)
        go_wp2_with fail
        go_end0
        exact ⟨rfl, ((IsSp1.refl HX.out).bl HB.out).bl (HBD.out _)⟩
  · have d7 : (nd1.op == 7) = false := by simpa using h7
    rw [if_neg (fun h => h7 h.1)]
    clear hpt0 hk0 h7
    go_enter Tryz.func76, Tryz.ntmps76
    go_wp2_with fail
    go_region_held3 (fun w' => (w'.cell? ⟨s, 0, none⟩ = some (.slice (some ⟨nb, no, none⟩) L.length nc) ∧ w'.cell? ⟨s, 1, none⟩ = some (.slice (some ⟨ib, 0, none⟩) L.length L.length) ∧ w'.cell? ⟨pb, po, none⟩ = some (.int .i64 (ptF nd0 0)) ∧ w'.cell? ⟨w.heap.size, 3, none⟩ = some (.slice (some ⟨pb, po, none⟩) 4 nlc)) ∧
      w'.cell? ⟨nb, no + (ptF nd0 0).toNat * 4, none⟩ = some (.int .i64 nd1.op) ∧ w'.cell? ⟨nb, no + (ptF nd0 0).toNat * 4 + 1, none⟩ = some (.int .i64 nd1.n) ∧ w'.cell? ⟨nb, no + (ptF nd0 0).toNat * 4 + 2, none⟩ = some (.string nd1.s) ∧ w'.cell? ⟨nb, no + (ptF nd0 0).toNat * 4 + 3, none⟩ = some (.slice ma nd1.l.length mlc)) (go_keep) (fail)
    all_goals
      go_wp2_with fail
      go_quiet (fail)
      go_wp2_with fail
      go_end0
      exact ⟨rfl, ((IsSp1.refl HX.out).bl HB.out).bl (below_dN (((Below.refl _ _).alloc (Nat.le_refl _) _).drew) _)⟩
end Go.Proofs.YtnkndplbcbehkaaGreatDoor

/-! Layer 5 (deduce): the walk of 'apart', the rest. -/
namespace Go.Proofs.YtnkndplbcbehkaaGreatDoor
open Go.RowKit Go.Cas
set_option maxHeartbeats 8000000
set_option maxRecDepth 20000

theorem dn_size (w : World) (n : Nat) : (w.drewN n).heap.size = w.heap.size := rfl

/-- 'apart' of what is locked. -/
theorem dApart_enc (s : Nat) (L : List Nd) (us : List (List Int)) (x : Sp) (F : Nat → Prop) (vl vu : Value) (ib : Nat) (vo : Value) (t : Int) (w : World) (h : IsSp w s L us x F vl vu ib vo) (hk : Mk L) (ht : 0 ≤ t ∧ t < L.length)
    (hop : (ndF L t).op = 9) :
    Calls Tryz.prog 76 #[.pointer (some ⟨s, 0, none⟩), .int .i64 t] w fun e w' => e = .returned (.tuple #[]) ∧ IsSp1 w s L us vl vu ib F (apartR L us x t) w' := by
  obtain ⟨nb, no, nc, rfl, hnd⟩ := h.node (by omega)
  obtain ⟨nv, n0, n1, n2, n3, n4⟩ := hnd t ht
  have hpt := hk.parts _ (ndF_mem ht).1
  have hl := (hk.ar _ (ndF_mem ht).1).2.1 hop
  have hq := hk.part ht (i := 0) (by omega)
  have hap : apartR L us x t = if x.has (ptF (ndF L t) 0) = true then addR x ((ndF L t).l.drop 1) else x := by
    unfold apartR; rw [if_neg (by rw [hop]; decide), if_neg (by rw [hop]; decide), if_pos hop]
  rw [hap]
  clear hnd hap
  generalize ndF L t = nd0 at *
  obtain ⟨na, nlc, hN⟩ := SlRep.intsAt n4
  obtain rfl := hN.form
  obtain ⟨pb, po, rfl, hp⟩ := SlRep.get n4 (by omega)
  have hlc := hN.cap
  rw [hop] at n0
  rw [hl] at n3
  rw [hl] at hlc
  have hbb : Below w.heap.size w (w.alloc (.cells #[.int .i64 9, .int .i64 nd0.n, .string nd0.s, .slice (some ⟨pb, po, none⟩) 4 nlc] 54)) := (Below.refl _ _).alloc (Nat.le_refl _) _
  have h1 := h.bl hbb
  obtain ⟨c0, c1, c2, c3⟩ := h1.cells
  obtain ⟨k0, _, _, _⟩ := h.cells
  obtain ⟨ht0, ht1⟩ := ht
  have n4' := n4.step (Kp.of_all hbb) (fun _ _ h => h)
  have e0 := cell_bl hbb (hp 0 _ (ptF_mem (n := nd0) (i := 0) (by omega)).2)
  have e1 := cell_bl hbb (hp 1 _ (ptF_mem (n := nd0) (i := 1) (by omega)).2)
  rw [Nat.add_zero] at e0
  have HX := Lib.hid h
  have HH := Lib.hid h1
  have HB := Lib.hid hbb
  have HPT := Lib.hid hpt
  have hch := HH.out.has_cell hq
  obtain ⟨hq0, hq1⟩ := hq
  have hBB : ∀ n, Below (w.alloc (.cells #[.int .i64 9, .int .i64 nd0.n, .string nd0.s, .slice (some ⟨pb, po, none⟩) 4 nlc] 54)).heap.size (w.alloc (.cells #[.int .i64 9, .int .i64 nd0.n, .string nd0.s, .slice (some ⟨pb, po, none⟩) 4 nlc] 54))
    ((w.alloc (.cells #[.int .i64 9, .int .i64 nd0.n, .string nd0.s, .slice (some ⟨pb, po, none⟩) 4 nlc] 54)).drewN n) := fun n => below_dN (Below.refl _ _) n
  have HBB := Lib.hid hBB
  have hsub := SlRep.sub n4' 1 3 (by omega)
  rw [(four_sub hl).2] at hsub
  have HSUB := Lib.hid hsub
  have hcl : ¬ nlc = 1 := by omega
  clear h h1 n4 n4' hpt hN hbb hp hBB hsub hop hl
  cases hhq : x.has (ptF nd0 0) with
  | true =>
    rw [hhq] at hch
    rw [if_pos rfl]
    have HADD := Lib.hid (fun n => dAdd_any s L us x F _ vu ib vo _ (nd0.l.drop 1) _ (HH.out.bl (HBB.out n)) (HSUB.out.step (Kp.of_all (HBB.out n)) (fun _ _ h => h)) (fun t ht => HPT.out _ (List.mem_of_mem_drop ht)))
    clear hhq
    go_enter Tryz.func76, Tryz.ntmps76
    go_wp2_with fail
    go_quiet (fail)
    go_wp2_with (go_at_call 75; refine (HADD.out _).mono ?_; rintro e w2 ⟨rfl, h2⟩; have H2 := Lib.hid h2; clear h2)
    go_end0
    exact ⟨rfl, IsSp1.trans ((St.all HB.out).trans (St.all (HBB.out _))) (fun _ h => h) H2.out⟩
  | false =>
    rw [hhq] at hch
    rw [if_neg (by decide)]
    clear hhq
    go_enter Tryz.func76, Tryz.ntmps76
    go_wp2_with fail
    go_quiet (fail)
    go_wp2_with fail
    go_end0
    exact ⟨rfl, ((IsSp1.refl HX.out).bl HB.out).bl (HBB.out _)⟩

/-- 'apart' of what is blinded. -/
theorem dApart_blind (s : Nat) (L : List Nd) (us : List (List Int)) (x : Sp) (F : Nat → Prop) (vl vu : Value) (ib : Nat) (vo : Value) (t : Int) (w : World) (h : IsSp w s L us x F vl vu ib vo) (hk : Mk L) (ht : 0 ≤ t ∧ t < L.length)
    (hop : (ndF L t).op = 12) :
    Calls Tryz.prog 76 #[.pointer (some ⟨s, 0, none⟩), .int .i64 t] w fun e w' => e = .returned (.tuple #[]) ∧ IsSp1 w s L us vl vu ib F (apartR L us x t) w' := by
  obtain ⟨nb, no, nc, rfl, hnd⟩ := h.node (by omega)
  obtain ⟨nv, n0, n1, n2, n3, n4⟩ := hnd t ht
  have hpt := hk.parts _ (ndF_mem ht).1
  have hl := (hk.ar _ (ndF_mem ht).1).2.2.2.1 hop
  have hq := hk.part ht (i := 1) (by omega)
  have hap : apartR L us x t = if x.has (ptF (ndF L t) 1) = true then addR x [ptF (ndF L t) 0] else x := by
    unfold apartR; rw [if_neg (by rw [hop]; decide), if_neg (by rw [hop]; decide), if_neg (by rw [hop]; decide), if_neg (by rw [hop]; decide), if_pos hop]
  rw [hap]
  clear hnd hap
  generalize ndF L t = nd0 at *
  obtain ⟨na, nlc, hN⟩ := SlRep.intsAt n4
  obtain rfl := hN.form
  obtain ⟨pb, po, rfl, hp⟩ := SlRep.get n4 (by omega)
  have hlc := hN.cap
  rw [hop] at n0
  rw [hl] at n3
  rw [hl] at hlc
  have hbb : Below w.heap.size w (w.alloc (.cells #[.int .i64 12, .int .i64 nd0.n, .string nd0.s, .slice (some ⟨pb, po, none⟩) 2 nlc] 54)) := (Below.refl _ _).alloc (Nat.le_refl _) _
  have h1 := h.bl hbb
  obtain ⟨c0, c1, c2, c3⟩ := h1.cells
  obtain ⟨k0, _, _, _⟩ := h.cells
  obtain ⟨ht0, ht1⟩ := ht
  have n4' := n4.step (Kp.of_all hbb) (fun _ _ h => h)
  have e0 := cell_bl hbb (hp 0 _ (ptF_mem (n := nd0) (i := 0) (by omega)).2)
  have e1 := cell_bl hbb (hp 1 _ (ptF_mem (n := nd0) (i := 1) (by omega)).2)
  rw [Nat.add_zero] at e0
  have HX := Lib.hid h
  have HH := Lib.hid h1
  have HB := Lib.hid hbb
  have HPT := Lib.hid hpt
  have hch := HH.out.has_cell hq
  obtain ⟨hq0, hq1⟩ := hq
  have hBB : ∀ n, Below (w.alloc (.cells #[.int .i64 12, .int .i64 nd0.n, .string nd0.s, .slice (some ⟨pb, po, none⟩) 2 nlc] 54)).heap.size (w.alloc (.cells #[.int .i64 12, .int .i64 nd0.n, .string nd0.s, .slice (some ⟨pb, po, none⟩) 2 nlc] 54))
    ((w.alloc (.cells #[.int .i64 12, .int .i64 nd0.n, .string nd0.s, .slice (some ⟨pb, po, none⟩) 2 nlc] 54)).drewN n) := fun n => below_dN (Below.refl _ _) n
  have HBB := Lib.hid hBB
  have hp0 := hpt _ (ptF_mem (n := nd0) (i := 0) (by omega)).1
  clear h h1 n4 n4' hpt hN hbb hp hBB hop hl
  cases hhq : x.has (ptF nd0 1) with
  | true =>
    rw [hhq] at hch
    rw [if_pos rfl]
    have HADD := Lib.hid (fun n => dAdd_any s L us x F _ vu ib vo _ [ptF nd0 0] _ ((HH.out.bl (HBB.out n)).one (ptF nd0 0)).1 ((HH.out.bl (HBB.out n)).one (ptF nd0 0)).2 (fun t ht => by rw [List.mem_singleton] at ht; rw [ht]; exact hp0))
    simp only [dn_size, al_size] at HADD
    clear hhq
    go_enter Tryz.func76, Tryz.ntmps76
    go_wp2_with fail
    go_quiet (fail)
    go_wp2_with (go_at_call 75; refine (HADD.out _).mono ?_; rintro e w2 ⟨rfl, h2⟩; have H2 := Lib.hid h2; clear h2)
    go_end0
    exact ⟨rfl, IsSp1.trans (((St.all HB.out).trans (St.all (HBB.out _))).trans (St.all ((Below.refl _ _).alloc (Nat.le_refl _) _))) (fun _ h => h) H2.out⟩
  | false =>
    rw [hhq] at hch
    rw [if_neg (by decide)]
    clear hhq
    go_enter Tryz.func76, Tryz.ntmps76
    go_wp2_with fail
    go_quiet (fail)
    go_wp2_with fail
    go_end0
    exact ⟨rfl, ((IsSp1.refl HX.out).bl HB.out).bl (HBB.out _)⟩

end Go.Proofs.YtnkndplbcbehkaaGreatDoor

/-! Layer 5 (deduce): the walk of 'apart', of what is signed; 'apart', whole. -/
namespace Go.Proofs.YtnkndplbcbehkaaGreatDoor
open Go.RowKit Go.Cas
set_option maxHeartbeats 16000000
set_option maxRecDepth 20000

theorem SlRep.getK {K : Nat → Prop} {w : World} {a : Option Addr} {n c : Nat} {l : List Int} (h : SlRep K w (.slice a n c) l) (h0 : 0 < l.length) :
    ∃ b off, a = some ⟨b, off, none⟩ ∧ K b ∧ ∀ i x, l[i]? = some x → w.cell? ⟨b, off + i, none⟩ = some (.int .i64 x) := by
  obtain ⟨a', c', e, _, _, ho⟩ := h.openInt
  simp only [Value.slice.injEq] at e
  obtain ⟨b, off, e', hK, _, hi⟩ := ho h0
  exact ⟨b, off, e.1.trans e', hK, hi⟩

/-- Between the parts of the walk: what is signed, and what it is a signature of, in memory. -/
structure SigAt (w w2 : World) (s : Nat) (L : List Nd) (us : List (List Int)) (F1 : Nat → Prop) (vl vu : Value) (ib : Nat) (vo1 : Value) (x1 : Sp) (nd0 nd1 : Nd) (pb po nlc nb no nc : Nat) (ma : Option Addr) (mlc : Nat) : Prop where
  sp : IsSp w2 s L us x1 F1 vl vu ib vo1
  box : w2.heap[w.heap.size]? = some (.cells #[.int .i64 10, .int .i64 nd0.n, .string nd0.s, .slice (some ⟨pb, po, none⟩) 2 nlc] 54 (0, 0))
  nb0 : ¬ F1 w.heap.size
  npb : ¬ F1 pb
  c0 : w2.cell? ⟨s, 0, none⟩ = some (.slice (some ⟨nb, no, none⟩) L.length nc)
  c1 : w2.cell? ⟨s, 1, none⟩ = some (.slice (some ⟨ib, 0, none⟩) L.length L.length)
  e0 : w2.cell? ⟨pb, po, none⟩ = some (.int .i64 (ptF nd0 0))
  e1 : w2.cell? ⟨pb, po + 1, none⟩ = some (.int .i64 (ptF nd0 1))
  b3 : w2.cell? ⟨w.heap.size, 3, none⟩ = some (.slice (some ⟨pb, po, none⟩) 2 nlc)
  m0 : w2.cell? ⟨nb, no + (ptF nd0 1).toNat * 4, none⟩ = some (.int .i64 nd1.op)
  m1 : w2.cell? ⟨nb, no + (ptF nd0 1).toNat * 4 + 1, none⟩ = some (.int .i64 nd1.n)
  m2 : w2.cell? ⟨nb, no + (ptF nd0 1).toNat * 4 + 2, none⟩ = some (.string nd1.s)
  m3 : w2.cell? ⟨nb, no + (ptF nd0 1).toNat * 4 + 3, none⟩ = some (.slice ma nd1.l.length mlc)
  m4 : SlRep (fun b => ¬ F1 b) w2 (.slice ma nd1.l.length mlc) nd1.l

/-- 'apart' of what is signed. -/
theorem dApart_sig (s : Nat) (L : List Nd) (us : List (List Int)) (x : Sp) (F : Nat → Prop) (vl vu : Value) (ib : Nat) (vo : Value) (t : Int) (w : World) (h : IsSp w s L us x F vl vu ib vo) (hk : Mk L) (hu : UsOk L us) (ht : 0 ≤ t ∧ t < L.length)
    (hop : (ndF L t).op = 10) :
    Calls Tryz.prog 76 #[.pointer (some ⟨s, 0, none⟩), .int .i64 t] w fun e w' => e = .returned (.tuple #[]) ∧ IsSp1 w s L us vl vu ib F (apartR L us x t) w' := by
  obtain ⟨nb, no, nc, rfl, hnd⟩ := h.node (by omega)
  obtain ⟨nv, n0, n1, n2, n3, n4⟩ := hnd t ht
  have hpt := hk.parts _ (ndF_mem ht).1
  have hl := (hk.ar _ (ndF_mem ht).1).2.2.1 hop
  have hq := hk.part ht (i := 1) (by omega)
  have hk1 := (hk.ar _ (ndF_mem hq).1).2.2.2.1
  have hpt1 := hk.parts _ (ndF_mem hq).1
  have hap : apartR L us x t = (if (ndF L (ptF (ndF L t) 1)).op = 12 ∧ (addR x [ptF (ndF L t) 1]).has (ptF (ndF L (ptF (ndF L t) 1)) 1) = true
      then unbR L (ptF (ndF L t) 0) (ptF (ndF L (ptF (ndF L t) 1)) 0) (addR x [ptF (ndF L t) 1]) (us.getD (ptF (ndF L (ptF (ndF L t) 1)) 0).toNat []) else addR x [ptF (ndF L t) 1]) := by
    unfold apartR; rw [if_neg (by rw [hop]; decide), if_neg (by rw [hop]; decide), if_neg (by rw [hop]; decide), if_pos hop]
  rw [hap]
  clear hnd hap
  generalize ndF L t = nd0 at *
  generalize hnd1 : ndF L (ptF nd0 1) = nd1 at *
  obtain ⟨na, nlc, hN⟩ := SlRep.intsAt n4
  obtain rfl := hN.form
  obtain ⟨pb, po, rfl, hp⟩ := SlRep.get n4 (by omega)
  have hlc := hN.cap
  rw [hop] at n0
  rw [hl] at n3
  rw [hl] at hlc
  have hbb : Below w.heap.size w (w.alloc (.cells #[.int .i64 10, .int .i64 nd0.n, .string nd0.s, .slice (some ⟨pb, po, none⟩) 2 nlc] 54)) := (Below.refl _ _).alloc (Nat.le_refl _) _
  have h1 := h.bl hbb
  obtain ⟨c0, c1, c2, c3⟩ := h1.cells
  obtain ⟨k0, _, _, _⟩ := h.cells
  obtain ⟨ht0, ht1⟩ := ht
  have n4' := n4.step (Kp.of_all hbb) (fun _ _ h => h)
  have e0 := cell_bl hbb (hp 0 _ (ptF_mem (n := nd0) (i := 0) (by omega)).2)
  have e1 := cell_bl hbb (hp 1 _ (ptF_mem (n := nd0) (i := 1) (by omega)).2)
  rw [Nat.add_zero] at e0
  have HX := Lib.hid h
  have HH := Lib.hid h1
  have HB := Lib.hid hbb
  have HPT := Lib.hid hpt
  obtain ⟨_, _, e', hnF, _⟩ := SlRep.getK n4 (by omega)
  cases e'
  have HN4 := Lib.hid n4
  have hsg : ∀ w2 F1 vo1, IsSp w2 s L us (addR x [ptF nd0 1]) F1 (.slice (some ⟨nb, no, none⟩) L.length nc) vu ib vo1 → St F ((w.alloc (.cells #[.int .i64 10, .int .i64 nd0.n, .string nd0.s, .slice (some ⟨pb, po, none⟩) 2 nlc] 54)).alloc (.cells #[.int .i64 (ptF nd0 1)] 3)) F1 w2 →
      ∃ ma mlc, SigAt w w2 s L us F1 (.slice (some ⟨nb, no, none⟩) L.length nc) vu ib vo1 (addR x [ptF nd0 1]) nd0 nd1 pb po nlc nb no nc ma mlc := by
    intro w2 F1 vo1 hs hst
    obtain ⟨c0, c1, _, _⟩ := hs.cells
    obtain ⟨_, _, _, e, hnd⟩ := hs.node (by omega)
    cases e
    obtain ⟨mv, m0, m1, m2, m3, m4⟩ := hnd _ hq
    rw [hnd1] at m0 m1 m2 m4
    obtain ⟨ma, mlc, hM⟩ := SlRep.intsAt m4
    obtain rfl := hM.form
    have hbx := hst.heap (b := w.heap.size) (fun hf => by have := HX.out.lt _ hf; omega) (heap_al _ (heap_new w _))
    have hb2 : Below w.heap.size w ((w.alloc (.cells #[.int .i64 10, .int .i64 nd0.n, .string nd0.s, .slice (some ⟨pb, po, none⟩) 2 nlc] 54)).alloc (.cells #[.int .i64 (ptF nd0 1)] 3)) := ((Below.refl _ _).alloc (Nat.le_refl _) _).alloc (by simp) _
    have hn4 := (HN4.out.step (Kp.of_all hb2) (fun _ _ h => h)).step hst.kp (fun b hb hn => hst.not hb hn)
    have hg := SlRep.get1 hn4
    obtain ⟨_, _, e, hnpb, _⟩ := SlRep.getK hn4 (by omega)
    cases e
    have e0 := hg 0 _ (ptF_mem (n := nd0) (i := 0) (by omega)).2
    rw [Nat.add_zero] at e0
    exact ⟨ma, mlc, hs, hbx.1, hbx.2, hnpb, c0, c1, e0, hg 1 _ (ptF_mem (n := nd0) (i := 1) (by omega)).2, by rw [cell_of_row _ _ _ _ _ _ hbx.1]; rfl, m0, m1, m2, m3, m4⟩
  have HSG := Lib.hid hsg
  have HB2 := Lib.hid (show Below w.heap.size w ((w.alloc (.cells #[.int .i64 10, .int .i64 nd0.n, .string nd0.s, .slice (some ⟨pb, po, none⟩) 2 nlc] 54)).alloc (.cells #[.int .i64 (ptF nd0 1)] 3)) from ((Below.refl _ _).alloc (Nat.le_refl _) _).alloc (by simp) _)
  have hADD := dAdd_any s L us x F _ vu ib vo _ [ptF nd0 1] _ (HH.out.one (ptF nd0 1)).1 (HH.out.one (ptF nd0 1)).2 (fun t ht => by rw [List.mem_singleton] at ht; rw [ht]; exact hq)
  simp only [al_size] at hADD
  have HADD := Lib.hid hADD
  have HK1 := Lib.hid hk1
  have HP1 := Lib.hid hpt1
  have HKK := Lib.hid hk
  have HUS := Lib.hid hu
  have HQ := Lib.hid hq
  have HL := Lib.hid hl
  clear h h1 n4 n4' hpt hN hbb hp hop hl hsg hADD hk1 hpt1 hk hu hnd1
  generalize hr : (if nd1.op = 12 ∧ (addR x [ptF nd0 1]).has (ptF nd1 1) = true then unbR L (ptF nd0 0) (ptF nd1 0) (addR x [ptF nd0 1]) (us.getD (ptF nd1 0).toNat []) else addR x [ptF nd0 1]) = r
  have HR := Lib.hid hr
  clear hr
  generalize hx1 : addR x [ptF nd0 1] = x1 at *
  clear hx1
  go_enter Tryz.func76, Tryz.ntmps76
  go_wp2_with (go_at_call 75; refine HADD.out.mono ?_; rintro e w2 ⟨rfl, h2⟩; obtain ⟨F1, vo1, hs2, hst2, hold2⟩ := h2.ex; obtain ⟨ma, mlc, hsa⟩ := HSG.out w2 F1 vo1 hs2 hst2; have HSA := Lib.hid hsa; have HST := Lib.hid hst2; have HOL := Lib.hid hold2; obtain ⟨_, _, _, _, d0, d1, f0, f1, d3, m0, m1, m2, m3, _⟩ := hsa; clear h2 hs2 hst2 hold2)
  have z1 : s ≠ w2.heap.size := by have := World.block_lt_of_cell? w2 _ d0; exact fun e => by simp only at this; omega
  have z2 : nb ≠ w2.heap.size := by have := World.block_lt_of_cell? w2 _ m0; exact fun e => by simp only at this; omega
  have z3 : pb ≠ w2.heap.size := by have := World.block_lt_of_cell? w2 _ f0; exact fun e => by simp only at this; omega
  have z4 : w.heap.size ≠ w2.heap.size := by have := World.block_lt_of_cell? w2 _ d3; exact fun e => by simp only at this; omega
  obtain ⟨hq0, hq1⟩ := HQ.out
  by_cases h12 : nd1.op = 12
  · have hl1 := HK1.out h12
    have hy := HP1.out _ (ptF_mem (n := nd1) (i := 1) (by omega)).1
    have hz := HP1.out _ (ptF_mem (n := nd1) (i := 0) (by omega)).1
    obtain ⟨mb, mo, rfl, hmF, hmq⟩ := SlRep.getK HSA.out.m4 (by omega)
    have hm0 := hmq 0 _ (ptF_mem (n := nd1) (i := 0) (by omega)).2
    have hm1 := hmq 1 _ (ptF_mem (n := nd1) (i := 1) (by omega)).2
    rw [Nat.add_zero] at hm0
    have hch := HSA.out.sp.has_cell hy
    rw [h12] at m0
    rw [hl1] at m3
    have y0 := cell_al (.cells #[.int .i64 12, .int .i64 nd1.n, .string nd1.s, .slice (some ⟨mb, mo, none⟩) 2 mlc] 54) hm0
    have y1 := cell_al (.cells #[.int .i64 12, .int .i64 nd1.n, .string nd1.s, .slice (some ⟨mb, mo, none⟩) 2 mlc] 54) hm1
    have y2 := cell_al (.cells #[.int .i64 12, .int .i64 nd1.n, .string nd1.s, .slice (some ⟨mb, mo, none⟩) 2 mlc] 54) hch
    have y3 := cell_al (.cells #[.int .i64 12, .int .i64 nd1.n, .string nd1.s, .slice (some ⟨mb, mo, none⟩) 2 mlc] 54) d1
    have y4 := cell_al (.cells #[.int .i64 12, .int .i64 nd1.n, .string nd1.s, .slice (some ⟨mb, mo, none⟩) 2 mlc] 54) d3
    have y5 := cell_al (.cells #[.int .i64 12, .int .i64 nd1.n, .string nd1.s, .slice (some ⟨mb, mo, none⟩) 2 mlc] 54) f0
    obtain ⟨hy0, hy1⟩ := hy
    have hBB : ∀ n, Below w2.heap.size w2 ((w2.alloc (.cells #[.int .i64 12, .int .i64 nd1.n, .string nd1.s, .slice (some ⟨mb, mo, none⟩) 2 mlc] 54)).drewN n) := fun n => below_dN ((Below.refl _ _).alloc (Nat.le_refl _) _) n
    have HBB := Lib.hid hBB
    have HMF := Lib.hid hmF
    have HNW := Lib.hid (show ¬ F1 w2.heap.size from fun hf => by have := HSA.out.sp.lt _ hf; omega)
    have HNC := Lib.hid (cell_new w2 54 (c := #[.int .i64 12, .int .i64 nd1.n, .string nd1.s, .slice (some ⟨mb, mo, none⟩) 2 mlc]) (i := 3) rfl)
    have HZ := Lib.hid hz
    have H12 := Lib.hid h12
    clear hBB hmF hmq hm0 hm1 hch hz h12 hl1
    cases hhq : x1.has (ptF nd1 1) with
    | true =>
      rw [hhq] at y2
      have hr := HR.out
      rw [if_pos ⟨H12.out, hhq⟩] at hr
      have HR := Lib.hid hr
      clear hr
      have HUN := Lib.hid (fun W (hb : Below w2.heap.size w2 W) => dUnblind_any s L us x1 F1 _ vu ib vo1 (ptF nd0 0) (ptF nd1 0) W (HSA.out.sp.bl hb) HKK.out HUS.out HZ.out)
      clear hhq
      go_wp2_with fail
      go_region_held3 (fun w' => (w'.cell? ⟨s, 0, none⟩ = some (.slice (some ⟨nb, no, none⟩) L.length nc) ∧ w'.cell? ⟨pb, po + 1, none⟩ = some (.int .i64 (ptF nd0 1)) ∧ w'.cell? ⟨w.heap.size, 3, none⟩ = some (.slice (some ⟨pb, po, none⟩) 2 nlc)) ∧
      w'.cell? ⟨nb, no + (ptF nd0 1).toNat * 4, none⟩ = some (.int .i64 12) ∧ w'.cell? ⟨nb, no + (ptF nd0 1).toNat * 4 + 1, none⟩ = some (.int .i64 nd1.n) ∧ w'.cell? ⟨nb, no + (ptF nd0 1).toNat * 4 + 2, none⟩ = some (.string nd1.s) ∧ w'.cell? ⟨nb, no + (ptF nd0 1).toNat * 4 + 3, none⟩ = some (.slice (some ⟨mb, mo, none⟩) 2 mlc)) (go_keep) (fail)

      all_goals
        go_wp2_with fail
        go_quiet (fail)
        go_wp2_with fail
        go_region_held3 (fun w' => w'.cell? ⟨w.heap.size, 3, none⟩ = some (.slice (some ⟨pb, po, none⟩) 2 nlc) ∧ w'.cell? ⟨pb, po, none⟩ = some (.int .i64 (ptF nd0 0)) ∧ w'.cell? ⟨w2.heap.size, 3, none⟩ = some (.slice (some ⟨mb, mo, none⟩) 2 mlc) ∧ w'.cell? ⟨mb, mo, none⟩ = some (.int .i64 (ptF nd1 0))) (go_keep)
          (first | (go_at_call 88; refine (HUN.out _ (HBB.out _)).mono ?_; rintro e w4 ⟨rfl, h4⟩; obtain ⟨F4, vo4, i4, st4, old4⟩ := h4.ex; have a1 := st4.kp.cell (K := fun b => ¬ F1 b) HSA.out.nb0 y4; have a2 := st4.kp.cell (K := fun b => ¬ F1 b) HSA.out.npb y5; have a3 := st4.kp.cell (K := fun b => ¬ F1 b) HMF.out y0; have a4 := st4.kp.cell (K := fun b => ¬ F1 b) HNW.out HNC.out; have H4 := Lib.hid h4; clear i4 st4 old4 h4))
        all_goals
          go_wp2_with fail
          go_end0
          exact ⟨rfl, by rw [← HR.out]; exact IsSp1.trans (((St.all HB2.out).trans HST.out).trans (St.all (HBB.out _))) HOL.out H4.out⟩
    | false =>
      rw [hhq] at y2
      have hr := HR.out
      rw [if_neg (fun h => by rw [hhq] at h; cases h.2)] at hr
      have HR := Lib.hid hr
      clear hr
      clear hhq
      go_wp2_with fail
      go_region_held3 (fun w' => (w'.cell? ⟨s, 0, none⟩ = some (.slice (some ⟨nb, no, none⟩) L.length nc) ∧ w'.cell? ⟨pb, po + 1, none⟩ = some (.int .i64 (ptF nd0 1)) ∧ w'.cell? ⟨w.heap.size, 3, none⟩ = some (.slice (some ⟨pb, po, none⟩) 2 nlc)) ∧
      w'.cell? ⟨nb, no + (ptF nd0 1).toNat * 4, none⟩ = some (.int .i64 12) ∧ w'.cell? ⟨nb, no + (ptF nd0 1).toNat * 4 + 1, none⟩ = some (.int .i64 nd1.n) ∧ w'.cell? ⟨nb, no + (ptF nd0 1).toNat * 4 + 2, none⟩ = some (.string nd1.s) ∧ w'.cell? ⟨nb, no + (ptF nd0 1).toNat * 4 + 3, none⟩ = some (.slice (some ⟨mb, mo, none⟩) 2 mlc)) (go_keep) (fail)

      all_goals
        go_wp2_with fail
        go_quiet (fail)
        go_wp2_with fail
        go_end0
        exact ⟨rfl, by rw [← HR.out]; exact (IsSp1.trans (St.all HB2.out) (fun _ h => h) ⟨F1, vo1, HSA.out.sp, HST.out, HOL.out⟩).bl (below_dN (((Below.refl _ _).alloc (Nat.le_refl _) _).drew) _)⟩
  · have d12 : (nd1.op == 12) = false := by simpa using h12
    have hr := HR.out
    rw [if_neg (fun h => h12 h.1)] at hr
    have HR := Lib.hid hr
    clear hr
    clear h12
    go_wp2_with fail
    go_region_held3 (fun w' => (w'.cell? ⟨s, 0, none⟩ = some (.slice (some ⟨nb, no, none⟩) L.length nc) ∧ w'.cell? ⟨pb, po + 1, none⟩ = some (.int .i64 (ptF nd0 1)) ∧ w'.cell? ⟨w.heap.size, 3, none⟩ = some (.slice (some ⟨pb, po, none⟩) 2 nlc)) ∧
      w'.cell? ⟨nb, no + (ptF nd0 1).toNat * 4, none⟩ = some (.int .i64 nd1.op) ∧ w'.cell? ⟨nb, no + (ptF nd0 1).toNat * 4 + 1, none⟩ = some (.int .i64 nd1.n) ∧ w'.cell? ⟨nb, no + (ptF nd0 1).toNat * 4 + 2, none⟩ = some (.string nd1.s) ∧ w'.cell? ⟨nb, no + (ptF nd0 1).toNat * 4 + 3, none⟩ = some (.slice ma nd1.l.length mlc)) (go_keep) (fail)

    all_goals
      go_wp2_with fail
      go_quiet (fail)
      go_wp2_with fail
      go_end0
      exact ⟨rfl, by rw [← HR.out]; exact (IsSp1.trans (St.all HB2.out) (fun _ h => h) ⟨F1, vo1, HSA.out.sp, HST.out, HOL.out⟩).bl (below_dN (((Below.refl _ _).alloc (Nat.le_refl _) _).drew) _)⟩

end Go.Proofs.YtnkndplbcbehkaaGreatDoor

/-! Layer 3 (term): the walk of 'Node'. -/
namespace Go.Proofs.YtnkndplbcbehkaaGreatDoor
open Go.RowKit Go.Cas
set_option maxHeartbeats 4000000
set_option maxRecDepth 20000

theorem row4_at {w : World} {b : Nat} {x y z u : Value} {T : TypeId} (h : w.heap[b]? = some (.cells #[x, y, z, u] T (0, 0))) :
    (w.cell? ⟨b, 0, none⟩ = some x ∧ w.cell? ⟨b, 1, none⟩ = some y ∧ w.cell? ⟨b, 2, none⟩ = some z ∧ w.cell? ⟨b, 3, none⟩ = some u) ∧ ∀ o, w.frozen? ⟨b, o, none⟩ = false := by
  refine ⟨⟨?_, ?_, ?_, ?_⟩, fun o => ?_⟩
  · rw [cell_of_row _ _ _ _ _ _ h]; rfl
  · rw [cell_of_row _ _ _ _ _ _ h]; rfl
  · rw [cell_of_row _ _ _ _ _ _ h]; rfl
  · rw [cell_of_row _ _ _ _ _ _ h]; rfl
  · unfold World.frozen?; rw [h]; simp

/-- An arena's nodes are read. -/
theorem IsArG.nodesRep {T : TypeId} {key : Nd → List UInt8} {w : World} {p : Nat} {F : Nat → Prop} {L : List Nd} (h : IsArG T key w p F L) :
    ∃ v, w.cell? ⟨p, 0, none⟩ = some v ∧ SlRep (fun _ => True) w v L := by
  obtain ⟨v, m, xs, h0, h1, h2, _⟩ := h
  exact ⟨v, by rw [cell_of_row _ _ _ _ _ _ h0]; rfl, xs, SlR.of_own h1 (fun _ _ => trivial), h2.step (Kp.refl _ _) (fun _ _ _ => trivial)⟩

theorem IsArG.wf {T : TypeId} {key : Nd → List UInt8} {w : World} {p : Nat} {F : Nat → Prop} {L : List Nd} (h : IsArG T key w p F L) : Wf L := by
  obtain ⟨_, _, _, _, _, _, _, _, _, _, _, _, h⟩ := h; exact h

/-- 'Node' of no term. -/
theorem tNode_out (T : TypeId) (key : Nd → List UInt8) (p : Nat) (F : Nat → Prop) (L : List Nd) (t : Int) (w : World) (ha : IsArG T key w p F L) (ht : hasB L.length t = false) :
    Calls Tryz.prog 72 #[.pointer (some ⟨p, 0, none⟩), .int .i64 t] w fun e w' => e = .returned (.tuple #[.agg #[.int .i64 0, .int .i64 0, .string ⟨#[]⟩, .slice none 0 0], .int .i64 4]) ∧ Below w.heap.size w w' := by
  obtain ⟨a, c, h0⟩ := ha.cell0
  have hb : ∀ o, Below w.heap.size w (w.alloc o) := fun o => (Below.refl _ _).alloc (Nat.le_refl _) _
  have HC := Lib.hid (fun o => tHas_any p t a L.length c (w.alloc o) (cell_bl (hb o) h0))
  rw [ht] at HC
  clear ha ht
  go_enter Tryz.func72, Tryz.ntmps72
  go_wp2_with (go_at_call 55; refine (HC.out _).mono ?_; rintro e w' ⟨rfl, rfl⟩)
  refine bodyPost_ret (v := .tuple #[.agg #[.int .i64 0, .int .i64 0, .string ⟨#[]⟩, .slice none 0 0], .int .i64 4]) (by simp [results, Tryz.results72, go_sem]) rfl ?_
  exact ⟨rfl, (Below.refl _ _).alloc (Nat.le_refl _) _⟩

/-- 'Node' of a term. -/
theorem tNode_in (T : TypeId) (key : Nd → List UInt8) (p : Nat) (F : Nat → Prop) (L : List Nd) (t : Int) (w : World) (ha : IsArG T key w p F L) (ht : 0 ≤ t ∧ t < L.length) :
    Calls Tryz.prog 72 #[.pointer (some ⟨p, 0, none⟩), .int .i64 t] w fun e w' => Below w.heap.size w w' ∧
      ∃ v, e = .returned (.tuple #[.agg #[.int .i64 (ndF L t).op, .int .i64 (ndF L t).n, .string (ndF L t).s, v], .int .i64 0]) ∧ SlRep (fun b => w.heap.size ≤ b) w' v (ndF L t).l := by
  obtain ⟨a, c, h0⟩ := ha.cell0
  have hb : ∀ o, Below w.heap.size w (w.alloc o) := fun o => (Below.refl _ _).alloc (Nat.le_refl _) _
  have hgood := ha.wf.good ha.len_le (ndF_mem ht).1
  have hln := hgood.len
  obtain ⟨lv, hl0, hl1⟩ := ha.nodesRep
  obtain ⟨b, off, c', e, _, _, _, hi⟩ := hl1.at (by omega)
  rw [h0] at hl0
  cases Option.some.inj hl0
  cases e
  have hasb : hasB L.length t = true := by simp [hasB]; exact ht
  have HC := Lib.hid (fun o => tHas_any p t _ L.length _ (w.alloc o) (cell_bl (hb o) h0))
  rw [hasb] at HC
  obtain ⟨cs, ⟨nv, rfl, hv⟩, hc⟩ := hi _ _ (ndF_mem ht).2
  have n0 : w.cell? ⟨b, off + t.toNat * 4, none⟩ = some (.int .i64 (ndF L t).op) := hc 0 _ rfl
  have n1 : w.cell? ⟨b, off + t.toNat * 4 + 1, none⟩ = some (.int .i64 (ndF L t).n) := by have := hc 1 _ rfl; rwa [← Nat.add_assoc] at this
  have n2 : w.cell? ⟨b, off + t.toNat * 4 + 2, none⟩ = some (.string (ndF L t).s) := by have := hc 2 _ rfl; rwa [← Nat.add_assoc] at this
  have n3 : w.cell? ⟨b, off + t.toNat * 4 + 3, none⟩ = some nv := by have := hc 3 _ rfl; rwa [← Nat.add_assoc] at this
  obtain ⟨ht0, ht1⟩ := ht
  clear hi hc hasb hl0 hl1 ha hgood
  generalize ndF L t = nd at *
  obtain ⟨na, nlc, rfl, _⟩ := hv.form
  have hb2 : ∀ o o', Below w.heap.size w ((w.alloc o).alloc o') := fun o o' => (hb o).alloc (by simp) o'
  have HCL := Lib.hid (fun o o' => cloneInt_any (fun _ => True) _ nd.l ((w.alloc o).alloc o') (hv.step (Kp.of_all (hb2 o o')) (fun _ _ h => h)) (by omega))
  have HB2 := Lib.hid hb2
  have q := fun o => cell_al o h0
  have q0 := fun o => cell_al o n0
  have q1 := fun o => cell_al o n1
  have q2 := fun o => cell_al o n2
  have q3 := fun o => cell_al o n3
  clear hb hb2 hv h0 n0 n1 n2 n3
  go_enter Tryz.func72, Tryz.ntmps72
  go_wp2_with (first
    | (go_at_call 55; refine (HC.out _).mono ?_; rintro e w' ⟨rfl, rfl⟩)
    | (go_at_call 25; refine (HCL.out _ _).mono ?_; rintro e w1 ⟨v1, rfl, hb1, hs1, _⟩; obtain ⟨v1a, v1c, hv1, _⟩ := hs1.form; subst hv1; have h4 := heap_bl hb1 (heap_al _ (heap_new w _)); have h6 := heap_bl hb1 (heap_new (w.alloc _) _); rw [al_size] at h6; obtain ⟨⟨e0, e1, e2, e3⟩, e4⟩ := row4_at h4; obtain ⟨⟨g0, g1, g2, g3⟩, g4⟩ := row4_at h6; have hne : w.heap.size ≠ w.heap.size + 1 := (by omega); have H4 := Lib.hid h4; have HB1 : Hid (Below w.heap.size w w1) := Lib.hid ((HB2.out _ _).trans (hb1.mono (HB2.out _ _).size)); simp only [al_size] at hs1; have HS1 := Lib.hid hs1; clear h4 h6 hb1 hs1))
  have h4' : (w1.setCell ⟨w.heap.size + 1, 3, none⟩ (.slice v1a nd.l.length v1c)).heap[w.heap.size]? = some (.cells #[.int .i64 0, .int .i64 0, .string ⟨#[]⟩, .slice none 0 0] 54 (0, 0)) := by
    rw [Below.heap_setCell _ _ _ _ (by simp)]; exact H4.out
  have hz := Lib.heap_setCell_same (i := 3) (Lib.heap_setCell_same (i := 2) (Lib.heap_setCell_same (i := 1) (Lib.heap_setCell_same (i := 0) h4' (.int .i64 nd.op)) (.int .i64 nd.n)) (.string nd.s)) (.slice v1a nd.l.length v1c)
  have hz' := row4_at (x := .int .i64 nd.op) (y := .int .i64 nd.n) (z := .string nd.s) (u := .slice v1a nd.l.length v1c) hz
  obtain ⟨⟨z0, z1, z2, z3⟩, _⟩ := hz'
  refine bodyPost_ret (v := .tuple #[.agg #[.int .i64 nd.op, .int .i64 nd.n, .string nd.s, .slice v1a nd.l.length v1c], .int .i64 0]) (by simp [results, Tryz.results72, go_sem, z0, z1, z2, z3]) rfl ?_
  refine ⟨((((HB1.out.setCell (p := ⟨w.heap.size + 1, 3, none⟩) (Nat.le_succ _) _).setCell (p := ⟨w.heap.size, 0, none⟩) (Nat.le_refl _) _).setCell (p := ⟨w.heap.size, 1, none⟩) (Nat.le_refl _) _).setCell (p := ⟨w.heap.size, 2, none⟩) (Nat.le_refl _) _).setCell (p := ⟨w.heap.size, 3, none⟩) (Nat.le_refl _) _, _, rfl, ?_⟩
  refine (HS1.out.step (K := fun b => w.heap.size + 1 + 1 ≤ b) (K' := fun b => w.heap.size ≤ b) (((((Kp.refl _ _).setCell (p := ⟨w.heap.size + 1, 3, none⟩) (fun _ h => by simp only at h; omega) _).setCell (p := ⟨w.heap.size, 0, none⟩) (fun _ h => by simp only at h; omega) _).setCell (p := ⟨w.heap.size, 1, none⟩) (fun _ h => by simp only at h; omega) _).setCell (p := ⟨w.heap.size, 2, none⟩) (fun _ h => by simp only at h; omega) _ |>.setCell (p := ⟨w.heap.size, 3, none⟩) (fun _ h => by simp only at h; omega) _) (fun b _ h => by omega))
end Go.Proofs.YtnkndplbcbehkaaGreatDoor
