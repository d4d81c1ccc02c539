/-
  Layer 3 (term): the walk of 'key', a node's text.
-/
import Derived.Test.YtnkndplbcbehkaaGreatDoorTerm
import Derived.Test.YtnkndplbcbehkaaGreatDoorPlain
import Derived.Lib.BufferRead
import Derived.Lib.ItoaLen
set_option linter.unusedVariables false
set_option linter.unusedSimpArgs false
namespace Go.Proofs.YtnkndplbcbehkaaGreatDoor
open Go.RowKit Go.Cas
set_option maxHeartbeats 400000
set_option maxRecDepth 20000

theorem el_ints : ElemT Tryz.prog 24 3 1 8 := ElemT.mk' Tryz.underlying24 (by kernel_rfl) (by decide)
theorem el_bytes : ElemT Tryz.prog 111 5 1 1 := ElemT.mk' Tryz.underlying111 (by kernel_rfl) (by decide)

theorem run_conv_sl {K : Nat → Prop} {w : World} {v : Value} {l : List UInt8} (h : SlR K w 1 v l.length (Lib.byteCells l)) :
    (convert 111 9 v).run Tryz.prog w = .ok (.string ⟨l.toArray⟩) w := by
  obtain ⟨_, _, h⟩ := h
  rcases h with ⟨rfl, h0⟩ | ⟨b, off, cap, rfl, hc, _, hr⟩
  · rw [List.length_eq_zero_iff.1 h0]
    exact Lib.run_convert_nil_bytes w 111 9 5 0 Tryz.underlying111 Tryz.underlying5 Tryz.underlying9
  · refine run_convert_bytes_back w 111 9 5 ⟨b, off, none⟩ cap l Tryz.underlying111 Tryz.underlying5 Tryz.underlying9 ?_
    exact fun j hj => by rw [add_lit]; exact hr.cell (by simp [Lib.byteCells, hj])

theorem box_kept {e : TypeId} {w w' : World} {b : Nat} {cs : Array Value} {T : TypeId} {fr : Nat × Nat} (hk : Lib.OthersKept e none w w') (hb : w.heap[b]? = some (.cells cs T fr)) (hT : T ≠ e) :
    w'.heap[b]? = some (.cells cs T fr) := hk b _ hb (by simp) (fun c fz h => hT (by cases h; rfl))

theorem own_others {e e' : TypeId} {w w' : World} {b sz n : Nat} {v : Value} {xs : List Value} (h : w.ownsRow b e sz v n xs) (hk : Lib.OthersKept e' none w w') (he : e ≠ e') : w'.ownsRow b e sz v n xs := by
  refine ⟨h.1, ?_⟩
  rcases h.2 with hn | ⟨g, cap, cur, rfl, hb, hg, rest⟩
  · exact .inl hn
  · exact .inr ⟨g, cap, cur, rfl, hb, box_kept hk hg he, rest⟩

/-- 'slices.Clone' of whole numbers. -/
theorem cloneInt_any (K : Nat → Prop) (v : Value) (l : List Int) (w : World) (hl : SlRep K w v l) (hb : l.length ≤ 1000000) :
    Calls Tryz.prog 25 #[v] w fun e w' => ∃ v', e = .returned v' ∧ Below w.heap.size w w' ∧ SlRep (fun b => w.heap.size ≤ b) w' v' l ∧ (v' = .slice none 0 0 ↔ v = .slice none 0 0) := by
  obtain ⟨h1, hm, h⟩ := hl.ints
  rcases h with ⟨rfl, h0⟩ | ⟨b, off, cap, rfl, hc, _, hr⟩
  · rw [List.length_eq_zero_iff.1 h0]
    exact (Tryz.slices_Clone_int_nil 0 0 w).mono fun e w' ⟨he, hw⟩ => by
      subst hw; exact ⟨_, he, Below.refl _ _, SlRep.nil _ _, Iff.rfl⟩
  · refine (Tryz.slices_Clone_int b off l.length cap l w (Nat.le_refl _) (by omega) (fun j hj => ?_)).mono fun e w' ⟨v', he, ho, hne, hB⟩ => ?_
    · refine hr.cell ?_
      simp [List.getElem?_eq_getElem hj]
    · refine ⟨v', he, hB, SlRep.of_ints (SlR.of_own (by simpa using ho) (fun k hk => (ho.lt k hk).1)), ?_⟩
      simp [hne]

/-- The text when k numbers behind the op have been written. -/
def keyTo (op : Int) (ns : List Int) (k : Nat) : List UInt8 := Lib.itoa op ++ (ns.take k).flatMap spaced

theorem keyTo_succ (op : Int) (ns : List Int) (k : Nat) (y : Int) (h : ns[k]? = some y) : keyTo op ns (k + 1) = (keyTo op ns k ++ [32]) ++ Lib.itoa y := by
  obtain ⟨hk, rfl⟩ := List.getElem?_eq_some_iff.1 h
  unfold keyTo
  rw [List.take_succ_eq_append_getElem hk, List.flatMap_append]
  simp [spaced]

theorem keyTo_len (op : Int) (ns : List Int) (ho : -9223372036854775808 ≤ op ∧ op ≤ 9223372036854775807) (hn : ∀ y ∈ ns, -9223372036854775808 ≤ y ∧ y ≤ 9223372036854775807) :
    ∀ k, k ≤ ns.length → (keyTo op ns k).length ≤ 22 * (k + 1)
  | 0, _ => by
    have := Lib.itoa_length_le op ho.1 ho.2
    simp [keyTo]; omega
  | k + 1, h => by
    have ih := keyTo_len op ns ho hn k (by omega)
    obtain ⟨y, hy⟩ : ∃ y, ns[k]? = some y := ⟨_, List.getElem?_eq_getElem (by omega)⟩
    have hb := hn y (List.mem_of_getElem? hy)
    have := Lib.itoa_length_le y hb.1 hb.2
    rw [keyTo_succ op ns k y hy]
    simp only [List.length_append, List.length_singleton]
    omega

/-- What stands while the numbers are written: w the world of the call, box the node's block, g the numbers' row. -/
structure KeyRel (w wr : World) (op : Int) (ns : List Int) (box : Array Value) (g cap k : Nat) (v : Value) : Prop where
  below : Below w.heap.size w wr
  box : wr.heap[w.heap.size]? = some (.cells box 54 (0, 0))
  row : wr.ownsRow w.heap.size 3 1 (.slice (some ⟨g, 0, none⟩) ns.length cap) ns.length (ns.map (Value.int .i64))
  own : wr.ownsRow w.heap.size 5 1 v (keyTo op ns k).length (Lib.byteCells (keyTo op ns k))

theorem nkey_text (op n : Int) (s : ByteArray) (l : List Int) :
    (⟨(keyTo op (n :: l) (l.length + 1)).toArray⟩ : ByteArray) ++ (⟨#[124]⟩ : ByteArray) ++ s = ⟨(nkey ⟨op, n, s, l⟩).toArray⟩ := by
  apply ByteArray.ext
  simp only [ByteArray.data_append, nkey, keyTo]
  rw [List.take_of_length_le (by simp)]
  apply Array.ext'
  simp

/-- 'key'. -/
theorem tKey_any (K F : Nat → Prop) (x : Nd) (v : Value) (w : World) (hE : Env F w) (hl : SlRep K w v x.l) (h64 : x.l.length ≤ 64) (h200 : x.s.size ≤ 200) (ho : 0 ≤ x.op ∧ x.op ≤ 100) (hn : 0 ≤ x.n ∧ x.n ≤ 9223372036854775807)
    (hx : ∀ y ∈ x.l, 0 ≤ y ∧ y ≤ 9223372036854775807) :
    Calls Tryz.prog 24 #[.agg #[.int .i64 x.op, .int .i64 x.n, .string x.s, v]] w fun e w' => e = .returned (.string ⟨(nkey x).toArray⟩) ∧ Below w.heap.size w w' := by
  obtain ⟨op, n, s, l⟩ := x
  dsimp only at hl h64 h200 ho hn hx ⊢
  have HT := Lib.hid (Lib.tabBelow_of_tabIs hE.pow)
  have HL := Lib.hid hl
  have HX := Lib.hid hx
  have HN := Lib.hid hn
  clear hE hl hx hn
  go_enter Tryz.func24, Tryz.ntmps24
  go_wp2_with fail
  refine (Tryz.strconv_AppendInt_10 w.heap.size 0 op (by omega) (by omega) (.slice none 0 0) [] _ (World.ownsRow_nil _ _ _ _) (by simp) (by decide) (HT.out.on ((Below.refl _ _).alloc (Nat.le_refl _) _))).mono ?_
  rintro e w1 ⟨v1, rfl, ho1, hb1, hk1⟩
  have hB1 : Below w.heap.size w w1 := ((Below.refl _ _).alloc (Nat.le_refl _) _).trans hb1
  have hbox := box_kept hk1 (heap_new w _) (by decide)
  have c1 := cell_of_row w1 w.heap.size 1 _ _ _ hbox
  have c2 := cell_of_row w1 w.heap.size 2 _ _ _ hbox
  have c3 := cell_of_row w1 w.heap.size 3 _ _ _ hbox
  simp only [List.getElem?_toArray, List.getElem?_cons_succ, List.getElem?_cons_zero] at c1 c2 c3
  have hs1 : w.heap.size < w1.heap.size := heap_lt hbox
  have HO1 := Lib.hid ho1
  have HK1 := Lib.hid hk1
  have HBX := Lib.hid hbox
  clear ho1 hk1 hbox hb1
  go_wp2_with (at_builtin; refine wpList_append_sl rfl _ _ 24 rfl el_ints w.heap.size (.slice (some ⟨w1.heap.size, 0, none⟩) 1 1) 1 [.int .i64 n] rfl (World.ownsRow_lit w1 _ 1 (by omega) (by decide) rfl) (K := K) v l.length (l.map (Value.int .i64)) rfl (HL.out.step ((Kp.of_all hB1).alloc _) (fun _ _ h => h)).ints (by simp [Value.oneCell']) (by omega) (by unfold maxLen; omega) (by simp; omega) ?_; intro v2 w2 ho2 hg2 _ _; obtain ⟨g, cap, rfl, hgB, hgw⟩ := ho2.form (by omega))
  have hrel0 : KeyRel w w2 op (n :: l) #[.int .i64 op, .int .i64 n, .string s, v] g cap 0 v1 := by
    refine ⟨(hB1.alloc (by omega) _).grown hg2 (by simp; omega) (fun k hk => by simp [Value.ownBlock] at hk; omega), ?_, ?_, ?_⟩
    · exact heap_grown hg2 (heap_al _ HBX.out) (by simp [Value.ownBlock]; omega)
    · simpa [Nat.add_comm] using ho2
    · have h := HO1.out
      have h2 := (h.alloc (.cells #[.int .i64 n] 3)).kept hg2 (by
        rcases hv : v1.ownBlock with _ | k
        · exact .inl rfl
        · have := (h.lt k hv).2
          right; simp [Value.ownBlock]; omega)
      simpa [keyTo] using h2
  have HREL := Lib.hid hrel0
  have HBX := Lib.hid trivial
  clear hrel0 ho2 hg2 hB1 HO1 HK1 c1 c2 c3
  obtain ⟨wo, rfl⟩ : ∃ wo : World, wo = w2 := ⟨_, rfl⟩
  go_loopw [3, 16] (fun u i wr => ∃ k : Nat, k ≤ l.length + 1 ∧ i = .int .i64 k ∧ Hid (KeyRel w wr op (n :: l) #[.int .i64 op, .int .i64 n, .string s, v] g cap k u)) (fun _ i _ => l.length + 1 - (intOf i).toNat)
  case atStart => exact ⟨0, Nat.zero_le _, rfl, HREL.out⟩
  case round =>
    obtain ⟨k, hk, rfl, H⟩ := hrel
    by_cases hlt : k < l.length + 1
    · obtain ⟨y, hy⟩ : ∃ y, (n :: l)[k]? = some y := ⟨_, List.getElem?_eq_getElem (by simp; omega)⟩
      have hyb : 0 ≤ y ∧ y ≤ 9223372036854775807 := by
        rcases List.mem_cons.1 (List.mem_of_getElem? hy) with e | e
        · rw [e]; exact HN.out
        · exact HX.out y e
      obtain ⟨hy0, hy1⟩ := hyb
      have hkl := keyTo_len op (n :: l) (by omega) (fun z hz => by
        rcases List.mem_cons.1 hz with e | e
        · rw [e]; have := HN.out; omega
        · have := HX.out z e; omega) k (by simp; omega)
      have hcell : wr.cell? ⟨g, k, none⟩ = some (.int .i64 y) := by
        have := H.out.row.cells (g := g) rfl k (.int .i64 y) (by rw [List.getElem?_map, hy]; rfl)
        rw [add_lit, Nat.zero_add] at this; exact this
      have HY := Lib.hid hy
      have hwr : w.heap.size ≤ wr.heap.size := H.out.below.size
      clear hy
      go_wp2_with (first
        | (at_builtin; refine wpList_append_sl rfl _ _ 111 rfl el_bytes w.heap.size _ (keyTo op (n :: l) k).length (Lib.byteCells (keyTo op (n :: l) k)) rfl (H.out.own.alloc _) (K := fun _ => True) (.slice (some ⟨wr.heap.size, 0, none⟩) 1 1) 1 [.int .u8 32] rfl (SlR.block (heap_new wr _) 1 1 rfl (by decide)) (by simp [Value.oneCell']) (by omega) (by unfold maxLen; omega) (by simp; omega) ?_; intro v3 w3 ho3 hg3 _ _; have HO3 := Lib.hid ho3; have HG3 := Lib.hid hg3; clear ho3 hg3)
        | (go_at_call 56; have hB3 : Below w.heap.size w w3 := (H.out.below.alloc hwr _).grown HG3.out (by simp; omega) (fun j hj => (H.out.own.lt j hj).1); refine (Tryz.strconv_AppendInt_10 w.heap.size _ y (by omega) hy1 _ _ _ HO3.out hB3.size (by omega) (HT.out.on hB3)).mono ?_; have HB3 := Lib.hid hB3; clear hB3; rintro e w4 ⟨v4, rfl, ho4, hb4, hk4⟩; have HO4 := Lib.hid ho4; have HB4 := Lib.hid hb4; have HK4 := Lib.hid hk4; clear ho4 hb4 hk4))
      refine ⟨⟨k + 1, by omega, by go_num, ?_, ?_, ?_, ?_⟩, by simp [intOf]; omega⟩
      · exact HB3.out.trans HB4.out
      · exact box_kept HK4.out (heap_grown HG3.out (heap_al _ H.out.box) (own_ne H.out.own H.out.box (by decide))) (by decide)
      · exact own_others ((H.out.row.alloc _).kept HG3.out (own_apart H.out.own H.out.row (by decide))) HK4.out (by decide)
      · have := HO4.out
        rw [keyTo_succ _ _ _ _ HY.out]
        simpa [Lib.byteCells, Nat.add_assoc, Nat.add_comm, Nat.add_left_comm] using this
    · obtain rfl : k = l.length + 1 := by omega
      have hkl := keyTo_len op (n :: l) (by omega) (fun z hz => by
        rcases List.mem_cons.1 hz with e | e
        · rw [e]; have := HN.out; omega
        · have := HX.out z e; omega) (l.length + 1) (by simp)
      have hconv := run_conv_sl (SlR.of_own (K := fun _ => True) H.out.own (fun _ _ => trivial))
      have c2 := cell_of_row wr w.heap.size 2 _ _ _ H.out.box
      simp only [List.getElem?_toArray, List.getElem?_cons_succ, List.getElem?_cons_zero] at c2
      go_wp2
      go_ret
      exact ⟨ret_str (nkey_text op n s l), H.out.below⟩
end Go.Proofs.YtnkndplbcbehkaaGreatDoor
