/-
  secrets: Has.
-/
import Derived.Test.YtnkndplbcbehkaaGreatDoorSecP0
set_option linter.unusedVariables false
set_option linter.unusedSimpArgs false
namespace Go.Proofs.YtnkndplbcbehkaaGreatDoor
open Go.RowKit Go.Cas
set_option maxHeartbeats 4000000
set_option maxRecDepth 20000

def Ch.has (c : Ch) : List Int := c.secret :: c.kept.flatMap (fun x => [x.key, x.nonce])
/-- What 'Has' lists. -/
def hasR (r : Kr) : List Int := r.nodes.map Sec.sk ++ r.chains.flatMap Ch.has

theorem ints_cells (l : List Int) : ∀ u ∈ l.map (Value.int .i64), u.oneCell' = true := by
  intro u hu
  obtain ⟨x, _, rfl⟩ := List.mem_map.1 hu
  rfl

/-- What stands in the loops: the list so far. -/
structure Hs (w wr : World) (v : Value) (l : List Int) : Prop where
  below : Below w.heap.size w wr
  own : wr.ownsRow w.heap.size 3 1 v l.length (l.map (Value.int .i64))

theorem Hs.bl {w wr w' : World} {v : Value} {l : List Int} (h : Hs w wr v l) (hb : Below wr.heap.size wr w') : Hs w w' v l :=
  ⟨h.below.trans (hb.mono h.below.size), own_below h.own hb⟩

/-- Numbers are appended. -/
theorem Hs.app {w wr w' : World} {v v' : Value} {l m : List Int} (h : Hs w wr v l) (hg : wr.grownBy w' v.ownBlock) (ho : w'.ownsRow w.heap.size 3 1 v' (l.length + m.length) (l.map (Value.int .i64) ++ m.map (Value.int .i64))) : Hs w w' v' (l ++ m) := by
  refine ⟨⟨hg.os.trans h.below.os, hg.tape.trans h.below.tape, hg.output.trans h.below.output, Nat.le_trans h.below.size hg.size, fun k hk => ?_⟩, ?_⟩
  · rw [hg.block k (Nat.lt_of_lt_of_le hk h.below.size) (fun e => by have := (h.own.lt k e.symm).1; omega)]
    exact h.below.block k hk
  · rw [List.length_append, List.map_append]; exact ho

theorem kn_len (l : List GK) : (l.flatMap (fun x => [x.key, x.nonce])).length = l.length * 2 := by
  induction l with
  | nil => rfl
  | cons x l ih => rw [List.flatMap_cons, List.length_append, ih]; simp; omega

theorem has_len : ∀ (l : List Ch), (∀ c ∈ l, c.kept.length ≤ 100) → (l.flatMap Ch.has).length ≤ l.length * 201
  | [], _ => Nat.le_refl _
  | c :: l, h => by
    have h1 := has_len l (fun x hx => h x (List.mem_cons_of_mem _ hx))
    have h2 := h c List.mem_cons_self
    rw [List.flatMap_cons, List.length_append, Ch.has, List.length_cons, kn_len, List.length_cons]
    omega

theorem sHas_any (K : Nat → Prop) (v u : Value) (r : Kr) (w : World) (hv : SlRep K w v r.nodes) (hu : SlRep K w u r.chains) (b1 : r.nodes.length ≤ 1000) (b2 : r.chains.length ≤ 1000) (b3 : ∀ c ∈ r.chains, c.kept.length ≤ 100) :
    Calls Tryz.prog 10 #[.agg #[.int .i64 r.leaves, v, u]] w fun e w' => ∃ v', e = .returned v' ∧ Hs w w' v' (hasR r) := by
  obtain ⟨va, vc, rfl, _, hvm, hvo⟩ := hv.open
  obtain ⟨ua, uc, rfl, _, hum, huo⟩ := hu.open
  unfold maxLen at hvm hum
  have hbox := heap_new w (.cells #[.int .i64 r.leaves, .slice va r.nodes.length vc, .slice ua r.chains.length uc] 32)
  have hB1 : Below w.heap.size w (w.alloc (.cells #[.int .i64 r.leaves, .slice va r.nodes.length vc, .slice ua r.chains.length uc] 32)) := (Below.refl _ _).alloc (Nat.le_refl _) _
  have hs1 : (w.alloc (.cells #[.int .i64 r.leaves, .slice va r.nodes.length vc, .slice ua r.chains.length uc] 32)).heap.size = w.heap.size + 1 := World.alloc_size _ _
  generalize hw1 : w.alloc (.cells #[.int .i64 r.leaves, .slice va r.nodes.length vc, .slice ua r.chains.length uc] 32) = w1 at hbox hB1 hs1
  obtain ⟨c0, c1, c2⟩ := row3_cells hbox
  have HW1 := Lib.hid hw1
  have HB1 := Lib.hid hB1
  have HBX := Lib.hid hbox
  have HVO := Lib.hid hvo
  have HUO := Lib.hid huo
  have H3 := Lib.hid b3
  have HS1 := Lib.hid hs1
  clear hw1 hB1 hv hu hvo huo b3 hbox hs1
  go_enter Tryz.func10, Tryz.ntmps10
  go_wp2_with fail
  rw [HW1.out]
  go_wp2_with fail
  go_loopw [3, 13] (fun lv i wr => ∃ k : Nat, k ≤ r.nodes.length ∧ i = .int .i64 k ∧ Hid (Hs w1 wr lv ((r.nodes.take k).map Sec.sk))) (fun _ i _ => r.nodes.length - (intOf i).toNat)
  case atStart => exact ⟨0, Nat.zero_le _, rfl, Lib.hid ⟨Below.refl _ _, World.ownsRow_nil _ _ _ _⟩⟩
  case round =>
    obtain ⟨k, hk, rfl, HS⟩ := hrel
    obtain ⟨la, lc, rfl⟩ := own_slice HS.out.own
    by_cases hlt : k < r.nodes.length
    · obtain ⟨b, off, rfl, _, hbl, hi⟩ := HVO.out (by omega)
      obtain ⟨x, hx⟩ : ∃ x, r.nodes[k]? = some x := ⟨_, List.getElem?_eq_getElem hlt⟩
      obtain ⟨cs, hcs, hi'⟩ := hi k x hx
      obtain rfl : cs = x.cs := hcs
      have hi2 := fun j u hj => cell_bl HS.out.below (cell_bl HB1.out (hi' j u hj))
      have hc0 : wr.cell? ⟨b, off + k * 2, none⟩ = some _ := (by have := hi2 0 _ rfl; rw [← Nat.add_assoc] at this; exact this)
      have hc1 : wr.cell? ⟨b, off + k * 2 + 1, none⟩ = some _ := (by have := hi2 1 _ rfl; rw [← Nat.add_assoc] at this; exact this)
      have HX := Lib.hid hx
      clear hi hi' hi2 hx
      have hbb : Below wr.heap.size wr ((wr.alloc (.cells #[.int .i64 x.node, .int .i64 x.sk] 58)).alloc (.cells #[.int .i64 x.sk] 3)) := ((Below.refl _ _).alloc (Nat.le_refl _) _).alloc (by simp) _
      have HS2 := Lib.hid (HS.out.bl hbb)
      have hln : ((r.nodes.take k).map Sec.sk).length = k := by rw [List.length_map, List.length_take]; omega
      have HLN := Lib.hid hln
      clear hbb hln
      have hle := heap_new (wr.alloc (.cells #[.int .i64 x.node, .int .i64 x.sk] 58)) (.cells #[.int .i64 x.sk] 3)
      rw [World.alloc_size] at hle
      have HLE := Lib.hid hle
      clear hle
      go_wp2_with (at_builtin; refine wpList_append_sl rfl _ _ 24 rfl el_ints w1.heap.size (.slice la ((r.nodes.take k).map Sec.sk).length lc) _ _ rfl HS2.out.own (K := fun _ => True) (.slice (some ⟨wr.heap.size + 1, 0, none⟩) 1 1) 1 [.int .i64 x.sk] rfl (SlR.block (cs := #[.int .i64 x.sk]) HLE.out 1 1 rfl (by decide)) (by simp [Value.oneCell']) (by rw [HLN.out]; omega) (by rw [HLN.out]; unfold maxLen; omega) (by have := HS2.out.below.size; exact this) ?_; intro v6 w6 ho6 hg6 _ _; have HS6 := Lib.hid (HS2.out.app (m := [x.sk]) hg6 ho6); clear ho6 hg6)
      go_round
      case rel => exact ⟨k + 1, by omega, by go_num, Lib.hid (by
        have h := HS6.out
        rwa [show (r.nodes.take k).map Sec.sk ++ [x.sk] = (r.nodes.take (k + 1)).map Sec.sk by
          rw [List.take_add_one, HX.out]; simp] at h)⟩
      case measure => simp [intOf]; omega
    · obtain rfl : k = r.nodes.length := by omega
      rw [List.take_length] at HS
      have e2 : wr.cell? ⟨w.heap.size, 2, none⟩ = some (.slice ua r.chains.length uc) := cell_bl HS.out.below c2
      have hbo : (r.nodes.map Sec.sk).length ≤ 1000 := by rw [List.length_map]; exact b1
      have HBO := Lib.hid hbo
      clear hlt hbo
      go_wp2_with fail
      go_loopw [3, 26] (fun lv i wr => ∃ k : Nat, k ≤ r.chains.length ∧ i = .int .i64 k ∧ Hid (Hs w1 wr lv (r.nodes.map Sec.sk ++ (r.chains.take k).flatMap Ch.has))) (fun _ i _ => r.chains.length - (intOf i).toNat)
      case atStart => exact ⟨0, Nat.zero_le _, rfl, by simpa using HS⟩
      case round =>
        clear e2 HS
        obtain ⟨k, hk, rfl, HS⟩ := hrel
        obtain ⟨la, lc, rfl⟩ := own_slice HS.out.own
        by_cases hlt : k < r.chains.length
        · obtain ⟨b, off, rfl, _, hbl, hi⟩ := HUO.out (by omega)
          obtain ⟨c, hc⟩ : ∃ c, r.chains[k]? = some c := ⟨_, List.getElem?_eq_getElem hlt⟩
          obtain ⟨cs, ⟨kv, rfl, hkv⟩, hi'⟩ := hi k c hc
          obtain ⟨ka, kc, rfl, _, hkm, hko⟩ := hkv.open
          unfold maxLen at hkm
          have hi2 := fun j u hj => cell_bl HS.out.below (cell_bl HB1.out (hi' j u hj))
          have hc0 : wr.cell? ⟨b, off + k * 5, none⟩ = some _ := (by have := hi2 0 _ rfl; rw [← Nat.add_assoc] at this; exact this)
          have hc1 : wr.cell? ⟨b, off + k * 5 + 1, none⟩ = some _ := (by have := hi2 1 _ rfl; rw [← Nat.add_assoc] at this; exact this)
          have hc2 : wr.cell? ⟨b, off + k * 5 + 2, none⟩ = some _ := (by have := hi2 2 _ rfl; rw [← Nat.add_assoc] at this; exact this)
          have hc3 : wr.cell? ⟨b, off + k * 5 + 3, none⟩ = some _ := (by have := hi2 3 _ rfl; rw [← Nat.add_assoc] at this; exact this)
          have hc4 : wr.cell? ⟨b, off + k * 5 + 4, none⟩ = some _ := (by have := hi2 4 _ rfl; rw [← Nat.add_assoc] at this; exact this)
          have hk100 := H3.out c (List.mem_of_getElem? hc)
          have HC := Lib.hid hc
          have HKO := Lib.hid hko
          clear hi hi' hi2 hc hkv hko
          have hbb : Below wr.heap.size wr ((wr.alloc (.cells #[.int .i64 c.leaf, .int .i64 c.kind, .int .i64 c.gen, .int .i64 c.secret, .slice ka c.kept.length kc] 71)).alloc (.cells #[.int .i64 c.secret] 3)) := ((Below.refl _ _).alloc (Nat.le_refl _) _).alloc (by simp) _
          have HS2 := Lib.hid (HS.out.bl hbb)
          have hln : (r.nodes.map Sec.sk ++ (r.chains.take k).flatMap Ch.has).length ≤ 210000 := by
            have h1 := has_len (r.chains.take k) (fun c hc => H3.out c (List.mem_of_mem_take hc))
            rw [List.length_take] at h1
            have := HBO.out
            rw [List.length_append]; omega
          have hbx := heap_al (.cells #[.int .i64 c.secret] 3) (heap_new wr (.cells #[.int .i64 c.leaf, .int .i64 c.kind, .int .i64 c.gen, .int .i64 c.secret, .slice ka c.kept.length kc] 71))
          have hle := heap_new (wr.alloc (.cells #[.int .i64 c.leaf, .int .i64 c.kind, .int .i64 c.gen, .int .i64 c.secret, .slice ka c.kept.length kc] 71)) (.cells #[.int .i64 c.secret] 3)
          rw [World.alloc_size] at hle
          have HLE := Lib.hid hle
          have HLN := Lib.hid hln
          clear hbb hle
          generalize hl0 : r.nodes.map Sec.sk ++ (r.chains.take k).flatMap Ch.has = l0 at HS HS2 HLN hln
          have HL0 := Lib.hid hl0
          have HBXC := Lib.hid hbx
          clear hl0 hbx hln
          go_wp2_with (at_builtin; refine wpList_append_sl rfl _ _ 24 rfl el_ints w1.heap.size (.slice la l0.length lc) _ _ rfl HS2.out.own (K := fun _ => True) (.slice (some ⟨wr.heap.size + 1, 0, none⟩) 1 1) 1 [.int .i64 c.secret] rfl (SlR.block (cs := #[.int .i64 c.secret]) HLE.out 1 1 rfl (by decide)) (by simp [Value.oneCell']) (by have := HLN.out; omega) (by have := HLN.out; unfold maxLen; omega) (by have := HS2.out.below.size; exact this) ?_; intro v6 w6 ho6 hg6 _ _; have HS6 := Lib.hid (HS2.out.app (m := [c.secret]) hg6 ho6); have hb6 : w6.heap[wr.heap.size]? = some (.cells #[.int .i64 c.leaf, .int .i64 c.kind, .int .i64 c.gen, .int .i64 c.secret, .slice ka c.kept.length kc] 71 (0, 0)) := heap_grown hg6 HBXC.out (fun e => by obtain ⟨cu, h1⟩ := own_type (own_zero HS2.out.own) e.symm; rw [HBXC.out] at h1; cases h1); have q4 : w6.cell? ⟨wr.heap.size, 4, none⟩ = some (.slice ka c.kept.length kc) := (by rw [cell_of_row _ _ _ _ _ _ hb6]; rfl); clear ho6 hg6 hb6)
          go_loopw [3, 38] (fun lv i wi => ∃ m : Nat, m ≤ c.kept.length ∧ i = .int .i64 m ∧ Hid (Below w6.heap.size w6 wi ∨ True) ∧ Hid (Hs w1 wi lv (l0 ++ [c.secret] ++ (c.kept.take m).flatMap (fun x => [x.key, x.nonce])))) (fun _ i _ => c.kept.length - (intOf i).toNat)
          case atStart => exact ⟨0, Nat.zero_le _, rfl, Lib.hid (.inr trivial), by simpa using HS6⟩
          case round =>
            clear q4 HS6 HS2 HLE HBXC hc0 hc1 hc2 hc3 hc4 HS
            obtain ⟨m, hm, rfl, _, HI⟩ := hrel
            obtain ⟨ma, mc, rfl⟩ := own_slice HI.out.own
            by_cases hmt : m < c.kept.length
            · obtain ⟨kb, koff, rfl, _, _, hi⟩ := HKO.out (by omega)
              obtain ⟨x, hx⟩ : ∃ x, c.kept[m]? = some x := ⟨_, List.getElem?_eq_getElem hmt⟩
              obtain ⟨cs, hcs, hi'⟩ := hi m x hx
              obtain rfl : cs = x.cs := hcs
              have hi2 := fun j u hj => cell_bl HI.out.below (cell_bl HB1.out (hi' j u hj))
              have hk0 : wr.cell? ⟨kb, koff + m * 3, none⟩ = some _ := (by have := hi2 0 _ rfl; rw [← Nat.add_assoc] at this; exact this)
              have hk1 : wr.cell? ⟨kb, koff + m * 3 + 1, none⟩ = some _ := (by have := hi2 1 _ rfl; rw [← Nat.add_assoc] at this; exact this)
              have hk2 : wr.cell? ⟨kb, koff + m * 3 + 2, none⟩ = some _ := (by have := hi2 2 _ rfl; rw [← Nat.add_assoc] at this; exact this)
              have HX := Lib.hid hx
              clear hi hi' hi2 hx
              have hbb : Below wr.heap.size wr ((wr.alloc (.cells #[.int .i64 x.gen, .int .i64 x.key, .int .i64 x.nonce] 39)).alloc (.cells #[.int .i64 x.key, .int .i64 x.nonce] 3)) := ((Below.refl _ _).alloc (Nat.le_refl _) _).alloc (by simp) _
              have HI2 := Lib.hid (HI.out.bl hbb)
              have hln : (l0 ++ [c.secret] ++ (c.kept.take m).flatMap (fun x => [x.key, x.nonce])).length ≤ 220000 := by
                have := HLN.out
                rw [List.length_append, List.length_append, kn_len, List.length_take]
                simp only [List.length_cons, List.length_nil]; omega
              have HLI := Lib.hid hln
              have hle := heap_new (wr.alloc (.cells #[.int .i64 x.gen, .int .i64 x.key, .int .i64 x.nonce] 39)) (.cells #[.int .i64 x.key, .int .i64 x.nonce] 3)
              rw [World.alloc_size] at hle
              have HLE := Lib.hid hle
              clear hbb hle hln
              generalize hl1 : l0 ++ [c.secret] ++ (c.kept.take m).flatMap (fun x => [x.key, x.nonce]) = l1 at HI HI2 HLI
              have HL1 := Lib.hid hl1
              clear hl1
              go_wp2_with (at_builtin; refine wpList_append_sl rfl _ _ 24 rfl el_ints w1.heap.size (.slice ma l1.length mc) _ _ rfl HI2.out.own (K := fun _ => True) (.slice (some ⟨wr.heap.size + 1, 0, none⟩) 2 2) 2 [.int .i64 x.key, .int .i64 x.nonce] rfl (SlR.block (cs := #[.int .i64 x.key, .int .i64 x.nonce]) HLE.out 1 2 rfl (by decide)) (by simp [Value.oneCell']) (by have := HLI.out; omega) (by have := HLI.out; unfold maxLen; omega) (by have := HI2.out.below.size; exact this) ?_; intro v7 w7 ho7 hg7 _ _; have HS7 := Lib.hid (HI2.out.app (m := [x.key, x.nonce]) hg7 ho7); clear ho7 hg7)
              go_round
              case rel => exact ⟨m + 1, by omega, by go_num, Lib.hid (.inr trivial), Lib.hid (by
                have h := HS7.out
                rwa [← HL1.out, show l0 ++ [c.secret] ++ (c.kept.take m).flatMap (fun x => [x.key, x.nonce]) ++ [x.key, x.nonce] = l0 ++ [c.secret] ++ (c.kept.take (m + 1)).flatMap (fun x => [x.key, x.nonce]) by
                  rw [List.take_add_one, HX.out]; simp [List.append_assoc]] at h)⟩
              case measure => simp [intOf]; omega
            · obtain rfl : m = c.kept.length := by omega
              go_wp2_with fail
              go_round
              case rel => exact ⟨k + 1, by omega, by go_num, Lib.hid (by
                have h := HI.out
                rw [List.take_length] at h
                have e : l0 ++ [c.secret] ++ c.kept.flatMap (fun x => [x.key, x.nonce]) = r.nodes.map Sec.sk ++ (r.chains.take (k + 1)).flatMap Ch.has := by
                  rw [← HL0.out, List.take_add_one, HC.out]; simp [Ch.has, List.append_assoc]
                rw [List.take_length, ← e]; exact h)⟩
              case measure => simp [intOf]; omega
        · obtain rfl : k = r.chains.length := by omega
          go_wp2_with fail
          go_ret
          refine ⟨_, rfl, ⟨HB1.out.trans (HS.out.below.mono HB1.out.size), ?_⟩⟩
          have h := own_ge HS.out.own HB1.out.size
          rw [show r.nodes.map Sec.sk ++ (r.chains.take r.chains.length).flatMap Ch.has = hasR r by rw [List.take_length]; rfl] at h
          simpa [List.take_length, hasR] using h

end Go.Proofs.YtnkndplbcbehkaaGreatDoor
