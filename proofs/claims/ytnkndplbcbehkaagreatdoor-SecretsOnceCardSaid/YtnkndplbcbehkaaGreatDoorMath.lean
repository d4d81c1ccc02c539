/-
  Layer 6 (math): the walks of the tree's arithmetic.
-/
import Derived.Test.YtnkndplbcbehkaaGreatDoorAr
import Derived.Test.YtnkndplbcbehkaaGreatDoorShelf
import Derived.Deep.RegionHeld3
set_option linter.unusedVariables false
set_option linter.unusedSimpArgs false
namespace Go.Proofs.YtnkndplbcbehkaaGreatDoor
open Go.RowKit Go.Cas
set_option maxHeartbeats 400000
set_option maxRecDepth 20000

theorem mCheck_any (ok : Bool) (w : World) :
    Calls Tryz.prog 81 #[.bool ok] w fun e w' => e = .returned (.int .i64 (if ok then 0 else 1)) ∧ w = w' := by
  cases ok
  all_goals
    go_enter Tryz.func81, Tryz.ntmps81
    go_wp2
    go_ret
    exact ⟨rfl, rfl⟩

def any1B (x : Int) : Bool := decide (0 ≤ x) && decide (x ≤ 510)

theorem mAny1_any (x : Int) (w : World) :
    Calls Tryz.prog 60 #[.int .i64 x] w fun e w' => e = .returned (.bool (any1B x)) ∧ w = w' := by
  unfold any1B
  by_cases h : 0 ≤ x
  · have hd : decide (0 ≤ x) = true := by simpa using h
    go_enter Tryz.func60, Tryz.ntmps60
    go_wp2
    go_ret
    exact ⟨ret_bool (by simp [hd]), rfl⟩
  · have hd : decide (0 ≤ x) = false := by simpa using h
    go_enter Tryz.func60, Tryz.ntmps60
    go_wp2
    go_ret
    exact ⟨ret_bool (by simp [hd]), rfl⟩

/-- What is counted in: x with all bits turned. -/
def lvArg (x : Int) : Nat := 18446744073709551615 - x.toNat
/-- A node's level. -/
def levelF (x : Int) : Nat := Lib.ctz 64 (lvArg x)
def leftF (x : Int) : Int := x - 2 ^ (levelF x - 1)
def rightF (x : Int) : Int := x + 2 ^ (levelF x - 1)

/-- Of the numbers to 510. -/
theorem small_ind {p : Int → Prop} (h : ∀ n : Fin 511, p (n.val : Int)) (x : Int) (h0 : 0 ≤ x) (h1 : x ≤ 510) : p x := by
  obtain ⟨n, rfl⟩ := Int.eq_ofNat_of_zero_le h0
  exact h ⟨n, by omega⟩

theorem xor_max (x : Int) (h0 : 0 ≤ x) (h1 : x ≤ 510) : bits BinOp.xor IntKind.u64 IntKind.u64.max x = (lvArg x : Int) :=
  small_ind (p := fun x => bits BinOp.xor IntKind.u64 IntKind.u64.max x = (lvArg x : Int)) (by decide +kernel) x h0 h1

theorem levelF_lt (x : Int) (h0 : 0 ≤ x) (h1 : x ≤ 510) : levelF x ≤ 8 :=
  small_ind (p := fun x => levelF x ≤ 8) (by decide +kernel) x h0 h1

theorem lvArg_lt (x : Int) : lvArg x < 18446744073709551616 := by unfold lvArg; omega

theorem mLevel_any (x : Int) (w : World) (h0 : 0 ≤ x) (h1 : x ≤ 510) (ht : Go.Proofs.TabAt 1 Lib.deBruijn64tab w) :
    Calls Tryz.prog 62 #[.int .i64 x] w fun e w' => e = .returned (.int .i64 (levelF x)) ∧ w = w' := by
  have HC := Lib.hid (Any7.bits_TrailingZeros Tryz.lays7_27 (lvArg x) (lvArg_lt x) w (fun _ => ht))
  have HX := Lib.hid (xor_max x h0 h1)
  clear ht
  unfold levelF
  generalize lvArg x = y at HC HX ⊢
  go_enter Tryz.func62, Tryz.ntmps62
  go_wp2_with (go_at_call 82; rw [HX.out]; refine HC.out.mono ?_; rintro e w' ⟨rfl, rfl⟩)
  go_ret
  exact ⟨rfl, rfl⟩
/-- 'when', its function given by a contract. -/
theorem mWhen_any (ok : Bool) (g : FuncId) (cap : Array Value) (n : Int) (w : World) (hq : ok = true → Calls Tryz.prog g cap w fun e w' => e = .returned (.int .i64 n) ∧ Below w.heap.size w w')
    (eg : ∀ args w, (callFunc g args).run Tryz.prog w = .ok (.enter g args) w) :
    Calls Tryz.prog 27 #[.bool ok, .func (.func g) #[] cap] w fun e w' => e = .returned (.tuple #[.int .i64 (if ok then n else 0), .int .i64 (if ok then 0 else 1)]) ∧ Below w.heap.size w w' := by
  cases ok
  · clear hq
    go_enter Tryz.func27, Tryz.ntmps27
    go_wp2
    go_ret2
    exact ⟨rfl, Below.refl _ _⟩
  · have HC := Lib.hid (hq rfl)
    clear hq
    go_enter Tryz.func27, Tryz.ntmps27
    go_wp2_with (go_at_fn g; refine HC.out.mono ?_; rintro e w' ⟨rfl, hb⟩)
    go_ret2
    exact ⟨rfl, hb⟩

theorem and_one (x : Int) (h0 : 0 ≤ x) (h1 : x ≤ 510) : bits BinOp.and IntKind.i64 x 1 = x % 2 :=
  small_ind (p := fun x => bits BinOp.and IntKind.i64 x 1 = x % 2) (by decide +kernel) x h0 h1

theorem mLeft1_xor (x : Int) (h0 : 0 ≤ x) (h1 : x ≤ 510) (h2 : x % 2 = 1) : bits BinOp.xor IntKind.i64 x (1 * 2 ^ (levelF x - 1)) = leftF x ∧ 1 ≤ levelF x :=
  small_ind (p := fun x => x % 2 = 1 → bits BinOp.xor IntKind.i64 x (1 * 2 ^ (levelF x - 1)) = leftF x ∧ 1 ≤ levelF x) (by decide +kernel) x h0 h1 h2

theorem mLeft1_any (b : Nat) (x : Int) (w : World) (hx : w.cell? ⟨b, 0, none⟩ = some (.int .i64 x)) (h0 : 0 ≤ x) (h1 : x ≤ 510) (h2 : x % 2 = 1) (ht : Go.Proofs.TabAt 1 Lib.deBruijn64tab w) :
    Calls Tryz.prog 61 #[.pointer (some ⟨b, 0, none⟩)] w fun e w' => e = .returned (.int .i64 (leftF x)) ∧ Below w.heap.size w w' := by
  have h8 := levelF_lt x h0 h1
  obtain ⟨hxor, hl⟩ := mLeft1_xor x h0 h1 h2
  have HLv := fun w (ht : Go.Proofs.TabAt 1 Lib.deBruijn64tab w) => mLevel_any x w h0 h1 ht
  generalize levelF x = k at HLv hxor hl h8
  have HC := Lib.hid HLv
  have HT := Lib.hid ht
  clear ht h2 HLv
  rcases (by omega : k = 1 ∨ k = 2 ∨ k = 3 ∨ k = 4 ∨ k = 5 ∨ k = 6 ∨ k = 7 ∨ k = 8) with rfl | rfl | rfl | rfl | rfl | rfl | rfl | rfl
  · simp only [Nat.reduceSub, Int.reducePow, Int.reduceMul] at hxor
    have hw : IntKind.i64.wrap 0 = 0 := by decide
    have hs : ∀ w, (Op.shift BinOp.shl IntKind.i64 1 IntKind.i64 0).run Tryz.prog w = .ok (.int .i64 1) w := fun _ => by kernel_rfl
    go_enter Tryz.func61, Tryz.ntmps61
    go_wp2_with fail
    go_region_held3 (fun w' => w'.cell? ⟨b, 0, none⟩ = some (.int .i64 x)) (go_keep) (first | (go_at_call 62; refine (HC.out w.drew (fun j hj => HT.out j hj)).mono ?_; rintro e w' ⟨rfl, rfl⟩))
    go_wp2
    go_ret
    exact ⟨ret_int (by first | exact hxor | simpa using hxor), (Below.refl _ _).drew⟩
  · simp only [Nat.reduceSub, Int.reducePow, Int.reduceMul] at hxor
    have hw : IntKind.i64.wrap 1 = 1 := by decide
    have hs : ∀ w, (Op.shift BinOp.shl IntKind.i64 1 IntKind.i64 1).run Tryz.prog w = .ok (.int .i64 2) w := fun _ => by kernel_rfl
    go_enter Tryz.func61, Tryz.ntmps61
    go_wp2_with fail
    go_region_held3 (fun w' => w'.cell? ⟨b, 0, none⟩ = some (.int .i64 x)) (go_keep) (first | (go_at_call 62; refine (HC.out w.drew (fun j hj => HT.out j hj)).mono ?_; rintro e w' ⟨rfl, rfl⟩))
    go_wp2
    go_ret
    exact ⟨ret_int (by first | exact hxor | simpa using hxor), (Below.refl _ _).drew⟩
  · simp only [Nat.reduceSub, Int.reducePow, Int.reduceMul] at hxor
    have hw : IntKind.i64.wrap 2 = 2 := by decide
    have hs : ∀ w, (Op.shift BinOp.shl IntKind.i64 1 IntKind.i64 2).run Tryz.prog w = .ok (.int .i64 4) w := fun _ => by kernel_rfl
    go_enter Tryz.func61, Tryz.ntmps61
    go_wp2_with fail
    go_region_held3 (fun w' => w'.cell? ⟨b, 0, none⟩ = some (.int .i64 x)) (go_keep) (first | (go_at_call 62; refine (HC.out w.drew (fun j hj => HT.out j hj)).mono ?_; rintro e w' ⟨rfl, rfl⟩))
    go_wp2
    go_ret
    exact ⟨ret_int (by first | exact hxor | simpa using hxor), (Below.refl _ _).drew⟩
  · simp only [Nat.reduceSub, Int.reducePow, Int.reduceMul] at hxor
    have hw : IntKind.i64.wrap 3 = 3 := by decide
    have hs : ∀ w, (Op.shift BinOp.shl IntKind.i64 1 IntKind.i64 3).run Tryz.prog w = .ok (.int .i64 8) w := fun _ => by kernel_rfl
    go_enter Tryz.func61, Tryz.ntmps61
    go_wp2_with fail
    go_region_held3 (fun w' => w'.cell? ⟨b, 0, none⟩ = some (.int .i64 x)) (go_keep) (first | (go_at_call 62; refine (HC.out w.drew (fun j hj => HT.out j hj)).mono ?_; rintro e w' ⟨rfl, rfl⟩))
    go_wp2
    go_ret
    exact ⟨ret_int (by first | exact hxor | simpa using hxor), (Below.refl _ _).drew⟩
  · simp only [Nat.reduceSub, Int.reducePow, Int.reduceMul] at hxor
    have hw : IntKind.i64.wrap 4 = 4 := by decide
    have hs : ∀ w, (Op.shift BinOp.shl IntKind.i64 1 IntKind.i64 4).run Tryz.prog w = .ok (.int .i64 16) w := fun _ => by kernel_rfl
    go_enter Tryz.func61, Tryz.ntmps61
    go_wp2_with fail
    go_region_held3 (fun w' => w'.cell? ⟨b, 0, none⟩ = some (.int .i64 x)) (go_keep) (first | (go_at_call 62; refine (HC.out w.drew (fun j hj => HT.out j hj)).mono ?_; rintro e w' ⟨rfl, rfl⟩))
    go_wp2
    go_ret
    exact ⟨ret_int (by first | exact hxor | simpa using hxor), (Below.refl _ _).drew⟩
  · simp only [Nat.reduceSub, Int.reducePow, Int.reduceMul] at hxor
    have hw : IntKind.i64.wrap 5 = 5 := by decide
    have hs : ∀ w, (Op.shift BinOp.shl IntKind.i64 1 IntKind.i64 5).run Tryz.prog w = .ok (.int .i64 32) w := fun _ => by kernel_rfl
    go_enter Tryz.func61, Tryz.ntmps61
    go_wp2_with fail
    go_region_held3 (fun w' => w'.cell? ⟨b, 0, none⟩ = some (.int .i64 x)) (go_keep) (first | (go_at_call 62; refine (HC.out w.drew (fun j hj => HT.out j hj)).mono ?_; rintro e w' ⟨rfl, rfl⟩))
    go_wp2
    go_ret
    exact ⟨ret_int (by first | exact hxor | simpa using hxor), (Below.refl _ _).drew⟩
  · simp only [Nat.reduceSub, Int.reducePow, Int.reduceMul] at hxor
    have hw : IntKind.i64.wrap 6 = 6 := by decide
    have hs : ∀ w, (Op.shift BinOp.shl IntKind.i64 1 IntKind.i64 6).run Tryz.prog w = .ok (.int .i64 64) w := fun _ => by kernel_rfl
    go_enter Tryz.func61, Tryz.ntmps61
    go_wp2_with fail
    go_region_held3 (fun w' => w'.cell? ⟨b, 0, none⟩ = some (.int .i64 x)) (go_keep) (first | (go_at_call 62; refine (HC.out w.drew (fun j hj => HT.out j hj)).mono ?_; rintro e w' ⟨rfl, rfl⟩))
    go_wp2
    go_ret
    exact ⟨ret_int (by first | exact hxor | simpa using hxor), (Below.refl _ _).drew⟩
  · simp only [Nat.reduceSub, Int.reducePow, Int.reduceMul] at hxor
    have hw : IntKind.i64.wrap 7 = 7 := by decide
    have hs : ∀ w, (Op.shift BinOp.shl IntKind.i64 1 IntKind.i64 7).run Tryz.prog w = .ok (.int .i64 128) w := fun _ => by kernel_rfl
    go_enter Tryz.func61, Tryz.ntmps61
    go_wp2_with fail
    go_region_held3 (fun w' => w'.cell? ⟨b, 0, none⟩ = some (.int .i64 x)) (go_keep) (first | (go_at_call 62; refine (HC.out w.drew (fun j hj => HT.out j hj)).mono ?_; rintro e w' ⟨rfl, rfl⟩))
    go_wp2
    go_ret
    exact ⟨ret_int (by first | exact hxor | simpa using hxor), (Below.refl _ _).drew⟩

theorem mRight1_xor (x : Int) (h0 : 0 ≤ x) (h1 : x ≤ 510) (h2 : x % 2 = 1) : bits BinOp.xor IntKind.i64 x (3 * 2 ^ (levelF x - 1)) = rightF x ∧ 1 ≤ levelF x :=
  small_ind (p := fun x => x % 2 = 1 → bits BinOp.xor IntKind.i64 x (3 * 2 ^ (levelF x - 1)) = rightF x ∧ 1 ≤ levelF x) (by decide +kernel) x h0 h1 h2

theorem mRight1_any (b : Nat) (x : Int) (w : World) (hx : w.cell? ⟨b, 0, none⟩ = some (.int .i64 x)) (h0 : 0 ≤ x) (h1 : x ≤ 510) (h2 : x % 2 = 1) (ht : Go.Proofs.TabAt 1 Lib.deBruijn64tab w) :
    Calls Tryz.prog 63 #[.pointer (some ⟨b, 0, none⟩)] w fun e w' => e = .returned (.int .i64 (rightF x)) ∧ Below w.heap.size w w' := by
  have h8 := levelF_lt x h0 h1
  obtain ⟨hxor, hl⟩ := mRight1_xor x h0 h1 h2
  have HLv := fun w (ht : Go.Proofs.TabAt 1 Lib.deBruijn64tab w) => mLevel_any x w h0 h1 ht
  generalize levelF x = k at HLv hxor hl h8
  have HC := Lib.hid HLv
  have HT := Lib.hid ht
  clear ht h2 HLv
  rcases (by omega : k = 1 ∨ k = 2 ∨ k = 3 ∨ k = 4 ∨ k = 5 ∨ k = 6 ∨ k = 7 ∨ k = 8) with rfl | rfl | rfl | rfl | rfl | rfl | rfl | rfl
  · simp only [Nat.reduceSub, Int.reducePow, Int.reduceMul] at hxor
    have hw : IntKind.i64.wrap 0 = 0 := by decide
    have hs : ∀ w, (Op.shift BinOp.shl IntKind.i64 3 IntKind.i64 0).run Tryz.prog w = .ok (.int .i64 3) w := fun _ => by kernel_rfl
    go_enter Tryz.func63, Tryz.ntmps63
    go_wp2_with fail
    go_region_held3 (fun w' => w'.cell? ⟨b, 0, none⟩ = some (.int .i64 x)) (go_keep) (first | (go_at_call 62; refine (HC.out w.drew (fun j hj => HT.out j hj)).mono ?_; rintro e w' ⟨rfl, rfl⟩))
    go_wp2
    go_ret
    exact ⟨ret_int (by first | exact hxor | simpa using hxor), (Below.refl _ _).drew⟩
  · simp only [Nat.reduceSub, Int.reducePow, Int.reduceMul] at hxor
    have hw : IntKind.i64.wrap 1 = 1 := by decide
    have hs : ∀ w, (Op.shift BinOp.shl IntKind.i64 3 IntKind.i64 1).run Tryz.prog w = .ok (.int .i64 6) w := fun _ => by kernel_rfl
    go_enter Tryz.func63, Tryz.ntmps63
    go_wp2_with fail
    go_region_held3 (fun w' => w'.cell? ⟨b, 0, none⟩ = some (.int .i64 x)) (go_keep) (first | (go_at_call 62; refine (HC.out w.drew (fun j hj => HT.out j hj)).mono ?_; rintro e w' ⟨rfl, rfl⟩))
    go_wp2
    go_ret
    exact ⟨ret_int (by first | exact hxor | simpa using hxor), (Below.refl _ _).drew⟩
  · simp only [Nat.reduceSub, Int.reducePow, Int.reduceMul] at hxor
    have hw : IntKind.i64.wrap 2 = 2 := by decide
    have hs : ∀ w, (Op.shift BinOp.shl IntKind.i64 3 IntKind.i64 2).run Tryz.prog w = .ok (.int .i64 12) w := fun _ => by kernel_rfl
    go_enter Tryz.func63, Tryz.ntmps63
    go_wp2_with fail
    go_region_held3 (fun w' => w'.cell? ⟨b, 0, none⟩ = some (.int .i64 x)) (go_keep) (first | (go_at_call 62; refine (HC.out w.drew (fun j hj => HT.out j hj)).mono ?_; rintro e w' ⟨rfl, rfl⟩))
    go_wp2
    go_ret
    exact ⟨ret_int (by first | exact hxor | simpa using hxor), (Below.refl _ _).drew⟩
  · simp only [Nat.reduceSub, Int.reducePow, Int.reduceMul] at hxor
    have hw : IntKind.i64.wrap 3 = 3 := by decide
    have hs : ∀ w, (Op.shift BinOp.shl IntKind.i64 3 IntKind.i64 3).run Tryz.prog w = .ok (.int .i64 24) w := fun _ => by kernel_rfl
    go_enter Tryz.func63, Tryz.ntmps63
    go_wp2_with fail
    go_region_held3 (fun w' => w'.cell? ⟨b, 0, none⟩ = some (.int .i64 x)) (go_keep) (first | (go_at_call 62; refine (HC.out w.drew (fun j hj => HT.out j hj)).mono ?_; rintro e w' ⟨rfl, rfl⟩))
    go_wp2
    go_ret
    exact ⟨ret_int (by first | exact hxor | simpa using hxor), (Below.refl _ _).drew⟩
  · simp only [Nat.reduceSub, Int.reducePow, Int.reduceMul] at hxor
    have hw : IntKind.i64.wrap 4 = 4 := by decide
    have hs : ∀ w, (Op.shift BinOp.shl IntKind.i64 3 IntKind.i64 4).run Tryz.prog w = .ok (.int .i64 48) w := fun _ => by kernel_rfl
    go_enter Tryz.func63, Tryz.ntmps63
    go_wp2_with fail
    go_region_held3 (fun w' => w'.cell? ⟨b, 0, none⟩ = some (.int .i64 x)) (go_keep) (first | (go_at_call 62; refine (HC.out w.drew (fun j hj => HT.out j hj)).mono ?_; rintro e w' ⟨rfl, rfl⟩))
    go_wp2
    go_ret
    exact ⟨ret_int (by first | exact hxor | simpa using hxor), (Below.refl _ _).drew⟩
  · simp only [Nat.reduceSub, Int.reducePow, Int.reduceMul] at hxor
    have hw : IntKind.i64.wrap 5 = 5 := by decide
    have hs : ∀ w, (Op.shift BinOp.shl IntKind.i64 3 IntKind.i64 5).run Tryz.prog w = .ok (.int .i64 96) w := fun _ => by kernel_rfl
    go_enter Tryz.func63, Tryz.ntmps63
    go_wp2_with fail
    go_region_held3 (fun w' => w'.cell? ⟨b, 0, none⟩ = some (.int .i64 x)) (go_keep) (first | (go_at_call 62; refine (HC.out w.drew (fun j hj => HT.out j hj)).mono ?_; rintro e w' ⟨rfl, rfl⟩))
    go_wp2
    go_ret
    exact ⟨ret_int (by first | exact hxor | simpa using hxor), (Below.refl _ _).drew⟩
  · simp only [Nat.reduceSub, Int.reducePow, Int.reduceMul] at hxor
    have hw : IntKind.i64.wrap 6 = 6 := by decide
    have hs : ∀ w, (Op.shift BinOp.shl IntKind.i64 3 IntKind.i64 6).run Tryz.prog w = .ok (.int .i64 192) w := fun _ => by kernel_rfl
    go_enter Tryz.func63, Tryz.ntmps63
    go_wp2_with fail
    go_region_held3 (fun w' => w'.cell? ⟨b, 0, none⟩ = some (.int .i64 x)) (go_keep) (first | (go_at_call 62; refine (HC.out w.drew (fun j hj => HT.out j hj)).mono ?_; rintro e w' ⟨rfl, rfl⟩))
    go_wp2
    go_ret
    exact ⟨ret_int (by first | exact hxor | simpa using hxor), (Below.refl _ _).drew⟩
  · simp only [Nat.reduceSub, Int.reducePow, Int.reduceMul] at hxor
    have hw : IntKind.i64.wrap 7 = 7 := by decide
    have hs : ∀ w, (Op.shift BinOp.shl IntKind.i64 3 IntKind.i64 7).run Tryz.prog w = .ok (.int .i64 384) w := fun _ => by kernel_rfl
    go_enter Tryz.func63, Tryz.ntmps63
    go_wp2_with fail
    go_region_held3 (fun w' => w'.cell? ⟨b, 0, none⟩ = some (.int .i64 x)) (go_keep) (first | (go_at_call 62; refine (HC.out w.drew (fun j hj => HT.out j hj)).mono ?_; rintro e w' ⟨rfl, rfl⟩))
    go_wp2
    go_ret
    exact ⟨ret_int (by first | exact hxor | simpa using hxor), (Below.refl _ _).drew⟩

def childB (x : Int) : Bool := any1B x && (x % 2 == 1)

theorem tab_below {w w' : World} (h : Go.Proofs.TabAt 1 Lib.deBruijn64tab w) (hb : Below w.heap.size w w') : Go.Proofs.TabAt 1 Lib.deBruijn64tab w' := fun j hj => cell_bl hb (h j hj)

theorem mLeft_any (x : Int) (w : World) (ht : Go.Proofs.TabAt 1 Lib.deBruijn64tab w) :
    Calls Tryz.prog 36 #[.int .i64 x] w fun e w' => e = .returned (.tuple #[.int .i64 (if childB x then leftF x else 0), .int .i64 (if childB x then 0 else 1)]) ∧ Below w.heap.size w w' := by
  have hB : Below w.heap.size w (w.alloc (.cells #[.int .i64 x] 3)) := (Below.refl _ _).alloc (Nat.le_refl _) _
  have HB := Lib.hid hB
  have HC := Lib.hid (mWhen_any (childB x) 61 #[.pointer (some ⟨w.heap.size, 0, none⟩)] (leftF x) (w.alloc (.cells #[.int .i64 x] 3)) (fun hok => by
    simp [childB, any1B] at hok
    exact mLeft1_any w.heap.size x _ (cell_new w _ rfl) hok.1.1 hok.1.2 hok.2 (tab_below ht hB)) Tryz.call61)
  clear ht hB
  generalize leftF x = y at HC ⊢
  cases h : any1B x with
  | false =>
    have hc : childB x = false := by simp [childB, h]
    rw [hc] at HC ⊢
    have HH := Lib.hid h
    clear h hc
    go_enter Tryz.func36, Tryz.ntmps36
    go_wp2_with (first
      | (go_at_call 60; refine (mAny1_any x _).mono ?_; rintro e w' ⟨rfl, rfl⟩; rw [HH.out])
      | (go_at_call 27; refine HC.out.mono ?_; rintro e w' ⟨rfl, hb⟩))
    go_ret2
    exact ⟨rfl, HB.out.trans (hb.mono (by simp))⟩
  | true =>
    have hx : 0 ≤ x ∧ x ≤ 510 := by simpa [any1B] using h
    have ha := and_one x hx.1 hx.2
    have hc : childB x = (x % 2 == 1) := by simp [childB, h]
    rw [hc] at HC ⊢
    have HH := Lib.hid h
    clear h hc hx
    generalize (x % 2) = r at ha HC ⊢
    cases hr : (r == 1)
    all_goals
      rw [hr] at HC
      go_enter Tryz.func36, Tryz.ntmps36
      go_wp2_with (first
        | (go_at_call 60; refine (mAny1_any x _).mono ?_; rintro e w' ⟨rfl, rfl⟩; rw [HH.out])
        | (go_at_call 27; refine HC.out.mono ?_; rintro e w' ⟨rfl, hb⟩))
      go_ret2
      exact ⟨rfl, HB.out.trans (hb.mono (by simp))⟩

theorem mRight_any (x : Int) (w : World) (ht : Go.Proofs.TabAt 1 Lib.deBruijn64tab w) :
    Calls Tryz.prog 37 #[.int .i64 x] w fun e w' => e = .returned (.tuple #[.int .i64 (if childB x then rightF x else 0), .int .i64 (if childB x then 0 else 1)]) ∧ Below w.heap.size w w' := by
  have hB : Below w.heap.size w (w.alloc (.cells #[.int .i64 x] 3)) := (Below.refl _ _).alloc (Nat.le_refl _) _
  have HB := Lib.hid hB
  have HC := Lib.hid (mWhen_any (childB x) 63 #[.pointer (some ⟨w.heap.size, 0, none⟩)] (rightF x) (w.alloc (.cells #[.int .i64 x] 3)) (fun hok => by
    simp [childB, any1B] at hok
    exact mRight1_any w.heap.size x _ (cell_new w _ rfl) hok.1.1 hok.1.2 hok.2 (tab_below ht hB)) Tryz.call63)
  clear ht hB
  generalize rightF x = y at HC ⊢
  cases h : any1B x with
  | false =>
    have hc : childB x = false := by simp [childB, h]
    rw [hc] at HC ⊢
    have HH := Lib.hid h
    clear h hc
    go_enter Tryz.func37, Tryz.ntmps37
    go_wp2_with (first
      | (go_at_call 60; refine (mAny1_any x _).mono ?_; rintro e w' ⟨rfl, rfl⟩; rw [HH.out])
      | (go_at_call 27; refine HC.out.mono ?_; rintro e w' ⟨rfl, hb⟩))
    go_ret2
    exact ⟨rfl, HB.out.trans (hb.mono (by simp))⟩
  | true =>
    have hx : 0 ≤ x ∧ x ≤ 510 := by simpa [any1B] using h
    have ha := and_one x hx.1 hx.2
    have hc : childB x = (x % 2 == 1) := by simp [childB, h]
    rw [hc] at HC ⊢
    have HH := Lib.hid h
    clear h hc hx
    generalize (x % 2) = r at ha HC ⊢
    cases hr : (r == 1)
    all_goals
      rw [hr] at HC
      go_enter Tryz.func37, Tryz.ntmps37
      go_wp2_with (first
        | (go_at_call 60; refine (mAny1_any x _).mono ?_; rintro e w' ⟨rfl, rfl⟩; rw [HH.out])
        | (go_at_call 27; refine HC.out.mono ?_; rintro e w' ⟨rfl, hb⟩))
      go_ret2
      exact ⟨rfl, HB.out.trans (hb.mono (by simp))⟩

/-- A tree may have so many leaves. -/
def fullB (n : Int) : Bool := decide (1 ≤ n) && (decide (n ≤ 256) && (bits BinOp.and IntKind.i64 n (n - 1) == 0))

theorem mFull_any (n : Int) (w : World) :
    Calls Tryz.prog 28 #[.int .i64 n] w fun e w' => e = .returned (.bool (fullB n)) ∧ w = w' := by
  unfold fullB
  by_cases h1 : 1 ≤ n
  · have hd : decide (1 ≤ n) = true := by simpa using h1
    by_cases h2 : n ≤ 256
    · have hd2 : decide (n ≤ 256) = true := by simpa using h2
      go_enter Tryz.func28, Tryz.ntmps28
      go_wp2
      go_ret
      exact ⟨ret_bool (by simp [hd, hd2]), rfl⟩
    · have hd2 : decide (n ≤ 256) = false := by simpa using h2
      go_enter Tryz.func28, Tryz.ntmps28
      go_wp2
      go_ret
      exact ⟨ret_bool (by simp [hd, hd2]), rfl⟩
  · have hd : decide (1 ≤ n) = false := by simpa using h1
    go_enter Tryz.func28, Tryz.ntmps28
    go_wp2
    go_ret
    exact ⟨ret_bool (by simp [hd]), rfl⟩

theorem mRoot1_any (b : Nat) (x : Int) (w : World) (hx : w.cell? ⟨b, 0, none⟩ = some (.int .i64 x)) (h0 : 1 ≤ x) (h1 : x ≤ 256) :
    Calls Tryz.prog 29 #[.pointer (some ⟨b, 0, none⟩)] w fun e w' => e = .returned (.int .i64 (x - 1)) ∧ w = w' := by
  go_enter Tryz.func29, Tryz.ntmps29
  go_wp2
  go_ret
  exact ⟨rfl, rfl⟩

theorem mRoot_any (x : Int) (w : World) :
    Calls Tryz.prog 16 #[.int .i64 x] w fun e w' => e = .returned (.tuple #[.int .i64 (if fullB x then x - 1 else 0), .int .i64 (if fullB x then 0 else 1)]) ∧ Below w.heap.size w w' := by
  have hB : Below w.heap.size w (w.alloc (.cells #[.int .i64 x] 3)) := (Below.refl _ _).alloc (Nat.le_refl _) _
  have HB := Lib.hid hB
  have HC := Lib.hid (mWhen_any (fullB x) 29 #[.pointer (some ⟨w.heap.size, 0, none⟩)] (x - 1) (w.alloc (.cells #[.int .i64 x] 3)) (fun hok => by
    simp [fullB] at hok
    exact (mRoot1_any w.heap.size x _ (cell_new w _ rfl) hok.1 hok.2.1).mono fun e w' h => ⟨h.1, by rw [h.2]; exact Below.refl _ _⟩) Tryz.call29)
  clear hB
  generalize hy : x - 1 = y at HC ⊢
  clear hy
  generalize hf : fullB x = f at HC ⊢
  have HF := Lib.hid hf
  clear hf
  cases f
  all_goals
    go_enter Tryz.func16, Tryz.ntmps16
    go_wp2_with (first
      | (go_at_call 28; refine (mFull_any x _).mono ?_; rintro e w' ⟨rfl, rfl⟩; rw [HF.out])
      | (go_at_call 27; refine HC.out.mono ?_; rintro e w' ⟨rfl, hb⟩))
    go_ret2
    exact ⟨rfl, HB.out.trans (hb.mono (by simp))⟩

/-- The leaves under a node: from, to. -/
def fromF (x : Int) : Int := (x - (2 ^ levelF x - 1)) / 2
def toF (x : Int) : Int := (x + (2 ^ levelF x - 1)) / 2 + 1

theorem level_le (x : Int) (h0 : 0 ≤ x) (h1 : x ≤ 510) : 2 ^ levelF x - 1 ≤ x := small_ind (p := fun x => 2 ^ levelF x - 1 ≤ x) (by decide +kernel) x h0 h1
theorem mLeaves_any (x : Int) (w : World) (ht : Go.Proofs.TabAt 1 Lib.deBruijn64tab w) :
    Calls Tryz.prog 59 #[.int .i64 x] w fun e w' => e = .returned (.tuple #[.int .i64 (if any1B x then fromF x else 0), .int .i64 (if any1B x then toF x else 0), .int .i64 (if any1B x then 0 else 1)]) ∧ w = w' := by
  cases h : any1B x with
  | false =>
    have HH := Lib.hid h
    clear h ht
    go_enter Tryz.func59, Tryz.ntmps59
    go_wp2_with (first
      | (go_at_call 60; refine (mAny1_any x _).mono ?_; rintro e w' ⟨rfl, rfl⟩; rw [HH.out])
      | (go_at_call 81; refine (mCheck_any false _).mono ?_; rintro e w' ⟨rfl, rfl⟩))
    go_ret3
    exact ⟨rfl, rfl⟩
  | true =>
    have hx : 0 ≤ x ∧ x ≤ 510 := by simpa [any1B] using h
    obtain ⟨h0, h1⟩ := hx
    have h8 := levelF_lt x h0 h1
    have hle := level_le x h0 h1
    have HC := Lib.hid (mLevel_any x w h0 h1 ht)
    have HH := Lib.hid h
    clear h ht
    unfold fromF toF
    generalize levelF x = k at HC h8 hle ⊢
    rcases (by omega : k = 0 ∨ k = 1 ∨ k = 2 ∨ k = 3 ∨ k = 4 ∨ k = 5 ∨ k = 6 ∨ k = 7 ∨ k = 8) with rfl | rfl | rfl | rfl | rfl | rfl | rfl | rfl | rfl
    all_goals
      simp only [Int.reducePow, Int.reduceSub] at hle
      go_enter Tryz.func59, Tryz.ntmps59
      go_wp2_with (first
        | (go_at_call 60; refine (mAny1_any x _).mono ?_; rintro e w' ⟨rfl, rfl⟩; rw [HH.out])
        | (go_at_call 81; refine (mCheck_any true _).mono ?_; rintro e w' ⟨rfl, rfl⟩)
        | (go_at_call 62; refine HC.out.mono ?_; rintro e w' ⟨rfl, rfl⟩))
      go_ret3
      exact ⟨by simp, rfl⟩
end Go.Proofs.YtnkndplbcbehkaaGreatDoor
