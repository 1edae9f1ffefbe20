/- Helper: what it is worth to clear a block, walked. No condition. -/
import Derived.Test.YtbbfngnfphmohaaFa
namespace Go.Proofs.Ytbbfngnfphmohaa.Fl
open Go.RowKit
@[go_sem] theorem run_ar_add (t : TypeId) (x y : Nat) (P : Program) (w : World) : (binOp .add t (.float .f64 x) (.float .f64 y)).run P w = .ok (.float .f64 (arV .add x y w)) (w.drewN (arN .add x y)) := run_ar .add rfl t x y P w
@[go_sem] theorem run_ar_sub (t : TypeId) (x y : Nat) (P : Program) (w : World) : (binOp .sub t (.float .f64 x) (.float .f64 y)).run P w = .ok (.float .f64 (arV .sub x y w)) (w.drewN (arN .sub x y)) := run_ar .sub rfl t x y P w
@[go_sem] theorem run_ar_mul (t : TypeId) (x y : Nat) (P : Program) (w : World) : (binOp .mul t (.float .f64 x) (.float .f64 y)).run P w = .ok (.float .f64 (arV .mul x y w)) (w.drewN (arN .mul x y)) := run_ar .mul rfl t x y P w
@[go_sem] theorem run_ar_quo (t : TypeId) (x y : Nat) (P : Program) (w : World) : (binOp .quo t (.float .f64 x) (.float .f64 y)).run P w = .ok (.float .f64 (arV .quo x y w)) (w.drewN (arN .quo x y)) := run_ar .quo rfl t x y P w
def OfPost (live pages age : Int) (w : World) (e : Ending) (w' : World) : Prop := ∃ r, e = .returned (.float .f64 r) ∧ Rf (ofO live pages age) r ∧ Below w.heap.size w w'
theorem ofPost_mk {live pages age : Int} {w w' : World} {r : Nat} (h : Rf (ofO live pages age) r) (hb : Below w.heap.size w w') : OfPost live pages age w (.returned (.float .f64 r)) w' := ⟨r, rfl, h, hb⟩
theorem rf_some (b : Nat) : Rf (some b) b := rfl
set_option maxHeartbeats 400000 in
theorem of_zero (live age : Int) (w : World) : Calls Try.prog 17 #[.agg #[.int .i64 live, .int .i64 0, .int .i64 age]] w (OfPost live 0 age w) := by
  go_enter Try.func17, Try.ntmps17
  go_wp2_with (go_at_call 28; refine (nan_any _).mono ?_; rintro e w' ⟨rfl, rfl⟩)
  go_ret
  refine ofPost_mk ?_ ?_
  · unfold ofO; rw [if_pos rfl]; show nanB 9221120237041090561 = true; decide +kernel
  · exact below_drewN ((Below.refl _ _).alloc (Nat.le_refl _) _) _
set_option maxHeartbeats 400000 in
theorem of_some (live pages age : Int) (hp : (pages == 0) = false) (w : World) : Calls Try.prog 17 #[.agg #[.int .i64 live, .int .i64 pages, .int .i64 age]] w (OfPost live pages age w) := by
  go_enter Try.func17, Try.ntmps17
  go_wp2
  go_ret
  refine ofPost_mk ?_ ?_
  · unfold ofO; rw [if_neg (by simpa using hp)]
    have h1 : ∀ w, Rf (floatBits .quo .f64 (flI live) (flI pages)) (arV .quo (flI live) (flI pages) w) := fun w => rf_ar _ _ _ w
    exact rf_op _ (rf_op _ (rf_op _ (rf_some _) (rf_some _) _) (rf_op _ (rf_some _) (h1 _) _) _) (rf_op _ (rf_some _) (h1 _) _) _
  · exact below_drewN ((Below.refl _ _).alloc (Nat.le_refl _) _) _
theorem of_any (live pages age : Int) (w : World) : Calls Try.prog 17 #[.agg #[.int .i64 live, .int .i64 pages, .int .i64 age]] w (OfPost live pages age w) := by
  by_cases h : pages = 0
  · subst h; exact of_zero live age w
  · exact of_some live pages age (by simpa using h) w
theorem of_483 : ofO 4 8 3 = some 4611686018427387904 := by decide +kernel
theorem of_080 : ofO 0 8 0 = some 9218868437227405312 := by decide +kernel
set_option maxRecDepth 100000 in
set_option maxHeartbeats 400000 in
theorem awake_any (w : World) : Calls Try.prog 18 #[] w fun e w' => e = .returned (.bool true) ∧ Below w.heap.size w w' := by
  have ht : (FloatKind.f64.format.order 4611686018427387904 4611686018427387904 == some .eq) = true := by decide +kernel
  have hi : gtMax 9218868437227405312 = true := by decide +kernel
  have ho : ordB 4607182418800017408 4611686018427387904 = -1 := by decide +kernel
  have HO := Lib.hid ho
  clear ho
  go_enter Try.func18, Try.ntmps18
  go_wp2_with fail
  refine (of_any 4 8 3 _).mono ?_
  rintro e w1 ⟨r, rfl, hr, hb1⟩
  obtain rfl : r = 4611686018427387904 := by rw [of_483] at hr; exact hr
  clear hr
  go_wp2_with fail
  refine (of_any 0 8 0 _).mono ?_
  rintro e w2 ⟨r, rfl, hr, hb2⟩
  obtain rfl : r = 9218868437227405312 := by rw [of_080] at hr; exact hr
  clear hr
  go_wp2_with fail
  refine (isInf_one _ _).mono ?_
  rintro e w3 ⟨rfl, rfl⟩
  rw [hi]
  go_wp2_with fail
  refine (order_any _ _ _).mono ?_
  rintro e w3 ⟨rfl, rfl⟩
  rw [HO.out]
  go_wp2
  go_ret
  exact ⟨rfl, hb1.trans (hb2.mono hb1.size)⟩
end Go.Proofs.Ytbbfngnfphmohaa.Fl
