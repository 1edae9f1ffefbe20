/- Helper: the functions on floats, each walked once. No condition. -/
import Derived.Test.YtbbfngnfphmohaaProg
import Derived.WalkKit
import Derived.WalkLawsBesides
import Derived.Lib.Hide
import Derived.Deep.QuietTactic
import Derived.BigQuiet
namespace Go.Proofs.Ytbbfngnfphmohaa.Fl
open Go.RowKit
def nanB (b : Nat) : Bool := FloatKind.f64.format.order b b != some .eq
theorem isNaN_any (b : Nat) (w : World) : Calls Try.prog 20 #[.float .f64 b] w fun e w' => e = .returned (.bool (nanB b)) ∧ w = w' := by
  go_enter Try.func20, Try.ntmps20
  go_wp2
  go_ret
  exact ⟨rfl, rfl⟩
theorem run_frombits (n : Int) (w : World) : (callFunc 31 #[.int .u64 n]).run Try.prog w = .ok (.value (.float .f64 n.toNat)) w :=
  run_callFunc_extern (e := Extern.MathFloatBits.float64frombits) Try.func31 (by kernel_rfl) (by kernel_rfl) (by kernel_rfl) (by kernel_rfl) _ w
theorem run_bits (b : Nat) (w : World) : (callFunc 32 #[.float .f64 b]).run Try.prog w = .ok (.value (.int .u64 b)) w :=
  run_callFunc_extern (e := Extern.MathFloatBits.float64bits) Try.func32 (by kernel_rfl) (by kernel_rfl) (by kernel_rfl) (by kernel_rfl) _ w
theorem nan_any (w : World) : Calls Try.prog 28 #[] w fun e w' => e = .returned (.float .f64 9221120237041090561) ∧ w = w' := by
  have h := run_frombits
  go_enter Try.func28, Try.ntmps28
  go_wp2
  go_ret
  exact ⟨rfl, rfl⟩
def rankB (b : Nat) : Int :=
  if nanB b = true then -9223372036854775808 else if wrap64 (b : Int) < 0 then wrap64 (wrap64 (-bits BinOp.and IntKind.i64 (wrap64 (b : Int)) 9223372036854775807) - 1) else wrap64 (b : Int)
set_option maxHeartbeats 400000 in
theorem rank_any (b : Nat) (w : World) : Calls Try.prog 29 #[.float .f64 b] w fun e w' => e = .returned (.int .i64 (rankB b)) ∧ w = w' := by
  have h := run_bits
  go_enter Try.func29, Try.ntmps29
  go_wp2_with (go_at_call 20; refine (isNaN_any _ _).mono ?_; rintro e w' ⟨rfl, rfl⟩)
  all_goals go_ret
  all_goals unfold rankB
  · rw [if_pos (by assumption)]; exact ⟨rfl, rfl⟩
  · have h1 : nanB b = false := by assumption
    rw [if_neg (by rw [h1]; decide), if_pos (by omega)]; exact ⟨rfl, rfl⟩
  · have h1 : nanB b = false := by assumption
    rw [if_neg (by rw [h1]; decide), if_neg (by omega)]; exact ⟨rfl, rfl⟩
def ordB (a b : Nat) : Int := if rankB a < rankB b then -1 else if rankB a > rankB b then 1 else 0
set_option maxHeartbeats 400000 in
theorem order_any (a b : Nat) (w : World) : Calls Try.prog 19 #[.float .f64 a, .float .f64 b] w fun e w' => e = .returned (.int .i64 (ordB a b)) ∧ w = w' := by
  go_enter Try.func19, Try.ntmps19
  go_wp2_with (go_at_call 29; refine (rank_any _ _).mono ?_; rintro e w' ⟨rfl, rfl⟩)
  all_goals go_ret
  all_goals unfold ordB
  · rw [if_pos (by assumption)]; exact ⟨rfl, rfl⟩
  · rename_i h1 h2
    rw [if_neg (by omega), if_pos h2]; exact ⟨rfl, rfl⟩
  · rename_i h1 h2
    rw [if_neg (by omega), if_neg (by omega)]; exact ⟨rfl, rfl⟩
def absB (b : Nat) : Nat := (bits BinOp.andNot IntKind.u64 (b : Int) 9223372036854775808).toNat
theorem abs_any (b : Nat) (w : World) : Calls Try.prog 30 #[.float .f64 b] w fun e w' => e = .returned (.float .f64 (absB b)) ∧ w = w' := by
  have h := run_bits
  have h2 := run_frombits
  go_enter Try.func30, Try.ntmps30
  go_wp2
  go_ret
  exact ⟨rfl, rfl⟩
def gtMax (b : Nat) : Bool := FloatKind.f64.format.order b 9218868437227405311 == some .gt
theorem isInf_zero (b : Nat) (w : World) : Calls Try.prog 22 #[.float .f64 b, .int .i64 0] w fun e w' => e = .returned (.bool (gtMax (absB b))) ∧ w = w' := by
  go_enter Try.func22, Try.ntmps22
  go_wp2_with (go_at_call 30; refine (abs_any _ _).mono ?_; rintro e w' ⟨rfl, rfl⟩)
  go_ret
  exact ⟨rfl, rfl⟩
theorem isInf_one (b : Nat) (w : World) : Calls Try.prog 22 #[.float .f64 b, .int .i64 1] w fun e w' => e = .returned (.bool (gtMax b)) ∧ w = w' := by
  go_enter Try.func22, Try.ntmps22
  go_wp2
  go_ret
  exact ⟨rfl, rfl⟩
/-! ### Arithmetic, no numbers too -/
def Rf (o : Option Nat) (b : Nat) : Prop := match o with | some r => b = r | none => nanB b = true
def arN (op : BinOp) (x y : Nat) : Nat := match floatBits op .f64 x y with | some _ => 0 | none => 1
def arV (op : BinOp) (x y : Nat) (w : World) : Nat :=
  match floatBits op .f64 x y with
  | some r => r
  | none => (Question.nanBits .f64 x y).cut (w.tape w.drawn (.nanBits .f64 x y))
def isArith : BinOp → Bool
  | .add | .sub | .mul | .quo => true
  | _ => false
theorem run_ar (op : BinOp) (hop : isArith op = true) (t : TypeId) (x y : Nat) (P : Program) (w : World) : (binOp op t (.float .f64 x) (.float .f64 y)).run P w = .ok (.float .f64 (arV op x y w)) (w.drewN (arN op x y)) := by
  unfold arV arN
  cases h : floatBits op .f64 x y with
  | some r => exact run_float_arith w op t .f64 x y r h
  | none =>
    unfold floatBits at h
    cases op <;> simp only [isArith] at hop <;> first | (cases hop; done) | skip
    all_goals simp only at h
    all_goals simp [binOp, Op.floatArith, h, choose, Sem.run, Question.forced, World.drewN]
def isNanD (d : Ieee.Datum) : Bool := d matches .nan ..
theorem nanB_read (b : Nat) : nanB b = isNanD (FloatKind.f64.format.read b) := by
  unfold nanB Ieee.Format.order
  cases FloatKind.f64.format.read b with
  | nan n f => rfl
  | infinity s => cases s <;> rfl
  | number s m e => simp [Ieee.Datum.order, isNanD, compare, compareOfLessAndEq]
theorem word_not_nan (neg : Bool) (r : Nat) (h : r ≤ Ieee.double.infRung) : isNanD (Ieee.double.read (Ieee.double.word neg r)) = false := by
  have e1 : Ieee.double.infRung = 9218868437227405312 := by decide
  have e2 : Ieee.double.signWeight = 9223372036854775808 := by decide
  have e3 : Ieee.double.binade = 4503599627370496 := by decide
  have hm : Ieee.double.word neg r % Ieee.double.signWeight = r := by
    unfold Ieee.Format.word
    rw [e2]
    cases neg <;> simp only [if_true, if_false, Bool.false_eq_true] <;> omega
  unfold Ieee.Format.read
  simp only [hm]
  split
  · rfl
  · split
    · rfl
    · rw [if_pos (by omega)]; rfl
theorem write_not_nan (d : Ieee.Datum) (h : isNanD d = false) : isNanD (Ieee.double.read (Ieee.double.write d)) = false := by
  cases d with
  | nan n f => cases h
  | infinity s => exact word_not_nan _ _ (Nat.le_refl _)
  | number s m e =>
    unfold Ieee.Format.write Ieee.Format.nearest
    simp only
    split
    · exact word_not_nan _ _ (Nat.zero_le _)
    · exact word_not_nan _ _ (Nat.min_le_right _ _)
theorem sum_not_nan (a b d : Ieee.Datum) (h : a.sum b = some d) : isNanD d = false := by
  cases a <;> cases b <;> simp only [Ieee.Datum.sum] at h <;> first | (cases h; done) | skip
  all_goals first | (cases h; rfl) | (split at h <;> cases h; rfl)
theorem prod_not_nan (a b d : Ieee.Datum) (h : a.product b = some d) : isNanD d = false := by
  cases a <;> cases b <;> simp only [Ieee.Datum.product] at h <;> first | (cases h; done) | skip
  all_goals first | (cases h; rfl) | (split at h <;> cases h; rfl)
theorem quot_not_nan (n : Nat) (a b d : Ieee.Datum) (h : a.quotient n b = some d) : isNanD d = false := by
  cases a <;> cases b <;> simp only [Ieee.Datum.quotient] at h <;> first | (cases h; done) | skip
  all_goals first | (cases h; rfl) | (split at h <;> first | (cases h; rfl) | (split at h <;> cases h; rfl))
theorem floatBits_not_nan (op : BinOp) (x y r : Nat) (h : floatBits op .f64 x y = some r) : nanB r = false := by
  rw [nanB_read]
  show isNanD (Ieee.double.read r) = false
  unfold floatBits at h
  split at h
  · unfold Ieee.Format.add at h
    obtain ⟨d, hd, rfl⟩ := Option.map_eq_some_iff.1 h
    exact write_not_nan _ (sum_not_nan _ _ _ hd)
  · unfold Ieee.Format.sub at h
    obtain ⟨d, hd, rfl⟩ := Option.map_eq_some_iff.1 h
    exact write_not_nan _ (sum_not_nan _ _ _ hd)
  · unfold Ieee.Format.mul at h
    obtain ⟨d, hd, rfl⟩ := Option.map_eq_some_iff.1 h
    exact write_not_nan _ (prod_not_nan _ _ _ hd)
  · unfold Ieee.Format.div at h
    obtain ⟨d, hd, rfl⟩ := Option.map_eq_some_iff.1 h
    exact write_not_nan _ (quot_not_nan _ _ _ _ hd)
  · cases h
theorem nan_bits (t : Nat) (x y : Nat) : nanB ((Question.nanBits .f64 x y).cut t) = true := by
  rw [nanB_read]
  show isNanD (Ieee.double.read ((t % 2) * 2 ^ 63 + 0x7ff0000000000000 + 1 + (t / 2) % (2 ^ 52 - 1))) = true
  have e1 : Ieee.double.infRung = 9218868437227405312 := by decide
  have e2 : Ieee.double.signWeight = 9223372036854775808 := by decide
  have e3 : Ieee.double.binade = 4503599627370496 := by decide
  have hm : ((t % 2) * 2 ^ 63 + 0x7ff0000000000000 + 1 + (t / 2) % (2 ^ 52 - 1)) % Ieee.double.signWeight = 0x7ff0000000000000 + 1 + (t / 2) % (2 ^ 52 - 1) := by rw [e2]; omega
  unfold Ieee.Format.read
  simp only [hm]
  rw [if_neg (by omega), if_neg (by omega), if_neg (by omega)]
  rfl
theorem rf_ar (op : BinOp) (x y : Nat) (w : World) : Rf (floatBits op .f64 x y) (arV op x y w) := by
  unfold arV
  cases h : floatBits op .f64 x y with
  | some r => rfl
  | none => exact nan_bits _ _ _
/-- What a float is: none, where it is no number. -/
def fl (b : Nat) : Option Nat := if nanB b = true then none else some b
theorem read_nan {b : Nat} (h : nanB b = true) : ∃ n f, Ieee.double.read b = .nan n f := by
  rw [nanB_read] at h
  change isNanD (Ieee.double.read b) = true at h
  cases e : Ieee.double.read b with
  | nan n f => exact ⟨n, f, rfl⟩
  | infinity s => rw [e] at h; cases h
  | number s m i => rw [e] at h; cases h
theorem bits_nan_left {op : BinOp} {x y : Nat} (h : nanB x = true) : floatBits op .f64 x y = none := by
  obtain ⟨n, f, e⟩ := read_nan h
  unfold floatBits
  split
  · show Ieee.double.add x y = none; unfold Ieee.Format.add; rw [e]; rfl
  · show Ieee.double.sub x y = none; unfold Ieee.Format.sub; rw [e]; rfl
  · show Ieee.double.mul x y = none; unfold Ieee.Format.mul; rw [e]; rfl
  · show Ieee.double.div x y = none; unfold Ieee.Format.div; rw [e]; rfl
  · rfl
theorem bits_nan_right {op : BinOp} {x y : Nat} (h : nanB y = true) : floatBits op .f64 x y = none := by
  obtain ⟨n, f, e⟩ := read_nan h
  unfold floatBits
  split
  · show Ieee.double.add x y = none; unfold Ieee.Format.add; rw [e]; cases Ieee.double.read x <;> rfl
  · show Ieee.double.sub x y = none; unfold Ieee.Format.sub; rw [e]; cases Ieee.double.read x <;> rfl
  · show Ieee.double.mul x y = none; unfold Ieee.Format.mul; rw [e]; cases Ieee.double.read x <;> rfl
  · show Ieee.double.div x y = none; unfold Ieee.Format.div; rw [e]; cases Ieee.double.read x <;> rfl
  · rfl
/-- Arithmetic on what floats are. -/
def ar (op : BinOp) (x y : Option Nat) : Option Nat := x.bind fun a => y.bind fun b => floatBits op .f64 a b
theorem rf_op (op : BinOp) {x y : Option Nat} {a b : Nat} (hx : Rf x a) (hy : Rf y b) (w : World) : Rf (ar op x y) (arV op a b w) := by
  cases x with
  | none =>
    have h := rf_ar op a b w
    rw [bits_nan_left hx] at h
    exact h
  | some u =>
    obtain rfl : a = u := hx
    cases y with
    | none =>
      have h := rf_ar op a b w
      rw [bits_nan_right hy] at h
      exact h
    | some v =>
      obtain rfl : b = v := hy
      exact rf_ar op a b w
theorem rf_fl (b : Nat) : Rf (fl b) b := by
  unfold fl
  split
  · assumption
  · rfl
/-- Whole numbers as floats. -/
def flI (n : Int) : Nat := floatOfInt .f64 n
def ofO (live pages age : Int) : Option Nat :=
  if pages = 0 then none else
    let full := floatBits .quo .f64 (flI live) (flI pages)
    let gain := ar .sub (some 4607182418800017408) full
    let cost := ar .mul (some 4611686018427387904) full
    ar .quo (ar .mul (ar .add (some (flI age)) (some 4607182418800017408)) gain) cost
end Go.Proofs.Ytbbfngnfphmohaa.Fl
