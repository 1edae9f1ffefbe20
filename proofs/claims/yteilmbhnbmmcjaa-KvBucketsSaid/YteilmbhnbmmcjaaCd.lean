/- Helper: texts, and the end, walked; what was written is read. No condition. -/
import Derived.Test.YteilmbhnbmmcjaaCc
namespace Go.Proofs.Yteilmbhnbmmcjaa.B
open Go.RowKit Go.Proofs.YteilmbhnbmmcjaaW.PrintWords
set_option maxRecDepth 100000
set_option maxHeartbeats 800000
theorem numL_len {n : Nat} (h : n < 18446744073709551616) : (numL n).length ≤ 9 := by
  have := leL_len 8 n (by omega)
  simp [numL]; omega
theorem ctext_any (l : List UInt8) (hl : l.length < 4294967296) (w : World) : Calls Try.prog 76 #[.string (bs l)] w fun e w' => e = .returned (.string (bs (textL l))) ∧ Below w.heap.size w w' := by
  have hsz := bs_size l
  have hsn := bs_size (numL l.length)
  have hln := numL_len (n := l.length) (by omega)
  go_enter Try.func76, Try.ntmps76
  go_wp2_with fail
  refine (num_any l.length (by omega) w).mono ?_
  rintro e w1 ⟨rfl, hb⟩
  go_wp2
  go_ret
  refine ⟨?_, hb⟩
  simp [textL, bs_app]
/-- How a reader ends. -/
def Rdr.end (r : Rdr) : Int := if r.e = 0 ∧ r.l ≠ [] then 4 else r.e
theorem end_any (r : Rdr) (g : Nat) (w : World) (h : RdAt w g r) : Calls Try.prog 41 #[.pointer (some ⟨g, 0, none⟩)] w fun e w' => e = .returned (.int .i64 r.end) ∧ w = w' := by
  have h0 := h.c0
  have hnil := bs_isnil r.l
  by_cases he : r.e = 0
  · have hb : (r.e == 0) = true := by simp [he]
    by_cases hl : r.l = []
    · simp only [hl, decide_true] at hnil h0
      go_enter Try.func41, Try.ntmps41
      go_wp2_with fail
      refine (err_any r g w h).mono ?_
      rintro e w1 ⟨rfl, rfl⟩
      go_wp2_with fail
      refine (err_any r g w h).mono ?_
      rintro e w1 ⟨rfl, rfl⟩
      go_wp2
      go_ret
      exact ⟨by simp [Rdr.end, hl, he], rfl⟩
    · simp only [hl, decide_false] at hnil
      go_enter Try.func41, Try.ntmps41
      go_wp2_with fail
      refine (err_any r g w h).mono ?_
      rintro e w1 ⟨rfl, rfl⟩
      go_wp2
      go_ret
      exact ⟨by simp [Rdr.end, hl, he], rfl⟩
  · have hb : (r.e == 0) = false := beq_eq_false_iff_ne.2 he
    go_enter Try.func41, Try.ntmps41
    go_wp2_with fail
    refine (err_any r g w h).mono ?_
    rintro e w1 ⟨rfl, rfl⟩
    go_wp2_with fail
    refine (err_any r g w h).mono ?_
    rintro e w1 ⟨rfl, rfl⟩
    go_wp2
    go_ret
    exact ⟨by simp [Rdr.end, he], rfl⟩
/-- A text, read. -/
def Rdr.text (r : Rdr) (most : Nat) : List UInt8 × Rdr := (r.num most).2.bytes (r.num most).1
theorem num_le (r : Rdr) (most : Nat) : (r.num most).1 ≤ most := by
  unfold Rdr.num
  simp only
  split
  · simp
  · split
    · simp
    · split
      · simp
      · split
        · simp
        · split
          · simp
          · simp; omega
theorem rtext_any (r : Rdr) (most : Nat) (hmost : most < 4294967296) (g : Nat) (w : World) (h : RdAt w g r) : Calls Try.prog 78 #[.pointer (some ⟨g, 0, none⟩), .int .i64 (most : Int)] w fun e w' => e = .returned (.string (bs (r.text most).1)) ∧ RdAt w' g (r.text most).2 ∧ Mut (only g) w w' := by
  have Hh := Lib.hid h
  clear h
  have hle := num_le r most
  go_enter Try.func78, Try.ntmps78
  go_wp2_with fail
  refine (rnum_any r most (by omega) g _ Hh.out).mono ?_
  rintro e w1 ⟨rfl, h2, hm2⟩
  have H1 := Lib.hid h2
  have HM := Lib.hid hm2
  clear h2 hm2
  go_wp2_with fail
  refine (bytes_any _ _ g _ H1.out (by omega)).mono ?_
  rintro e w2 ⟨rfl, h2, hm2⟩
  have H2 := Lib.hid h2
  have HM2 := Lib.hid (HM.out.trans hm2)
  clear h2 hm2
  go_wp2
  go_ret
  exact ⟨rfl, H2.out, HM2.out⟩

/-! What was written is read. -/
theorem leV_leL : ∀ n : Nat, leV (leL n) = n := by
  intro n
  induction n using Nat.strongRecOn with
  | _ n ih =>
    by_cases h : n = 0
    · subst h; rw [leL_zero]; rfl
    · rw [leL_pos (by omega), leV, ih (n / 256) (by omega)]
      simp; omega
theorem lastZ_leL : ∀ n : Nat, lastZ (leL n) = false := by
  intro n
  induction n using Nat.strongRecOn with
  | _ n ih =>
    by_cases h : n = 0
    · subst h; rw [leL_zero]; rfl
    · rw [leL_pos (by omega)]
      by_cases h2 : n / 256 = 0
      · rw [h2, leL_zero]
        have : UInt8.ofNat n ≠ 0 := by
          intro e
          have := congrArg UInt8.toNat e
          simp at this; omega
        simpa [lastZ] using this
      · have := ih (n / 256) (by omega)
        rw [leL_pos (by omega)] at this ⊢
        unfold lastZ at this ⊢
        rw [List.getLast?_cons_cons]
        exact this
theorem bytes_app (l m : List UInt8) : (Rdr.mk (l ++ m) 0).bytes l.length = (l, ⟨m, 0⟩) := by
  unfold Rdr.bytes
  rw [if_neg (by simp), if_neg (by simp; omega)]
  simp
theorem num_numL (n most : Nat) (l : List UInt8) (h : n ≤ most) (hm : most < 18446744073709551616) : (Rdr.mk (numL n ++ l) 0).num most = (n, ⟨l, 0⟩) := by
  have hl := leL_len 8 n (by omega)
  have e1 : (Rdr.mk (numL n ++ l) 0).bytes 1 = ([UInt8.ofNat (leL n).length], ⟨leL n ++ l, 0⟩) := bytes_app [UInt8.ofNat (leL n).length] (leL n ++ l)
  have e2 : (UInt8.ofNat (leL n).length).toNat = (leL n).length := by simp; omega
  have e3 := bytes_app (leL n) l
  unfold Rdr.num
  simp only [e1, hd0, e2, e3]
  rw [if_neg (by simp), if_neg (by omega), if_neg (by simp), if_neg (by simp [lastZ_leL]), if_neg (by rw [leV_leL]; omega), leV_leL]
theorem text_textL (s l : List UInt8) (most : Nat) (h : s.length ≤ most) (hm : most < 18446744073709551616) : (Rdr.mk (textL s ++ l) 0).text most = (s, ⟨l, 0⟩) := by
  have e : textL s ++ l = numL s.length ++ (s ++ l) := by simp [textL]
  unfold Rdr.text
  rw [e, num_numL _ most _ h hm]
  exact bytes_app s l
end Go.Proofs.Yteilmbhnbmmcjaa.B
