/- Helper: the statement on no logbook; walked. No condition. -/
import Derived.Test.YteilmbhnbmmcjaaLq
namespace Go.Proofs.Yteilmbhnbmmcjaa.B
open Go.RowKit Go.Proofs.YteilmbhnbmmcjaaW.PrintWords Go.Proofs.Yteilmbhnbmmcjaa.Later
set_option maxRecDepth 100000
set_option maxHeartbeats 1600000
theorem last_nil (w : World) : Calls Try.prog 20 #[.pointer none] w fun e w' => e = .returned (.int .i64 0) ∧ w = w' := by
  go_enter Try.func20, Try.ntmps20
  go_wp2
  go_ret
  exact ⟨rfl, rfl⟩
theorem gone0 (size : Int) (h1 : 64 ≤ size) (h2 : size ≤ 256) (a : Nat) (w : World) (hM : MdAt w a (mkM T0 none 0)) : Calls Try.prog 13 #[dv a, .int .i64 4, .int .i64 size] w fun e w' => e = .returned (.tuple #[.pointer none, .int .i64 181]) ∧ Below w.heap.size w w' :=
  open_gone a T0 0 4 size (by constructor <;> omega) h1 h2 rfl w hM
theorem Below.mutT {B g : Nat} {w w1 w2 : World} (h : Below B w w1) (hm : Mut (only g) w1 w2) (hB : B ≤ w1.heap.size) (hg : B ≤ g) : Below B w w2 := Below.mut h hm hB hg
theorem LogbookNone_any (size : Int) (hs : I64 size) (w : World) : Calls Try.prog 5 #[.int .i64 size] w fun e w' => e = .returned (.bool true) ∧ Below w.heap.size w w' := by
  obtain ⟨hs1, hs2⟩ := hs
  go_enter Try.func5, Try.ntmps5
  go_wp2_with fail
  refine (disk_any _).mono ?_
  rintro e w1 ⟨a, rfl, ha, hM, hB1⟩
  have HB1 := Lib.hid hB1
  have HM := Lib.hid hM
  clear hB1 hM
  go_wp2_with fail
  refine (add_nil 1 ⟨#[]⟩ w1).mono ?_
  rintro e w2 ⟨rfl, rfl⟩
  go_wp2_with fail
  refine (all_nil w1).mono ?_
  rintro e w2 ⟨rfl, rfl⟩
  go_wp2_with fail
  refine (note_nil 1 w1).mono ?_
  rintro e w2 ⟨rfl, hB2⟩
  have HM2 := Lib.hid (HM.out.below hB2)
  have HB2 := Lib.hid (HB1.out.trans (hB2.mono HB1.out.size))
  clear hB2 HM HB1
  unfold ntZ
  go_wp2_with fail
  obtain ⟨w3, hw3⟩ : ∃ w3, w3 = w2.alloc (.cells #[.int .i64 0, .int .i64 0, .string ⟨#[]⟩] 45) := ⟨_, rfl⟩
  rw [← hw3]
  have hb3 : Below w2.heap.size w2 w3 := by rw [hw3]; exact (Below.refl _ _).alloc (Nat.le_refl _) _
  have hx3 : Blk w3 w2.heap.size #[.int .i64 0, .int .i64 0, .string ⟨#[]⟩] 45 := by rw [hw3]; exact Blk.new w2 _ 45
  have HM3 := Lib.hid (HM2.out.below hb3)
  have HB3 := Lib.hid (HB2.out.trans (hb3.mono HB2.out.size))
  clear hw3 hb3 hx3 HB2 HM2
  refine (gone0 64 (by omega) (by omega) a w3 HM3.out).mono ?_
  rintro e w4 ⟨rfl, hB4⟩
  have HM4 := Lib.hid (HM3.out.below hB4)
  have HB4 := Lib.hid (HB3.out.trans (hB4.mono HB3.out.size))
  clear hB4 HM3 HB3
  go_wp2_with fail
  by_cases hbad : size < 64 ∨ 256 < size
  · refine (open_size a 4 size hbad w4).mono ?_
    rintro e w5 ⟨rfl, rfl⟩
    go_wp2_with fail
    refine (open_nil 4 64 w4).mono ?_
    rintro e w5 ⟨rfl, rfl⟩
    rcases hbad with hb | hb
    · have hb' : ¬ 256 < size := by omega
      go_wp2_with fail
      refine (awake40 w4).mono ?_
      rintro e w5 ⟨rfl, hB5⟩
      have HM5 := Lib.hid (HM4.out.below hB5)
      have HB5 := Lib.hid (HB4.out.trans (hB5.mono HB4.out.size))
      clear hB5
      go_wp2_with (first | (go_at_call 20; with_reducible refine (last_nil _).mono ?_; rintro e w6 ⟨rfl, rfl⟩) | (go_at_call 12; with_reducible refine (make_nil 4 _).mono ?_; rintro e w6 ⟨rfl, rfl⟩) | (go_at_call 12; refine (make_zero a w5 HM5.out).mono ?_; rintro e w7 ⟨rfl, _, hm7⟩))
      go_ret
      exact ⟨rfl, Below.mut HB5.out hm7 HB5.out.size ha⟩
    · have hb' : 64 ≤ size := by omega
      go_wp2_with fail
      refine (awake40 w4).mono ?_
      rintro e w5 ⟨rfl, hB5⟩
      have HM5 := Lib.hid (HM4.out.below hB5)
      have HB5 := Lib.hid (HB4.out.trans (hB5.mono HB4.out.size))
      clear hB5
      go_wp2_with (first | (go_at_call 20; with_reducible refine (last_nil _).mono ?_; rintro e w6 ⟨rfl, rfl⟩) | (go_at_call 12; with_reducible refine (make_nil 4 _).mono ?_; rintro e w6 ⟨rfl, rfl⟩) | (go_at_call 12; refine (make_zero a w5 HM5.out).mono ?_; rintro e w7 ⟨rfl, _, hm7⟩))
      go_ret
      exact ⟨rfl, Below.mut HB5.out hm7 HB5.out.size ha⟩
  · have hb1 : 64 ≤ size := by omega
    have hb2 : size ≤ 256 := by omega
    refine (gone0 size hb1 hb2 a w4 HM4.out).mono ?_
    rintro e wx ⟨rfl, hB4⟩
    have HMx := Lib.hid (HM4.out.below hB4)
    have HBx := Lib.hid (HB4.out.trans (hB4.mono HB4.out.size))
    clear hB4 HM4 HB4 hbad
    go_wp2_with fail
    refine (open_nil 4 64 wx).mono ?_
    rintro e w5 ⟨rfl, rfl⟩
    go_wp2_with fail
    refine (awake40 wx).mono ?_
    rintro e w5 ⟨rfl, hB5⟩
    have HM5 := Lib.hid (HMx.out.below hB5)
    have HB5 := Lib.hid (HBx.out.trans (hB5.mono HBx.out.size))
    clear hB5
    go_wp2_with (first | (go_at_call 20; with_reducible refine (last_nil _).mono ?_; rintro e w6 ⟨rfl, rfl⟩) | (go_at_call 12; with_reducible refine (make_nil 4 _).mono ?_; rintro e w6 ⟨rfl, rfl⟩) | (go_at_call 12; refine (make_zero a w5 HM5.out).mono ?_; rintro e w7 ⟨rfl, _, hm7⟩))
    go_ret
    refine ⟨?_, Below.mut HB5.out hm7 HB5.out.size ha⟩
    show Ending.returned (.bool (!decide (size < 64) && !decide (256 < size))) = _
    rw [decide_eq_false (by omega), decide_eq_false (by omega)]
    rfl
end Go.Proofs.Yteilmbhnbmmcjaa.B
