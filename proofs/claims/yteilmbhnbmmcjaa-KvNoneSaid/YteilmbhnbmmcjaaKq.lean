/- Helper: the statement that no store has no keys; walked. No condition. -/
import Derived.Test.YteilmbhnbmmcjaaKo
namespace Go.Proofs.Yteilmbhnbmmcjaa.B
open Go.RowKit Go.Proofs.YteilmbhnbmmcjaaW.PrintWords Go.Proofs.Yteilmbhnbmmcjaa.Later
set_option maxRecDepth 100000
set_option maxHeartbeats 3200000
theorem kall_nil (w : World) : Calls Try.prog 30 #[.pointer none] w fun e w' => e = .returned (.tuple #[.slice none 0 0, .int .i64 1]) ∧ w = w' := by
  go_enter Try.func30, Try.ntmps30
  go_wp2
  go_ret2
  exact ⟨rfl, rfl⟩
theorem change_nil (v f : Value) (w : World) : Calls Try.prog 61 #[.pointer none, v, f] w fun e w' => e = .returned (.int .i64 1) ∧ w = w' := by
  go_enter Try.func61, Try.ntmps61
  go_wp2
  go_ret
  exact ⟨rfl, rfl⟩
theorem kset_nil (v : Value) (w : World) : Calls Try.prog 31 #[.pointer none, v] w fun e w' => e = .returned (.int .i64 1) ∧ w = w' := by
  have h := change_nil v
  go_enter Try.func31, Try.ntmps31
  go_wp2_with fail
  refine (h _ w).mono ?_
  rintro e w1 ⟨rfl, rfl⟩
  go_wp2
  go_ret
  exact ⟨rfl, rfl⟩
theorem kdrop_nil (w : World) : Calls Try.prog 35 #[.pointer none, .slice none 0 0] w fun e w' => e = .returned (.int .i64 1) ∧ w = w' := by
  go_enter Try.func35, Try.ntmps35
  go_wp2
  go_loopw [5, 10] (fun x c wr => x = .slice none 0 0 ∧ c = .int .i64 0 ∧ w = wr) (fun _ _ _ => 0)
  case atStart => exact ⟨rfl, rfl, rfl⟩
  case round =>
    obtain ⟨rfl, rfl, rfl⟩ := hrel
    go_wp2_with fail
    refine (change_nil _ _ w).mono ?_
    rintro e w1 ⟨rfl, rfl⟩
    go_wp2
    go_ret
    exact ⟨rfl, rfl⟩
theorem KvNone_any (size : Int) (s : ByteArray) (w : World) : Calls Try.prog 10 #[.int .i64 size, .string s] w fun e w' => e = .returned (.bool true) ∧ Below w.heap.size w w' := by
  obtain ⟨z, hz⟩ : ∃ z, z = openE size := ⟨_, rfl⟩
  have Hz := Lib.hid hz
  clear hz
  go_enter Try.func10, Try.ntmps10
  go_wp2_with fail
  refine (kdisk_any w).mono ?_
  rintro e w1 ⟨a, rfl, ha, hM, hB1⟩
  have HM := Lib.hid hM
  have HB1 := Lib.hid hB1
  clear hM hB1
  go_wp2_with fail
  refine (kget_nil s w1).mono ?_
  rintro e w2 ⟨rfl, rfl⟩
  go_wp2_with fail
  refine (kall_nil w1).mono ?_
  rintro e w2 ⟨rfl, rfl⟩
  go_wp2_with fail
  refine (kopen_size a size w1).mono ?_
  rintro e w2 ⟨⟨v, rfl, _⟩, hb2⟩
  have HB2 := Lib.hid (HB1.out.trans (hb2.mono HB1.out.size))
  have HM2 := Lib.hid (HM.out.below hb2)
  clear hb2 HM HB1
  rw [← Hz.out]
  go_wp2_with fail
  refine (kopen_nil 5 64 w2).mono ?_
  rintro e w3 ⟨rfl, rfl⟩
  go_wp2_with fail
  refine (awake_any w2).mono ?_
  rintro e w3 ⟨rfl, hb3⟩
  have HB3 := Lib.hid (HB2.out.trans (hb3.mono HB2.out.size))
  have HM3 := Lib.hid (HM2.out.below hb3)
  clear hb3 HM2 HB2
  go_wp2_with fail
  refine (kset_nil _ w3).mono ?_
  rintro e w4 ⟨rfl, rfl⟩
  go_wp2_with fail
  refine (kdrop_nil w3).mono ?_
  rintro e w4 ⟨rfl, rfl⟩
  have hz := Hz.out
  unfold openE at hz
  clear Hz
  by_cases h1 : size < 64
  · rw [if_pos (by omega)] at hz
    subst hz
    go_wp2_with fail
    refine (kmake_nil 5 w3).mono ?_
    rintro e w4 ⟨rfl, rfl⟩
    go_wp2_with fail
    refine (kmake_zero a w3 HM3.out).mono ?_
    rintro e w4 ⟨rfl, _, hm4⟩
    have HB4 := Lib.hid (Below.mut HB3.out hm4 HB3.out.size ha)
    clear hm4
    go_wp2
    go_ret
    exact ⟨rfl, HB4.out⟩
  · by_cases h2 : 256 < size
    · rw [if_pos (by omega)] at hz
      subst hz
      have h1' : 64 ≤ size := by omega
      go_wp2_with fail
      refine (kmake_nil 5 w3).mono ?_
      rintro e w4 ⟨rfl, rfl⟩
      go_wp2_with fail
      refine (kmake_zero a w3 HM3.out).mono ?_
      rintro e w4 ⟨rfl, _, hm4⟩
      have HB4 := Lib.hid (Below.mut HB3.out hm4 HB3.out.size ha)
      clear hm4
      go_wp2
      go_ret
      exact ⟨rfl, HB4.out⟩
    · rw [if_neg (by omega)] at hz
      subst hz
      have h1' : 64 ≤ size := by omega
      have h2' : size ≤ 256 := by omega
      go_wp2_with fail
      refine (kmake_nil 5 w3).mono ?_
      rintro e w4 ⟨rfl, rfl⟩
      go_wp2_with fail
      refine (kmake_zero a w3 HM3.out).mono ?_
      rintro e w4 ⟨rfl, _, hm4⟩
      have HB4 := Lib.hid (Below.mut HB3.out hm4 HB3.out.size ha)
      clear hm4
      go_wp2
      go_ret
      have eb : (!decide (size < 64) && !decide (256 < size)) = true := by simp [h1, h2]
      exact ⟨congrArg (fun b => Ending.returned (.bool b)) eb, HB4.out⟩
end Go.Proofs.Yteilmbhnbmmcjaa.B
