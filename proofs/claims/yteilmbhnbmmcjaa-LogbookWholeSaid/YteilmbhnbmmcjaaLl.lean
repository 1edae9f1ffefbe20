/- Helper: the document's numbers and texts as bytes; walked. No condition. -/
import Derived.Test.YteilmbhnbmmcjaaLk
namespace Go.Proofs.Yteilmbhnbmmcjaa.B
open Go.RowKit Go.Proofs.YteilmbhnbmmcjaaW.PrintWords Go.Proofs.Yteilmbhnbmmcjaa.Later
set_option maxRecDepth 100000
set_option maxHeartbeats 800000
theorem strOf_bs (xs : List UInt8) : strOfNums (xs.map fun b => (b.toNat : Int)) = bs xs := by
  simp [strOfNums, bs, Function.comp_def]
theorem Row.string' {w : World} {base : Nat} {v : Value} {xs : List UInt8} (h : Row w base v xs) (src : TypeId) (hs : Try.prog.underlying src = some (.slice 5)) : (convert src 9 v).run Try.prog w = .ok (.string (bs xs)) w := by
  have e : encs encB xs = nums .u8 (xs.map fun b => (b.toNat : Int)) := by simp [encs, nums, encB, Function.comp_def]
  have h' : w.ownsRow base 5 1 v xs.length (nums .u8 (xs.map fun b => (b.toNat : Int))) := by rw [← e]; exact h
  rw [own_string (P := Try.prog) (dst := 9) hs (by kernel_rfl) (by kernel_rfl) h', strOf_bs]
theorem Row.slice {w : World} {base : Nat} {v : Value} {xs : List UInt8} (h : Row w base v xs) : ∃ A c, v = .slice A xs.length c := own_slice h
def RNumRel (n : Nat) (w : World) (x v : Value) (wr : World) : Prop :=
  ∃ (done : List UInt8) (rest : Nat), leL n = done ++ leL rest ∧ rest ≤ n ∧ x = .int .u64 rest ∧ Row wr w.heap.size v done ∧ Below w.heap.size w wr
theorem refnum_any (n : Nat) (hn : n < 18446744073709551616) (w : World) : Calls Try.prog 52 #[.int .u64 (n : Int)] w fun e w' => e = .returned (.string (bs (numL n))) ∧ Below w.heap.size w w' := by
  go_enter Try.func52, Try.ntmps52
  go_wp2
  go_loopw [0, 3] (fun x v wr => RNumRel n w x v wr) (fun x _ _ => (intOf x).toNat)
  case atStart => exact ⟨[], n, rfl, Nat.le_refl _, rfl, Row.lit w w.heap.size [] (Nat.le_refl _) (by decide), (Below.refl _ _).alloc (Nat.le_refl _) _⟩
  case round =>
    obtain ⟨done, rest, he, hle, rfl, hR, hB⟩ := hrel
    have HR := Lib.hid hR
    have HB := Lib.hid hB
    have HE := Lib.hid he
    have hl := leL_len 8 n (by omega)
    have hdl : done.length + (leL rest).length = (leL n).length := by rw [he]; simp
    clear hR hB he
    by_cases hp : 0 < rest
    · have Hp := Lib.hid (leL_pos hp)
      have hpl : (leL rest).length = (leL (rest / 256)).length + 1 := by rw [leL_pos hp]; simp
      have hxb : (Value.int .u8 ((rest : Int) % 256)) = encB (UInt8.ofNat rest) := by simp [encB]
      have Hxb := Lib.hid hxb
      clear hxb
      go_wp2_with (first
        | (at_builtin; (refine print_append_of (w0 := w) encB w.heap.size rfl (.tmp 7) (.tmp 11) 126 5 (.int .u8 0) 1 rfl Try.underlying126 info5 rfl (by decide) _ done (UInt8.ofNat rest) rfl rfl rfl HR.out HB.out ?s1 ?l1 ?_); (case s1 => exact HB.out.size); (case l1 => omega); intro v1 w2 hR2 hB2 hg hat; have HR2 := Lib.hid (show Row w2 w.heap.size v1 (done ++ [UInt8.ofNat rest]) from hR2); have HB2 := Lib.hid hB2; clear hR2 hB2 hg hat)
        )
      refine ⟨⟨done ++ [UInt8.ofNat rest], rest / 256, ?_, by omega, by simp, HR2.out, HB2.out⟩, ?_⟩
      · rw [HE.out, Hp.out]; simp
      · simp [intOf]; omega
    · have h0 : rest = 0 := by omega
      have he' : leL n = done := by rw [HE.out, h0, leL_zero, List.append_nil]
      have hd8 : done.length ≤ 8 := by rw [← he']; exact hl
      have hdb : (done.length : Int) % 256 = done.length := by omega
      obtain ⟨A, c, rfl⟩ := HR.out.slice
      obtain ⟨w1, hw1⟩ : ∃ w1, w1 = wr.alloc (.cells (encs encB [UInt8.ofNat done.length]).toArray 5) := ⟨_, rfl⟩
      have hr1 : Row w1 w.heap.size (.slice (some ⟨wr.heap.size, 0, none⟩) 1 1) [UInt8.ofNat done.length] := by rw [hw1]; exact Row.lit wr w.heap.size [UInt8.ofNat done.length] HB.out.size (by simp)
      have hst1 := hr1.string' 126 (by kernel_rfl)
      have hrd : Row w1 w.heap.size (.slice A done.length c) done := by rw [hw1]; exact pw_own_below HR.out ((Below.refl _ _).alloc (Nat.le_refl _) _)
      have hst2 := hrd.string' 126 (by kernel_rfl)
      have hB1 : Below w.heap.size w w1 := by rw [hw1]; exact HB.out.alloc HB.out.size _
      have e8 : (UInt8.ofNat done.length).toNat = done.length := by rw [UInt8.toNat_ofNat']; omega
      have ew : wr.alloc (.cells #[.int .u8 (done.length : Int)] 5) = w1 := by rw [hw1]; simp only [encs, encB, List.map, e8]
      have z1 := bs_size [UInt8.ofNat done.length]
      have z2 := bs_size done
      rw [show ([UInt8.ofNat done.length] : List UInt8).length = 1 from rfl] at z1
      clear e8
      have HB1 := Lib.hid hB1
      have He' := Lib.hid he'
      clear hw1 hr1 hrd hB1 he'
      go_wp2
      go_ret
      refine ⟨?_, HB1.out⟩
      rw [bs_app, numL, He'.out]
      rfl
theorem reftext_any (s : List UInt8) (hs : s.length < 4294967296) (w : World) : Calls Try.prog 53 #[.string (bs s)] w fun e w' => e = .returned (.string (bs (textL s))) ∧ Below w.heap.size w w' := by
  have hsz := bs_size s
  go_enter Try.func53, Try.ntmps53
  go_wp2_with fail
  refine (refnum_any s.length (by omega) w).mono ?_
  rintro e w1 ⟨rfl, hB⟩
  have hs1 := bs_size (numL s.length)
  have hl1 := numL_len (n := s.length) (by omega)
  go_wp2
  go_ret
  exact ⟨by simp [bs_app, textL], hB⟩
end Go.Proofs.Yteilmbhnbmmcjaa.B
