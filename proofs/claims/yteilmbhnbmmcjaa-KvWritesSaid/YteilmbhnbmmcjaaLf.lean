/- Helper: a logbook that may not be made; one that is opened; walked. No condition. -/
import Derived.Test.YteilmbhnbmmcjaaLe
namespace Go.Proofs.Yteilmbhnbmmcjaa.B
open Go.RowKit Go.Proofs.YteilmbhnbmmcjaaW.PrintWords Go.Proofs.Yteilmbhnbmmcjaa.Later
set_option maxRecDepth 100000
set_option maxHeartbeats 800000
theorem nilEq82 (W : World) : (binOp .eql 82 Value.nilIface Value.nilIface).run Try.prog W = .ok (.bool true) W := by kernel_rfl
theorem make_nil (id : Int) (w : World) : Calls Try.prog 12 #[Value.nilIface, .int .i64 id] w fun e w' => e = .returned (.int .i64 1) ∧ w = w' := by
  have q := nilEq82
  go_enter Try.func12, Try.ntmps12
  go_wp2
  go_ret
  exact ⟨rfl, rfl⟩
def rMake0 : Rc := ⟨4, 0, 0, 0, 0, 7⟩
theorem rMake0_may : rMake0.may = false := by decide
theorem make_zero (a : Nat) (w : World) (hM : MdAt w a (mkM T0 none 0)) : Calls Try.prog 12 #[dv a, .int .i64 0] w fun e w' => e = .returned (.int .i64 1) ∧ MdAt w' a (mkM T0 none 0) ∧ Mut (only a) w w' := by
  have HM := Lib.hid hM
  clear hM
  have q1 := methBegin a
  have q4 := methAbort a
  have q5 := methDo a
  show Calls Try.prog 12 #[.iface 23 (.pointer (some ⟨a, 0, none⟩)), .int .i64 0] w _
  go_enter Try.func12, Try.ntmps12
  go_wp2_with fail
  refine (begin_any _ a w HM.out).mono ?_
  rintro e w1 ⟨rfl, h1, hm1⟩
  have H1 := Lib.hid (show MdAt w1 a (mkM T0 (some T0) 0) from h1)
  have Hm1 := Lib.hid hm1
  clear h1 hm1
  go_wp2_with fail
  have hd := do_m4 (mkM T0 (some T0) 0) a w1 H1.out T0 rfl (by simp [mkM]) rMake0 rfl (by constructor <;> decide) (fun h => by rw [rMake0_may] at h; cases h) (fun h => by rw [rMake0_may] at h; cases h)
  rw [rMake0_may, if_neg (by decide)] at hd
  refine hd.mono ?_
  rintro e w2 ⟨rfl, h2, hm2⟩
  have H2 := Lib.hid (show MdAt w2 a (mkM T0 (some T0) 0) from h2)
  have Hm2 := Lib.hid (Hm1.out.trans hm2)
  clear h2 hm2 hd
  go_wp2_with fail
  refine (abort_m _ a w2 H2.out).mono ?_
  rintro e w3 ⟨rfl, h3, hm3⟩
  have H3 := Lib.hid h3
  have Hm3 := Lib.hid (Hm2.out.trans hm3)
  clear h3 hm3
  go_wp2
  go_ret
  exact ⟨rfl, H3.out, Hm3.out⟩
theorem open_nil (id size : Int) (w : World) : Calls Try.prog 13 #[Value.nilIface, .int .i64 id, .int .i64 size] w fun e w' => e = .returned (.tuple #[.pointer none, .int .i64 1]) ∧ w = w' := by
  have q := nilEq82
  go_enter Try.func13, Try.ntmps13
  go_wp2
  go_ret2
  exact ⟨rfl, rfl⟩
theorem open_size (a : Nat) (id size : Int) (h : size < 64 ∨ 256 < size) (w : World) : Calls Try.prog 13 #[dv a, .int .i64 id, .int .i64 size] w fun e w' => e = .returned (.tuple #[.pointer none, .int .i64 1]) ∧ w = w' := by
  show Calls Try.prog 13 #[.iface 23 (.pointer (some ⟨a, 0, none⟩)), .int .i64 id, .int .i64 size] w _
  rcases h with h | h
  · go_enter Try.func13, Try.ntmps13
    go_wp2
    go_ret2
    exact ⟨rfl, rfl⟩
  · have h1 : 64 ≤ size := by omega
    go_enter Try.func13, Try.ntmps13
    go_wp2
    go_ret2
    exact ⟨rfl, rfl⟩
theorem open_gone (a : Nat) (T : Tree) (many : Int) (id size : Int) (hid : I64 id) (h1 : 64 ≤ size) (h2 : size ≤ 256) (hp : page? T id 0 = none) (w : World) (hM : MdAt w a (mkM T none many)) : Calls Try.prog 13 #[dv a, .int .i64 id, .int .i64 size] w fun e w' => e = .returned (.tuple #[.pointer none, .int .i64 181]) ∧ Below w.heap.size w w' := by
  have q1 := methGet a
  have hg := get_m _ a w hM id 0 hid (by constructor <;> omega)
  have e : page? (mkM T none many).see id 0 = none := hp
  rw [e] at hg
  have Hg := Lib.hid hg
  clear hg hM e hp
  show Calls Try.prog 13 #[.iface 23 (.pointer (some ⟨a, 0, none⟩)), .int .i64 id, .int .i64 size] w _
  go_enter Try.func13, Try.ntmps13
  go_wp2_with fail
  refine Hg.out.mono ?_
  rintro e w1 ⟨rfl, hB⟩
  have HB := Lib.hid hB
  clear hB
  have e1 : gotE none = 181 := rfl
  have e2 : gotS none = ⟨#[]⟩ := rfl
  rw [e1, e2]
  go_wp2
  go_ret2
  exact ⟨rfl, HB.out⟩
end Go.Proofs.Yteilmbhnbmmcjaa.B
