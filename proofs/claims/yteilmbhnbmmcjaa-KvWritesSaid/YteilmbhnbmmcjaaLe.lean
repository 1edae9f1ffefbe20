/- Helper: a logbook made; walked. No condition. -/
import Derived.Test.YteilmbhnbmmcjaaLd
namespace Go.Proofs.Yteilmbhnbmmcjaa.B
open Go.RowKit Go.Proofs.YteilmbhnbmmcjaaW.PrintWords Go.Proofs.Yteilmbhnbmmcjaa.Later
set_option maxRecDepth 100000
set_option maxHeartbeats 800000
theorem last_any (a g : Nat) (id size last : Int) (op : List UInt8) (page : Int) (w : World) (hg : Blk w g (bookC a id size last op page) 90) : Calls Try.prog 20 #[.pointer (some ⟨g, 0, none⟩)] w fun e w' => e = .returned (.int .i64 last) ∧ w = w' := by
  have c3 : w.cell? ⟨g, 3, none⟩ = some (.int .i64 last) := hg.cell 3
  go_enter Try.func20, Try.ntmps20
  go_wp2
  go_ret
  exact ⟨rfl, rfl⟩
theorem nilPut (a : Nat) (W : World) : (nilAhead 292 23 (.pointer (some ⟨a, 0, none⟩)) "Put").run Try.prog W = .ok (some false) W := by kernel_rfl
theorem nilGet (a : Nat) (W : World) : (nilAhead 292 23 (.pointer (some ⟨a, 0, none⟩)) "Get").run Try.prog W = .ok (some false) W := by kernel_rfl
def rMake : Rc := ⟨4, 4, 0, 0, 0, 7⟩
theorem rMake_may : rMake.may = true := by decide
theorem rMake_do : doT T0 rMake = (0, LT 4 7 noPages false) := by
  have : T0 rMake.s = none := rfl
  simp only [doT, this]
  rw [if_pos (show rMake.k = 4 from rfl)]
  exact congrArg (Prod.mk 0) (T0_up 4 7 noPages false)
theorem noPg : PgIn 7 noPages := fun _ _ h => by cases h
theorem make_ok (a : Nat) (w : World) (hM : MdAt w a (mkM T0 none 0)) : Calls Try.prog 12 #[dv a, .int .i64 4] w fun e w' => e = .returned (.int .i64 0) ∧ MdAt w' a (mkM (LT 4 7 (upP noPages 0 (some (bs (numL 0 ++ numL 1)))) false) none 2) ∧ Mut (only a) w w' := by
  have HM := Lib.hid hM
  clear hM
  have q1 := methBegin a
  have q2 := methPut a
  have q3 := methCommit a
  have q4 := methAbort a
  have q5 := methDo a
  have q6 := nilPut a
  show Calls Try.prog 12 #[.iface 23 (.pointer (some ⟨a, 0, none⟩)), .int .i64 4] w _
  go_enter Try.func12, Try.ntmps12
  go_wp2_with fail
  refine (begin_any _ a w HM.out).mono ?_
  rintro e w1 ⟨rfl, h1, hm1⟩
  have H1 := Lib.hid (show MdAt w1 a (mkM T0 (some T0) 0) from h1)
  have Hm1 := Lib.hid hm1
  clear h1 hm1
  go_wp2_with fail
  have hd := do_m4 (mkM T0 (some T0) 0) a w1 H1.out T0 rfl (by simp [mkM]) rMake rfl (by constructor <;> decide) (fun _ => by rw [rMake_do]; exact LT_wf (by omega) (by omega) (by omega) (by omega) noPg false) (fun _ _ => by rw [rMake_do, LT_total (by omega) (by omega)]; refine ⟨?_, ?_, by decide⟩ <;> simp [mkM])
  rw [rMake_may, if_pos rfl, rMake_do] at hd
  refine hd.mono ?_
  rintro e w2 ⟨rfl, h2, hm2⟩
  have H2 := Lib.hid (show MdAt w2 a (mkM T0 (some (LT 4 7 noPages false)) 1) from h2)
  have Hm2 := Lib.hid (Hm1.out.trans hm2)
  clear h2 hm2 hd
  have es : (mStep (mkM T0 (some T0) 0) (0, LT 4 7 noPages false)).1 = 0 := rfl
  rw [es]
  have hn0 : ∀ W : World, Calls Try.prog 38 #[.int .u64 0] W fun e w' => e = .returned (.string (bs (numL 0))) ∧ Below W.heap.size W w' := fun W => num_any 0 (by omega) W
  have hn1 : ∀ W : World, Calls Try.prog 38 #[.int .u64 1] W fun e w' => e = .returned (.string (bs (numL 1))) ∧ Below W.heap.size W w' := fun W => num_any 1 (by omega) W
  have l0 := numL_len (n := 0) (by omega)
  have l1 := numL_len (n := 1) (by omega)
  have s0 := bs_size (numL 0)
  have s1 := bs_size (numL 1)
  go_wp2
  have hsz : (bs (numL 0) ++ bs (numL 1)).size ≤ 64 := by rw [bs_app, bs_size]; simp; omega
  refine wp_region_later_tail 8 (by kernel_rfl) (by kernel_rfl) ?_
  simp only [List.take_succ_cons, List.take_zero, List.drop_succ_cons, List.drop_zero]
  have r1 := calls_later (P := Try.prog) (f := 38) (w := w2) (v := .string (bs (numL 0))) (fun w2 _ => hn0 w2)
  have r2 := calls_later (P := Try.prog) (f := 38) (w := w2) (v := .string (bs (numL 1))) (fun w2 _ => hn1 w2)
  repeat go_big_quiet_step (fail)
  go_big_quiet_step (with_reducible exact r1 _)
  repeat go_big_quiet_step (fail)
  go_big_quiet_step (with_reducible exact r2 _)
  repeat go_big_quiet_step (fail)
  refine wpQuiet_nil ?_
  intro wl hwl
  have hbl := later_of hwl
  clear hwl r1 r2
  go_wp2_with fail
  refine (dput_ok ⟨by omega, by omega, by omega, by omega⟩ T0 noPages noPg 1 (by omega) (by omega) 0 (by omega) (by omega) (bs (numL 0) ++ bs (numL 1)) hsz a wl (H2.out.below hbl)).mono ?_
  rintro e w3 ⟨rfl, h3, hm3⟩
  have hm23 : Mut (only a) w2 w3 := (Mut.of_below hbl).trans hm3
  have H3 := Lib.hid h3
  have Hm3 := Lib.hid (Hm2.out.trans hm23)
  clear h3 hm3 hm23
  go_wp2_with fail
  refine (commit_m _ a w3 H3.out).mono ?_
  rintro e w4 ⟨rfl, h4, hm4⟩
  have H4 := Lib.hid h4
  have Hm4 := Lib.hid (Hm3.out.trans hm4)
  clear h4 hm4
  go_wp2
  go_ret
  refine ⟨rfl, ?_, Hm4.out⟩
  have := H4.out
  rw [bs_app] at this
  exact this
end Go.Proofs.Yteilmbhnbmmcjaa.B
