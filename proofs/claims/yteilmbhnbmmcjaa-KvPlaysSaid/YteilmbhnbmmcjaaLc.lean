/- Helper: a logbook made, and written; walked. No condition. -/
import Derived.Test.YteilmbhnbmmcjaaLb
import Derived.Test.YteilmbhnbmmcjaaLaterTail
namespace Go.Proofs.Yteilmbhnbmmcjaa.B
open Go.RowKit Go.Proofs.YteilmbhnbmmcjaaW.PrintWords Go.Proofs.Yteilmbhnbmmcjaa.Later
set_option maxRecDepth 100000
set_option maxHeartbeats 800000
def dv (a : Nat) : Value := .iface 23 (.pointer (some ⟨a, 0, none⟩))
def bookC (a : Nat) (id size last : Int) (op : List UInt8) (page : Int) : Array Value := #[dv a, .int .i64 id, .int .i64 size, .int .i64 last, .string (bs op), .int .i64 page]
theorem methBegin (a : Nat) (W : World) : (method 292 23 (.pointer (some ⟨a, 0, none⟩)) "Begin").run Try.prog W = .ok (15, .pointer (some ⟨a, 0, none⟩)) W := by kernel_rfl
theorem methDo (a : Nat) (W : World) : (method 292 23 (.pointer (some ⟨a, 0, none⟩)) "Do").run Try.prog W = .ok (16, .pointer (some ⟨a, 0, none⟩)) W := by kernel_rfl
theorem methPut (a : Nat) (W : World) : (method 292 23 (.pointer (some ⟨a, 0, none⟩)) "Put").run Try.prog W = .ok (28, .pointer (some ⟨a, 0, none⟩)) W := by kernel_rfl
theorem methCommit (a : Nat) (W : World) : (method 292 23 (.pointer (some ⟨a, 0, none⟩)) "Commit").run Try.prog W = .ok (17, .pointer (some ⟨a, 0, none⟩)) W := by kernel_rfl
theorem methAbort (a : Nat) (W : World) : (method 292 23 (.pointer (some ⟨a, 0, none⟩)) "Abort").run Try.prog W = .ok (127, .pointer (some ⟨a, 0, none⟩)) W := by kernel_rfl
theorem methGet (a : Nat) (W : World) : (method 292 23 (.pointer (some ⟨a, 0, none⟩)) "Get").run Try.prog W = .ok (128, .pointer (some ⟨a, 0, none⟩)) W := by kernel_rfl
theorem write_ok (pg : Int → Option ByteArray) (hpg : PgIn 7 pg) (m0 : Int) (a g : Nat) (size last op page) (p : Nat) (hp : 1 ≤ p ∧ p ≤ 6) (s : List UInt8) (hs : s.length ≤ 64) (l : Nat) (hl : l ≤ 1073741824) (w : World) (hM : MdAt w a (mkM (LT 4 7 pg false) none m0)) (hg : Blk w g (bookC a 4 size last op page) 90) :
    Calls Try.prog 50 #[.pointer (some ⟨g, 0, none⟩), .int .i64 p, .string (bs s), .int .i64 l] w fun e w' => e = .returned (.int .i64 0) ∧ MdAt w' a (mkM (LT 4 7 (upP (upP pg p (some (bs s))) 0 (some (bs (numL l ++ numL p)))) false) none 2) ∧ Mut (only a) w w' := by
  have c0 : w.cell? ⟨g, 0, none⟩ = some (.iface 23 (.pointer (some ⟨a, 0, none⟩))) := hg.cell 0
  have c1 : w.cell? ⟨g, 1, none⟩ = some (.int .i64 4) := hg.cell 1
  have HM := Lib.hid hM
  have Hg := Lib.hid hg
  have hga : g ≠ a := by
    obtain ⟨np, oo, n, hb, _⟩ := hM
    rintro rfl
    rw [Blk] at hb hg
    rw [hb] at hg
    simp [mdCells, bookC] at hg
  clear hM hg
  have q1 := methBegin a
  have q2 := methPut a
  have q3 := methCommit a
  have q4 := methAbort a
  go_enter Try.func50, Try.ntmps50
  go_wp2_with fail
  refine (begin_any _ a w HM.out).mono ?_
  rintro e w1 ⟨rfl, h1, hm1⟩
  have H1 := Lib.hid (show MdAt w1 a (mkM (LT 4 7 pg false) (some (LT 4 7 pg false)) 0) from h1)
  have Hm1 := Lib.hid hm1
  have Hg1 := Lib.hid (Hg.out.kept hm1 hga)
  have d0 : w1.cell? ⟨g, 0, none⟩ = some (.iface 23 (.pointer (some ⟨a, 0, none⟩))) := Hg1.out.cell 0
  have d1 : w1.cell? ⟨g, 1, none⟩ = some (.int .i64 4) := Hg1.out.cell 1
  clear h1 hm1 c0 c1
  go_wp2
  go_still_tail 12, (by kernel_rfl)
  go_wp2_with fail
  refine (dput_ok ⟨by omega, by omega, by omega, by omega⟩ (LT 4 7 pg false) pg hpg 0 (by omega) (by omega) (p : Int) (by omega) (by omega) (bs s) (by rw [bs_size]; exact hs) a _ (H1.out.below (below_drewN (Below.refl _ _) 1))).mono ?_
  rintro e w2 ⟨rfl, h2, hm2⟩
  have hm12 : Mut (only a) w1 w2 := ((Mut.refl _ w1).drew 1).trans hm2
  have H2 := Lib.hid h2
  have Hm2 := Lib.hid (Hm1.out.trans hm12)
  have Hg2 := Lib.hid (Hg1.out.kept hm12 hga)
  have e0 : w2.cell? ⟨g, 0, none⟩ = some (.iface 23 (.pointer (some ⟨a, 0, none⟩))) := Hg2.out.cell 0
  have e1 : w2.cell? ⟨g, 1, none⟩ = some (.int .i64 4) := Hg2.out.cell 1
  clear h2 hm2 hm12 d0 d1
  go_wp2
  have lL := numL_len (n := l) (by omega)
  have lP := numL_len (n := p) (by omega)
  have hsz : (bs (numL l) ++ bs (numL p)).size ≤ 64 := by rw [bs_app, bs_size]; simp; omega
  have sL := bs_size (numL l)
  have sP := bs_size (numL p)
  have k0 := fun n => later_cell e0 n
  have k1 := fun n => later_cell e1 n
  refine wp_region_later_tail 17 (by kernel_rfl) (by kernel_rfl) ?_
  simp only [List.take_succ_cons, List.take_zero, List.drop_succ_cons, List.drop_zero]
  have r1 := calls_later (P := Try.prog) (f := 38) (w := w2) (v := .string (bs (numL l))) (fun w2 _ => num_any l (by omega) w2)
  have r2 := calls_later (P := Try.prog) (f := 38) (w := w2) (v := .string (bs (numL p))) (fun w2 _ => num_any p (by omega) w2)
  repeat go_big_quiet_step (fail)
  go_big_quiet_step (with_reducible exact r1 _)
  repeat go_big_quiet_step (fail)
  go_big_quiet_step (with_reducible exact r2 _)
  repeat go_big_quiet_step (fail)
  refine wpQuiet_nil ?_
  intro wl hwl
  have hbl := later_of hwl
  clear hwl r1 r2 k0 k1
  go_wp2_with fail
  refine (dput_ok ⟨by omega, by omega, by omega, by omega⟩ (LT 4 7 pg false) _ (hpg.up (p := (p : Int)) (by omega) (by omega) (bs s)) 1 (by omega) (by omega) 0 (by omega) (by omega) (bs (numL l) ++ bs (numL p)) hsz a wl (H2.out.below hbl)).mono ?_
  rintro e w3 ⟨rfl, h3, hm3⟩
  have hm23 : Mut (only a) w2 w3 := (Mut.of_below hbl).trans hm3
  have H3 := Lib.hid h3
  have Hm3 := Lib.hid (Hm2.out.trans hm23)
  have Hg3 := Lib.hid (Hg2.out.kept hm23 hga)
  have f0 : w3.cell? ⟨g, 0, none⟩ = some (.iface 23 (.pointer (some ⟨a, 0, none⟩))) := Hg3.out.cell 0
  clear h3 hm3 hm23 e0 e1
  go_wp2_with fail
  refine (commit_m _ a w3 H3.out).mono ?_
  rintro e w4 ⟨rfl, h4, hm4⟩
  have H4 := Lib.hid h4
  have Hm4 := Lib.hid (Hm3.out.trans hm4)
  clear h4 hm4
  go_wp2
  go_ret
  refine ⟨rfl, ?_, Hm4.out⟩
  have := H4.out
  rw [bs_app] at this
  exact this
end Go.Proofs.Yteilmbhnbmmcjaa.B
