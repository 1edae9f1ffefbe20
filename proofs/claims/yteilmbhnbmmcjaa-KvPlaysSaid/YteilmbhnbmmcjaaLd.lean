/- Helper: a logbook whose space is sealed is not written; walked. No condition. -/
import Derived.Test.YteilmbhnbmmcjaaLc
namespace Go.Proofs.Yteilmbhnbmmcjaa.B
open Go.RowKit Go.Proofs.YteilmbhnbmmcjaaW.PrintWords Go.Proofs.Yteilmbhnbmmcjaa.Later
set_option maxRecDepth 100000
set_option maxHeartbeats 800000
theorem write_sealed (pg : Int → Option ByteArray) (hpg : PgIn 7 pg) (m0 : Int) (a g : Nat) (size last op page) (p : Nat) (hp : 1 ≤ p ∧ p ≤ 6) (s : List UInt8) (hs : s.length ≤ 64) (l : Nat) (w : World) (hM : MdAt w a (mkM (LT 4 7 pg true) none m0)) (hg : Blk w g (bookC a 4 size last op page) 90) :
    Calls Try.prog 50 #[.pointer (some ⟨g, 0, none⟩), .int .i64 p, .string (bs s), .int .i64 l] w fun e w' => e = .returned (.int .i64 170) ∧ MdAt w' a (mkM (LT 4 7 pg true) none 0) ∧ Mut (only a) w w' := by
  have c0 : w.cell? ⟨g, 0, none⟩ = some (.iface 23 (.pointer (some ⟨a, 0, none⟩))) := hg.cell 0
  have c1 : w.cell? ⟨g, 1, none⟩ = some (.int .i64 4) := hg.cell 1
  have HM := Lib.hid hM
  have Hg := Lib.hid hg
  have hga : g ≠ a := by
    obtain ⟨np, oo, n, hb, _⟩ := hM
    rintro rfl
    rw [Blk] at hb hg
    rw [hb] at hg
    simp [mdCells, bookC] at hg
  clear hM hg
  have q1 := methBegin a
  have q2 := methPut a
  have q4 := methAbort a
  go_enter Try.func50, Try.ntmps50
  go_wp2_with fail
  refine (begin_any _ a w HM.out).mono ?_
  rintro e w1 ⟨rfl, h1, hm1⟩
  have H1 := Lib.hid (show MdAt w1 a (mkM (LT 4 7 pg true) (some (LT 4 7 pg true)) 0) from h1)
  have Hm1 := Lib.hid hm1
  have Hg1 := Lib.hid (Hg.out.kept hm1 hga)
  have d0 : w1.cell? ⟨g, 0, none⟩ = some (.iface 23 (.pointer (some ⟨a, 0, none⟩))) := Hg1.out.cell 0
  have d1 : w1.cell? ⟨g, 1, none⟩ = some (.int .i64 4) := Hg1.out.cell 1
  clear h1 hm1 c0 c1
  go_wp2
  go_still_tail 12, (by kernel_rfl)
  go_wp2_with fail
  refine (dput_sealed ⟨by omega, by omega, by omega, by omega⟩ (LT 4 7 pg true) pg hpg 0 (by omega) (p : Int) (by omega) (by omega) (bs s) (by rw [bs_size]; exact hs) a _ (H1.out.below (below_drewN (Below.refl _ _) 1))).mono ?_
  rintro e w2 ⟨rfl, h2, hm2⟩
  have hm12 : Mut (only a) w1 w2 := ((Mut.refl _ w1).drew 1).trans hm2
  have H2 := Lib.hid h2
  have Hm2 := Lib.hid (Hm1.out.trans hm12)
  have Hg2 := Lib.hid (Hg1.out.kept hm12 hga)
  have e0 : w2.cell? ⟨g, 0, none⟩ = some (.iface 23 (.pointer (some ⟨a, 0, none⟩))) := Hg2.out.cell 0
  clear h2 hm2 hm12 d0 d1
  go_wp2_with fail
  refine (abort_m _ a w2 H2.out).mono ?_
  rintro e w3 ⟨rfl, h3, hm3⟩
  have H3 := Lib.hid h3
  have Hm3 := Lib.hid (Hm2.out.trans hm3)
  clear h3 hm3
  go_wp2
  go_ret
  exact ⟨rfl, H3.out, Hm3.out⟩
end Go.Proofs.Yteilmbhnbmmcjaa.B
