/- Helper: a logbook opened; walked. No condition. -/
import Derived.Test.YteilmbhnbmmcjaaLg
namespace Go.Proofs.Yteilmbhnbmmcjaa.B
open Go.RowKit Go.Proofs.YteilmbhnbmmcjaaW.PrintWords Go.Proofs.Yteilmbhnbmmcjaa.Later
set_option maxRecDepth 100000
set_option maxHeartbeats 800000
theorem Below.freeOld {w w' : World} (h : Below w.heap.size w w') {a : Addr} {v : Value} (hc : w.cell? a = some v) (hf : w.frozen? a = false) : w'.frozen? a = false := by
  rw [h.frozen (World.block_lt_of_cell? w a hc)]; exact hf
theorem nilEqD (a : Nat) (W : World) : (binOp .eql 82 (dv a) Value.nilIface).run Try.prog W = .ok (.bool false) W := by kernel_rfl
theorem gotE_of (o : Option ByteArray) : gotE o = 0 ∨ gotE o = 181 := by cases o <;> simp [gotE]
theorem open_ok (a : Nat) (T : Tree) (many : Int) (last page : Nat) (hl : last ≤ 1073741824) (hp0 : 1 ≤ page) (hp : page ≤ 6) (o : Option ByteArray) (h0 : page? T 4 0 = some (bs (numL last ++ numL page))) (h1 : page? T 4 page = o) (w : World) (hM : MdAt w a (mkM T none many)) :
    Calls Try.prog 13 #[dv a, .int .i64 4, .int .i64 64] w fun e w' => ∃ g, e = .returned (.tuple #[.pointer (some ⟨g, 0, none⟩), .int .i64 0]) ∧ w.heap.size ≤ g ∧ Blk w' g #[dv a, .int .i64 4, .int .i64 64, .int .i64 last, .string (gotS o), .int .i64 page] 90 ∧ Below w.heap.size w w' := by
  have q1 := methGet a
  have q2 := nilEqD a
  have q3 := nilGet a
  have hg := get_m _ a w hM 4 0 (by constructor <;> omega) (by constructor <;> omega)
  have e : page? (mkM T none many).see 4 0 = some (bs (numL last ++ numL page)) := h0
  rw [e] at hg
  have Hg := Lib.hid hg
  have HM := Lib.hid hM
  have H1 := Lib.hid (show page? (mkM T none many).see 4 page = o from h1)
  clear hg e h0 h1 hM
  show Calls Try.prog 13 #[.iface 23 (.pointer (some ⟨a, 0, none⟩)), .int .i64 4, .int .i64 64] w _
  go_enter Try.func13, Try.ntmps13
  go_wp2_with fail
  refine Hg.out.mono ?_
  rintro e w1 ⟨rfl, hB1⟩
  have HB1 := Lib.hid hB1
  clear hB1
  have e1 : gotE (some (bs (numL last ++ numL page))) = 0 := rfl
  have e2 : gotS (some (bs (numL last ++ numL page))) = bs (numL last ++ numL page) := rfl
  rw [e1, e2]
  clear e1 e2
  have n1 := num_numL last 1073741824 (numL page) hl (by omega)
  have n2 := num_numL page 6 [] hp (by omega)
  rw [List.append_nil] at n2
  obtain ⟨L, hL⟩ : ∃ L, L = numL last ++ numL page := ⟨_, rfl⟩
  rw [← hL] at n1 ⊢
  have N1 := Lib.hid n1
  have N2 := Lib.hid n2
  clear n1 n2 hL
  go_wp2_with fail
  refine (new_any L w1).mono ?_
  rintro e w2 ⟨rfl, hr2, hB2⟩
  have HB2 := Lib.hid (HB1.out.trans (hB2.mono HB1.out.size))
  have hsz := HB1.out.size
  have k1 := rnum_any ⟨L, 0⟩ 1073741824 (by omega) w1.heap.size w2 hr2
  rw [N1.out] at k1
  have K1 := Lib.hid k1
  clear k1 hB2 hr2
  go_wp2_with fail
  refine K1.out.mono ?_
  rintro e w3 ⟨rfl, hr3, hm3⟩
  have HB3 := Lib.hid (Below.mut HB2.out hm3 HB2.out.size hsz)
  have k2 := rnum_any _ 6 (by omega) w1.heap.size w3 hr3
  rw [N2.out] at k2
  have K2 := Lib.hid k2
  clear k2 K1 hr3 hm3
  go_wp2_with fail
  refine K2.out.mono ?_
  rintro e w4 ⟨rfl, hr4, hm4⟩
  have HB4 := Lib.hid (Below.mut HB3.out hm4 HB3.out.size hsz)
  have Hr4 := Lib.hid hr4
  clear K2 hr4 hm4
  go_wp2_with fail
  obtain ⟨w5, hw5⟩ : ∃ w5, w5 = w4.alloc (.cells #[.iface 23 (.pointer (some ⟨a, 0, none⟩)), .int .i64 4, .int .i64 64, .int .i64 last, .string ⟨#[]⟩, .int .i64 page] 90) := ⟨_, rfl⟩
  rw [← hw5]
  have hb45 : Below w4.heap.size w4 w5 := by rw [hw5]; exact (Below.refl _ _).alloc (Nat.le_refl _) _
  have hbk : Blk w5 w4.heap.size #[.iface 23 (.pointer (some ⟨a, 0, none⟩)), .int .i64 4, .int .i64 64, .int .i64 last, .string ⟨#[]⟩, .int .i64 page] 90 := by rw [hw5]; exact Blk.new w4 _ 90
  have HB5 := Lib.hid (HB4.out.trans (hb45.mono HB4.out.size))
  have Hr5 := Lib.hid (Blk.below Hr4.out hb45)
  have hge := HB4.out.size
  have c5 : w5.cell? ⟨w4.heap.size, 5, none⟩ = some (.int .i64 page) := hbk.cell 5
  have f4 : w5.frozen? ⟨w4.heap.size, 4, none⟩ = false := hbk.free 4
  have Hbk := Lib.hid hbk
  clear hbk hb45 hw5 HB4 Hr4
  have hend : (Rdr.mk [] 0).end = 0 := by simp [Rdr.end]
  have k3 := end_any ⟨[], 0⟩ w1.heap.size w5 Hr5.out
  rw [hend] at k3
  refine k3.mono ?_
  rintro e w6 ⟨rfl, rfl⟩
  clear k3 hend
  go_wp2
  have c4 : w5.cell? ⟨w4.heap.size, 4, none⟩ = some (.string ⟨#[]⟩) := Hbk.out.cell 4
  go_region_held3 (fun w' => w'.cell? ⟨w4.heap.size, 5, none⟩ = some (.int .i64 page)) (first | go_keep | (refine Below.cellOld hbA ?_; simp [*]; done) | (exact (World.cell?_setCell_other _ _ _ _ (fun e => by simp at e)).trans c5A)) (first | (go_at_call 128; refine (get_m _ a _ ((HM.out.below HB5.out).below (below_drewN (Below.refl _ _) 1)) 4 page (by constructor <;> omega) (by constructor <;> omega)).mono ?_; rintro e wA ⟨rfl, hbA⟩; have c4A : wA.cell? ⟨w4.heap.size, 4, none⟩ = some (.string ⟨#[]⟩) := Below.cellOld hbA c4; have c5A : wA.cell? ⟨w4.heap.size, 5, none⟩ = some (.int .i64 page) := Below.cellOld hbA c5; have f4A : wA.frozen? ⟨w4.heap.size, 4, none⟩ = false := Below.freeOld hbA c4 f4))
  rw [H1.out]
  have hlt := Blk.lt Hbk.out
  have hbk2 := (Blk.below Hbk.out ((below_drewN (Below.refl _ _) 1).trans hbA)).set 4 (.string (gotS o))
  have hB2 := (HB5.out.trans (((below_drewN (Below.refl w5.heap.size w5) 1).trans hbA).mono HB5.out.size)).setCell (p := ⟨w4.heap.size, 4, none⟩) hge (.string (gotS o))
  have Hbk2 := Lib.hid hbk2
  have HB2 := Lib.hid hB2
  clear hbk2 hB2 hbA
  cases o with
  | none =>
    have e1 : gotE none = 181 := rfl
    rw [e1]
    go_wp2
    go_ret2
    exact ⟨_, rfl, hge, Hbk2.out, HB2.out⟩
  | some t =>
    have e1 : gotE (some t) = 0 := rfl
    rw [e1]
    go_wp2
    go_ret2
    exact ⟨_, rfl, hge, Hbk2.out, HB2.out⟩
end Go.Proofs.Yteilmbhnbmmcjaa.B
