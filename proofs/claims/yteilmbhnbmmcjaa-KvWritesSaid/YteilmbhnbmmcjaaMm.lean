/- Helper: the plain device in memory: pages put; walked. No condition. -/
import Derived.Test.YteilmbhnbmmcjaaMl
namespace Go.Proofs.Yteilmbhnbmmcjaa.B
open Go.RowKit Go.Maps Go.Proofs.YteilmbhnbmmcjaaW.PrintWords
set_option maxRecDepth 100000
set_option maxHeartbeats 1600000
theorem call56 (b1 b2 b3 b4 : Nat) (W : World) (v : Value) : (callFunc 56 (#[v] ++ #[.pointer (some ⟨b1, 0, none⟩), .pointer (some ⟨b2, 0, none⟩), .pointer (some ⟨b3, 0, none⟩), .pointer (some ⟨b4, 0, none⟩)])).run Try.prog W = .ok (.enter 56 (#[v] ++ #[.pointer (some ⟨b1, 0, none⟩), .pointer (some ⟨b2, 0, none⟩), .pointer (some ⟨b3, 0, none⟩), .pointer (some ⟨b4, 0, none⟩)])) W := by kernel_rfl
def mPut (M : Md) (T : Tree) (id p : Int) (s : ByteArray) : Int × Md :=
  if M.size < s.size then (173, M) else if mayE T id ≠ 0 then (mayE T id, M) else mStep M (putT T id p s)
theorem put_m (M : Md) (a : Nat) (w : World) (h : MdAt w a M) (T : Tree) (hO : M.opn = some T) (hm : 0 ≤ M.many) (id p : Int) (hid : I64 id) (hp : I64 p) (s : ByteArray) (_hs : s.size < 4294967296) (hW : WfT (putT T id p s).2) (hx : (putT T id p s).1 = 0 → (total (putT T id p s).2 : Int) ≤ M.pl ∧ (total (putT T id p s).2 : Int) ≤ M.ks ∧ total (putT T id p s).2 < 100000) :
    Calls Try.prog 28 #[.pointer (some ⟨a, 0, none⟩), .int .i64 id, .int .i64 p, .string s] w fun e w' => e = .returned (.int .i64 (mPut M T id p s).1) ∧ MdAt w' a (mPut M T id p s).2 ∧ Mut (only a) w w' := by
  have hmd := h
  obtain ⟨np, oo, n, hb, ht, hw, ho, hn⟩ := h
  have hal := hb.lt
  have hq1 := eql92
  rw [hO] at ho
  obtain ⟨tp, rfl, h1, h2⟩ := ho
  obtain ⟨w1, hw1⟩ : ∃ w1, w1 = (((w.alloc (.cells #[.pointer (some ⟨a, 0, none⟩)] 23)).alloc (.cells #[.int .i64 id] 3)).alloc (.cells #[.int .i64 p] 3)).alloc (.cells #[.string s] 9) := ⟨_, rfl⟩
  have hB1 : Below w.heap.size w w1 := by rw [hw1]; exact ((((Below.refl _ _).alloc (Nat.le_refl _) _).alloc (by simp) _).alloc (by simp; omega) _).alloc (by simp; omega) _
  have hb1 := hb.below hB1
  have c1 : w1.cell? ⟨a, 1, none⟩ = some (.map (some tp)) := hb1.cell 1
  have c6 : w1.cell? ⟨a, 6, none⟩ = some (.int .i64 M.size) := hb1.cell 6
  have k1 : Blk w1 w.heap.size #[.pointer (some ⟨a, 0, none⟩)] 23 := by
    rw [hw1]
    exact (((Blk.new w _ 23).below ((Below.refl _ _).alloc (Nat.le_refl _) _)).below ((Below.refl _ _).alloc (Nat.le_refl _) _)).below ((Below.refl _ _).alloc (Nat.le_refl _) _)
  have k2 : Blk w1 (w.heap.size + 1) #[.int .i64 id] 3 := by
    rw [hw1]
    have := Blk.new (w.alloc (.cells #[.pointer (some ⟨a, 0, none⟩)] 23)) #[.int .i64 id] 3
    rw [show (w.alloc (.cells #[.pointer (some ⟨a, 0, none⟩)] 23)).heap.size = w.heap.size + 1 by simp] at this
    exact ((this).below ((Below.refl _ _).alloc (Nat.le_refl _) _)).below ((Below.refl _ _).alloc (Nat.le_refl _) _)
  have k3 : Blk w1 (w.heap.size + 2) #[.int .i64 p] 3 := by
    rw [hw1]
    have := Blk.new ((w.alloc (.cells #[.pointer (some ⟨a, 0, none⟩)] 23)).alloc (.cells #[.int .i64 id] 3)) #[.int .i64 p] 3
    rw [show ((w.alloc (.cells #[.pointer (some ⟨a, 0, none⟩)] 23)).alloc (.cells #[.int .i64 id] 3)).heap.size = w.heap.size + 2 by simp] at this
    exact (this).below ((Below.refl _ _).alloc (Nat.le_refl _) _)
  have k4 : Blk w1 (w.heap.size + 3) #[.string s] 9 := by
    rw [hw1]
    have := Blk.new (((w.alloc (.cells #[.pointer (some ⟨a, 0, none⟩)] 23)).alloc (.cells #[.int .i64 id] 3)).alloc (.cells #[.int .i64 p] 3)) #[.string s] 9
    rw [show (((w.alloc (.cells #[.pointer (some ⟨a, 0, none⟩)] 23)).alloc (.cells #[.int .i64 id] 3)).alloc (.cells #[.int .i64 p] 3)).heap.size = w.heap.size + 3 by simp] at this
    exact this
  have d1 : w1.cell? ⟨w.heap.size, 0, none⟩ = some (.pointer (some ⟨a, 0, none⟩)) := k1.cell 0
  have d2 : w1.cell? ⟨w.heap.size + 1, 0, none⟩ = some (.int .i64 id) := k2.cell 0
  have d3 : w1.cell? ⟨w.heap.size + 2, 0, none⟩ = some (.int .i64 p) := k3.cell 0
  have d4 : w1.cell? ⟨w.heap.size + 3, 0, none⟩ = some (.string s) := k4.cell 0
  have Hmd := Lib.hid (hmd.below hB1)
  have H1 := Lib.hid (h1.below hB1)
  have HB1 := Lib.hid hB1
  have K1 := Lib.hid k1
  have K2 := Lib.hid k2
  have K3 := Lib.hid k3
  have K4 := Lib.hid k4
  have Hw1 := Lib.hid hw1
  clear hmd hb ht h1 hB1 hb1 k1 k2 k3 k4 hw1
  go_enter Try.func28, Try.ntmps28
  go_upto_region 1 with fail
  rw [← Hw1.out]
  clear h2
  by_cases hsz : M.size < s.size
  · go_wp2
    go_quiet (fail)
    go_wp2
    go_ret
    have e : mPut M T id p s = (173, M) := by simp [mPut, hsz]
    rw [e]
    exact ⟨rfl, Hmd.out.below (below_drewN (Below.refl _ _) _), Mut.of_below (below_drewN HB1.out _)⟩
  · have hszd : decide (M.size < (s.size : Int)) = false := decide_eq_false hsz
    go_wp2
    go_quiet (fail)
    go_wp2
    obtain ⟨w2, hw2⟩ : ∃ w2, w2 = w1.drewN nq := ⟨_, rfl⟩
    rw [← hw2]
    have hB2 : Below w1.heap.size w1 w2 := by rw [hw2]; exact below_drewN (Below.refl _ _) _
    have q1 : w2.cell? ⟨w.heap.size, 0, none⟩ = some (.pointer (some ⟨a, 0, none⟩)) := (K1.out.below hB2).cell 0
    have q2 : w2.cell? ⟨w.heap.size + 1, 0, none⟩ = some (.int .i64 id) := (K2.out.below hB2).cell 0
    have q6 : w2.cell? ⟨a, 1, none⟩ = some (.map (some tp)) := by rw [hw2]; exact c1
    have K1 := Lib.hid (K1.out.below hB2)
    have K2 := Lib.hid (K2.out.below hB2)
    have K3 := Lib.hid (K3.out.below hB2)
    have K4 := Lib.hid (K4.out.below hB2)
    have H1 := Lib.hid (H1.out.below hB2)
    have Hmd := Lib.hid (Hmd.out.below hB2)
    have HB2 := Lib.hid (HB1.out.trans (hB2.mono HB1.out.size))
    have Hw2 := Lib.hid hw2
    clear hw2 hB2 c1 c6 d1 d2 d3 d4
    go_still_tail 5, (by kernel_rfl)
    go_wp2_with fail
    refine (may_any T 0 tp _ (H1.out.below (below_drewN (Below.refl _ _) 1)) id hid).mono ?_
    rintro e w3 ⟨rfl, hB3⟩
    have hB23 : Below w2.heap.size w2 w3 := (below_drewN (Below.refl w2.heap.size w2) 1).trans hB3
    have HB3 := Lib.hid (HB2.out.trans (hB23.mono HB2.out.size))
    have K1 := Lib.hid (K1.out.below hB23)
    have K2 := Lib.hid (K2.out.below hB23)
    have K3 := Lib.hid (K3.out.below hB23)
    have K4 := Lib.hid (K4.out.below hB23)
    have Hmd := Lib.hid (Hmd.out.below hB23)
    clear hB23 hB3 q2 q6
    have r1 : w3.cell? ⟨w.heap.size, 0, none⟩ = some (.pointer (some ⟨a, 0, none⟩)) := K1.out.cell 0
    by_cases hmay : mayE T id = 0
    · have hmb : (mayE T id != 0) = false := by simp [hmay]
      obtain ⟨sp, hsp⟩ : ∃ sp, T id = some sp := by
        cases hT : T id with
        | none => simp [mayE, hT] at hmay
        | some sp => exact ⟨sp, rfl⟩
      have HW := Lib.hid hW
      have HX := Lib.hid hx
      have Hsp := Lib.hid hsp
      have Hmay := Lib.hid hmay
      clear hW hx hsp hmay
      go_wp2_with fail
      refine (step_m M a w3 Hmd.out T hO hm 56 _ (putT T id p s) (fun h0 => ⟨HW.out, HX.out h0⟩) (call56 _ _ _ _) (fun wa hT hBa => ?_)).mono ?_
      · have hsz := HB3.out.size
        obtain ⟨np0, oo0, n0, hb0, _, _, ho0, hn0⟩ := Hmd.out.below hBa
        rw [hO] at ho0
        obtain ⟨_, _, _, hwT⟩ := ho0
        exact put1_any T hwT M np0 oo0 n0 hn0 a w3.heap.size w3.heap.size _ _ _ _ id p s hid hp wa (by omega) hBa.size hb0 hT sp Hsp.out (K3.out.below hBa) (K2.out.below hBa) (K1.out.below hBa) (K4.out.below hBa) HW.out
      · rintro e w4 ⟨rfl, hM2, hm2⟩
        have HM2 := Lib.hid hM2
        have Hm2 := Lib.hid hm2
        clear hM2 hm2
        go_wp2
        go_ret
        have e : mPut M T id p s = mStep M (putT T id p s) := by rw [mPut, if_neg (by omega), if_neg (by simp [Hmay.out])]
        rw [e]
        exact ⟨rfl, HM2.out, (Mut.of_below HB3.out).trans Hm2.out⟩
    · have hmb : (mayE T id != 0) = true := bne_iff_ne.2 hmay
      go_wp2
      go_ret
      have e : mPut M T id p s = (mayE T id, M) := by rw [mPut, if_neg (by omega), if_pos hmay]
      rw [e]
      exact ⟨rfl, Hmd.out, Mut.of_below HB3.out⟩
end Go.Proofs.Yteilmbhnbmmcjaa.B
