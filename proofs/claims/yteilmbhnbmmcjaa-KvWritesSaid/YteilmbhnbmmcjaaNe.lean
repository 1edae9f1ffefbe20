/- Helper: does each page hold its keys, as the statement reckons it; walked. No condition. -/
import Derived.Test.YteilmbhnbmmcjaaNc
namespace Go.Proofs.Yteilmbhnbmmcjaa.B
open Go.RowKit Go.Proofs.YteilmbhnbmmcjaaW.PrintWords Go.Proofs.Yteilmbhnbmmcjaa.Later
set_option maxRecDepth 100000
set_option maxHeartbeats 3200000
def byt (x : Pr) : Nat := 2 + x.k.length + 1 + x.v.length + (if 0 < x.v.length then 1 else 0)
def bsum (l : List Pr) (k : Nat) : Nat := ((fl k l).map byt).sum
theorem bsum_nil (k : Nat) : bsum [] k = 0 := rfl
theorem bsum_snoc (l : List Pr) (x : Pr) (k : Nat) : bsum (l ++ [x]) k = if bucket x.k = k then bsum l k + byt x else bsum l k := by
  unfold bsum fl
  by_cases h : bucket x.k = k
  · simp [h]
  · simp [h]
theorem numL_len1 {n : Nat} (h0 : 0 < n) (h : n < 256) : (numL n).length = 2 := by
  rw [numL, leL_pos h0, show n / 256 = 0 by omega, leL_zero]; rfl
theorem byt_len {x : Pr} (h : goodK x.k x.v = true) : x.bytes.length = byt x := by
  obtain ⟨h1, h2, h3⟩ := (goodK_iff _ _).1 h
  have h0 : 0 < x.k.length := List.length_pos_iff.2 h1
  unfold Pr.bytes textL byt
  rw [List.length_append, List.length_append, List.length_append, numL_len1 h0 (by omega)]
  by_cases hv : 0 < x.v.length
  · rw [numL_len1 hv (by omega), if_pos hv]; omega
  · rw [show x.v.length = 0 by omega, numL, leL_zero]; rfl
theorem bsum_len {m : List Pr} (h : AllGood m) (k : Nat) : bsum m k = (prsB (fl k m)).length := by
  unfold bsum prsB
  rw [List.length_flatMap]
  congr 1
  apply List.map_congr_left
  intro x hx
  exact (byt_len (h x ((mem_fl k m x).1 hx).1)).symm
theorem byt_le {x : Pr} (h : goodK x.k x.v = true) : byt x ≤ 50 := by
  obtain ⟨h1, h2, h3⟩ := (goodK_iff _ _).1 h
  unfold byt
  split <;> omega
theorem bsum_le {m : List Pr} (h : AllGood m) (k : Nat) : bsum m k ≤ 50 * m.length := by
  unfold bsum
  have h1 : (fl k m).length ≤ m.length := List.length_filter_le _ _
  have h2 : ∀ (l : List Pr), (∀ x ∈ l, byt x ≤ 50) → (l.map byt).sum ≤ 50 * l.length := fun l => by
    induction l with
    | nil => intro _; simp
    | cons a t ih =>
      intro hl
      have := ih (fun x hx => hl x (by simp [hx]))
      have := hl a (by simp)
      simp only [List.map_cons, List.sum_cons, List.length_cons]
      omega
  have := h2 (fl k m) (fun x hx => byt_le (h x ((mem_fl k m x).1 hx).1))
  omega
theorem fin_arr : Value.agg #[.int .i64 0, .int .i64 0, .int .i64 0, .int .i64 0] = Value.agg (arr (fun k => .int .i64 (bsum [] k))) := rfl
/-- Do all pages hold their keys? -/
def fitsB (l : List Pr) : Bool := decide (bsum l 0 ≤ 64) && decide (bsum l 1 ≤ 64) && decide (bsum l 2 ≤ 64) && decide (bsum l 3 ≤ 64)
def FitRel (l : List Pr) (B : Nat) (w : World) (c : Value) (wr : World) : Prop :=
  ∃ i : Nat, i ≤ l.length ∧ c = .int .i64 i ∧ Blk wr B (arr (fun k => .int .i64 (bsum (l.take i) k : Nat))) 123 ∧ Below w.heap.size w wr
theorem lfits_any (l : List Pr) (hn : l.length ≤ 10000) (hg : AllGood l) (A : Option Addr) (c : Nat) (w : World) (hC : Kd.C prK w A l.length l) :
    Calls Try.prog 34 #[.slice A l.length c] w fun e w' => e = .returned (.bool (fitsB l)) ∧ Below w.heap.size w w' := by
  have HC := Lib.hid hC
  have Hg := Lib.hid hg
  obtain ⟨F, hF⟩ : ∃ F, F = fitsB l := ⟨_, rfl⟩
  rw [← hF]
  have HF0 := Lib.hid hF
  clear hC hg hF
  go_enter Try.func34, Try.ntmps34
  go_upto_region 2 with fail
  obtain ⟨w1, hw1⟩ : ∃ w1, w1 = w.alloc (.cells #[.int .i64 0, .int .i64 0, .int .i64 0, .int .i64 0] 123) := ⟨_, rfl⟩
  rw [← hw1]
  have hb1 : Below w.heap.size w w1 := by rw [hw1]; exact (Below.refl _ _).alloc (Nat.le_refl _) _
  have hk1 : Blk w1 w.heap.size (arr (fun k => .int .i64 (bsum (l.take 0) k : Nat))) 123 := by rw [hw1]; exact Blk.new w _ 123
  obtain ⟨B, hB⟩ : ∃ B, B = w.heap.size := ⟨_, rfl⟩
  rw [← hB] at hk1 ⊢
  have HBB := Lib.hid hB
  have Hk1 := Lib.hid hk1
  have Hb1 := Lib.hid hb1
  clear hw1 hb1 hk1 hB
  go_wp2
  go_loopw [4] (fun c wr => FitRel l B w c wr) (fun c _ => l.length - (intOf c).toNat)
  case atStart => exact ⟨0, by omega, rfl, Hk1.out, Hb1.out⟩
  case round =>
    obtain ⟨i, hi, rfl, hk, hB⟩ := hrel
    have HK := Lib.hid hk
    have HB := Lib.hid hB
    clear hk hB Hk1 Hb1
    by_cases hlt : i < l.length
    · obtain ⟨ad, e, d0, d1⟩ := at_pr (Kd.C_below HC.out HB.out) (i : Int) (by omega) (by omega)
      cases e
      rw [Int.toNat_natCast] at d0 d1
      obtain ⟨x, hx⟩ : ∃ x, x = prA l i := ⟨_, rfl⟩
      rw [← hx] at d0 d1
      have hgx : goodK x.k x.v = true := by rw [hx, prA_get l i hlt]; exact Hg.out _ (List.getElem_mem _)
      obtain ⟨_, g2, g3⟩ := (goodK_iff _ _).1 hgx
      have hts : l.take (i + 1) = l.take i ++ [x] := by rw [hx, prA_get l i hlt, List.take_succ_eq_append_getElem hlt]
      have hsm := bsum_le (m := l.take i) (fun y hy => Hg.out y (List.mem_of_mem_take hy))
      have hlt1 : (l.take i).length = i := by rw [List.length_take]; omega
      have hbl := bucket_lt x.k
      have hsn := fun k => bsum_snoc (l.take i) x k
      rw [← hts] at hsn
      obtain ⟨N, hN⟩ : ∃ N, N = (crc x.k).toNat := ⟨_, rfl⟩
      have hbk : bucket x.k = N % 4 := by rw [hN]; rfl
      have hN32 : N < 4294967296 := by rw [hN]; exact (crc x.k).isLt
      have hrs := fun W => refsum_any x.k (by omega) W
      obtain ⟨q, hq⟩ : ∃ q, q = bucket x.k := ⟨_, rfl⟩
      have hNq : ((N : Int) % 4) = (q : Int) := by rw [hq, hbk]; omega
      rw [← hq] at hbl hsn
      obtain ⟨S, hS⟩ : ∃ S, S = bsum (l.take i) q := ⟨_, rfl⟩
      have hS2 : S ≤ 500000 := by rw [hS]; have := hsm q; omega
      have c0 : wr.cell? ⟨B, q, none⟩ = some (.int .i64 (S : Int)) := by rw [hS]; exact (HK.out.cell q).trans (arr_get _ hbl)
      have hby : byt x = 2 + x.k.length + 1 + x.v.length + (if 0 < x.v.length then 1 else 0) := rfl
      obtain ⟨y, hy⟩ : ∃ y, y = byt x := ⟨_, rfl⟩
      rw [← hy] at hby hsn
      obtain ⟨T, hT⟩ : ∃ T, T = S + y := ⟨_, rfl⟩
      have hnext : (fun k => Value.int .i64 ((bsum (l.take (i + 1)) k : Nat) : Int)) = upN (fun k => .int .i64 ((bsum (l.take i) k : Nat) : Int)) q (.int .i64 (T : Int)) := by
        funext k
        simp only [upN]
        by_cases e : k = q
        · rw [if_pos e, e, hsn, if_pos rfl, hT, hS]
        · rw [if_neg e, hsn, if_neg (fun h => e h.symm)]
      obtain ⟨KL, hKL⟩ : ∃ n, n = x.k.length := ⟨_, rfl⟩
      obtain ⟨VL, hVL⟩ : ∃ n, n = x.v.length := ⟨_, rfl⟩
      have z0 := bs_size x.k
      have z1 := bs_size x.v
      rw [← hKL] at z0 g2 hby
      rw [← hVL] at z1 g3 hby
      have hrs' : ∀ W, Calls Try.prog 25 #[.string (bs x.k)] W fun e w' => e = .returned (.int .u32 (N : Int)) ∧ W = w' := fun W => by rw [hN]; exact hrs W
      obtain ⟨K1, hK1⟩ : ∃ s, s = bs x.k := ⟨_, rfl⟩
      obtain ⟨V1, hV1⟩ : ∃ s, s = bs x.v := ⟨_, rfl⟩
      rw [← hK1] at d0 z0 hrs'
      rw [← hV1] at d1 z1
      have Hnx := Lib.hid hnext
      have Hrs := Lib.hid hrs'
      have k0 := fun n => later_cell d0 n
      have k1 := fun n => later_cell d1 n
      clear hx hgx hts hsm hlt1 hsn hN hbk hrs hq hS hnext hy hKL hVL hK1 hV1 hrs'
      go_upto_region 5 with fail
      refine wp_region_later (by kernel_rfl) (by kernel_rfl) ?_
      repeat go_big_quiet_step (fail)
      refine wpQuiet_nil ?_
      intro w8 hw8
      have hb8 := later_of hw8
      have y0 := Below.cellOld hb8 d0
      have y1 := Below.cellOld hb8 d1
      have y2 := Below.cellOld hb8 c0
      have HK8 := Lib.hid (HK.out.below hb8)
      have HB8 := Lib.hid (HB.out.trans (hb8.mono HB.out.size))
      have f8 : w8.frozen? ⟨B, q, none⟩ = false := HK8.out.free q
      clear hw8 k0 k1 hb8 d0 d1 c0
      have q0 : (0 : Int) ≤ (q : Int) := by omega
      have q1 : (q : Int) < 4 := by omega
      have hBw : w.heap.size ≤ B := by rw [HBB.out]; omega
      have g7 := HK8.out.set q (.int .i64 (T : Int))
      rw [arr_set _ hbl, ← Hnx.out] at g7
      have gB := HB8.out.setCell (p := ⟨B, q, none⟩) hBw (.int .i64 (T : Int))
      have G7 := Lib.hid g7
      have GB := Lib.hid gB
      clear g7 gB hBw
      by_cases hv : 0 < VL
      · rw [if_pos hv] at hby
        have e1 : IntKind.i64.wrap ((S : Int) + (2 + (KL : Int) + 1 + (VL : Int) + 1)) = (T : Int) := by rw [IntKind.wrap_i64]; omega
        clear hT hby
        have hv' : (0 : Int) < (VL : Int) := by omega
        go_wp2_with fail
        refine (Hrs.out w8).mono ?_
        rintro e w9 ⟨rfl, rfl⟩
        go_wp2
        go_roundw
        case rel => exact ⟨i + 1, by omega, by go_num, G7.out, GB.out⟩
        case measure => simp [intOf]; omega
      · rw [if_neg hv] at hby
        obtain rfl : VL = 0 := by omega
        have e1 : IntKind.i64.wrap ((S : Int) + (2 + (KL : Int) + 1)) = (T : Int) := by rw [IntKind.wrap_i64]; omega
        clear hT hby
        go_wp2_with fail
        refine (Hrs.out w8).mono ?_
        rintro e w9 ⟨rfl, rfl⟩
        go_wp2
        go_roundw
        case rel => exact ⟨i + 1, by omega, by go_num, G7.out, GB.out⟩
        case measure => simp [intOf]; omega
    · obtain rfl : i = l.length := by omega
      rw [List.take_length] at HK
      have x0 : wr.cell? ⟨B, 0, none⟩ = some (.int .i64 (bsum l 0 : Nat)) := HK.out.cell 0
      have x1 : wr.cell? ⟨B, 1, none⟩ = some (.int .i64 (bsum l 1 : Nat)) := HK.out.cell 1
      have x2 : wr.cell? ⟨B, 2, none⟩ = some (.int .i64 (bsum l 2 : Nat)) := HK.out.cell 2
      have x3 : wr.cell? ⟨B, 3, none⟩ = some (.int .i64 (bsum l 3 : Nat)) := HK.out.cell 3
      have hf : fitsB l = (decide (bsum l 0 ≤ 64) && decide (bsum l 1 ≤ 64) && decide (bsum l 2 ≤ 64) && decide (bsum l 3 ≤ 64)) := rfl
      rw [← HF0.out] at hf
      obtain ⟨b0, h0⟩ : ∃ n, n = bsum l 0 := ⟨_, rfl⟩
      obtain ⟨b1, h1⟩ : ∃ n, n = bsum l 1 := ⟨_, rfl⟩
      obtain ⟨b2, h2⟩ : ∃ n, n = bsum l 2 := ⟨_, rfl⟩
      obtain ⟨b3, h3⟩ : ∃ n, n = bsum l 3 := ⟨_, rfl⟩
      rw [← h0] at x0 hf
      rw [← h1] at x1 hf
      rw [← h2] at x2 hf
      rw [← h3] at x3 hf
      have HF := Lib.hid hf
      clear h0 h1 h2 h3 hf
      by_cases p0 : b0 ≤ 64
      case neg =>
        have d0 : decide ((b0 : Int) ≤ 64) = false := by simp; omega
        go_wp2
        go_ret
        exact ⟨by rw [HF.out]; simp [p0], HB.out⟩
      have d0 : decide ((b0 : Int) ≤ 64) = true := by simp; omega
      by_cases p1 : b1 ≤ 64
      case neg =>
        have d1 : decide ((b1 : Int) ≤ 64) = false := by simp; omega
        go_wp2
        go_ret
        exact ⟨by rw [HF.out]; simp [p0, p1], HB.out⟩
      have d1 : decide ((b1 : Int) ≤ 64) = true := by simp; omega
      by_cases p2 : b2 ≤ 64
      case neg =>
        have d2 : decide ((b2 : Int) ≤ 64) = false := by simp; omega
        go_wp2
        go_ret
        exact ⟨by rw [HF.out]; simp [p0, p1, p2], HB.out⟩
      have d2 : decide ((b2 : Int) ≤ 64) = true := by simp; omega
      by_cases p3 : b3 ≤ 64
      case neg =>
        have d3 : decide ((b3 : Int) ≤ 64) = false := by simp; omega
        go_wp2
        go_ret
        exact ⟨by rw [HF.out]; simp [p0, p1, p2, p3], HB.out⟩
      have d3 : decide ((b3 : Int) ≤ 64) = true := by simp; omega
      go_wp2
      go_ret
      exact ⟨by rw [HF.out]; simp [p0, p1, p2, p3], HB.out⟩
end Go.Proofs.Yteilmbhnbmmcjaa.B
