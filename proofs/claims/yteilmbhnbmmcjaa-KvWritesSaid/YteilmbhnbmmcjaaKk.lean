/- Helper: the pages that are other ones, written; walked. No condition. -/
import Derived.Test.YteilmbhnbmmcjaaKj
namespace Go.Proofs.Yteilmbhnbmmcjaa.B
open Go.RowKit Go.Proofs.YteilmbhnbmmcjaaW.PrintWords Go.Proofs.Yteilmbhnbmmcjaa.Later
set_option maxRecDepth 100000
set_option maxHeartbeats 3200000
/-- A device that keeps a store's pages. -/
def KvDev (w : World) (a : Nat) (pg : Nat → Option (List UInt8)) : Prop :=
  ∃ (F : Int → Option ByteArray) (many : Int), PgIn 4 F ∧ (∀ k : Nat, k < 4 → F (k : Int) = (pg k).map bs) ∧ (∀ k, k < 4 → ∀ s, pg k = some s → s.length ≤ 64) ∧ MdAt w a (mkM (LT 5 4 F false) none many)
/-- The pages behind a change. -/
def pgN (pg : Nat → Option (List UInt8)) (L P : Nat → List Pr) : Nat → Option (List UInt8) := fun k => if prsB (P k) = prsB (L k) then pg k else some (prsB (P k))
def PutRel (T : Tree) (pg : Nat → Option (List UInt8)) (L P : Nat → List Pr) (a : Nat) (w : World) (c : Value) (wr : World) : Prop :=
  ∃ (i many : Nat) (F : Int → Option ByteArray), i ≤ 4 ∧ many ≤ i ∧ c = .int .i64 i ∧ PgIn 4 F ∧ (∀ k : Nat, k < 4 → F (k : Int) = (if k < i then pgN pg L P k else pg k).map bs) ∧ MdAt wr a (mkM T (some (LT 5 4 F false)) many) ∧ Mut (only a) w wr
theorem index148b (v : Nat → Value) (i : Nat) (h : i < 4) (W : World) : (Instr.index 148 (.agg (arr v)) (.int .i64 (i : Int))).run Try.prog W = .ok (v i) W := index148 v i h W
theorem kwrite_ok (a g : Nat) (pg : Nat → Option (List UInt8)) (L P : Nat → List Pr) (v : Nat → Value) (base : Nat) (w : World) (hD : KvDev w a pg) (hg : Blk w g (stC a) 113) (h4 : Four w base v P)
    (hsm : ∀ k, k < 4 → (∀ x ∈ P k, x.small) ∧ (P k).length ≤ 10000 ∧ (prsB (P k)).length ≤ 64) :
    Calls Try.prog 87 #[.pointer (some ⟨g, 0, none⟩), .agg (arr v), .agg (arr (txs L))] w fun e w2 => ∃ z : Int, e = .returned (.int .i64 z) ∧ z = 0 ∧ KvDev w2 a (pgN pg L P) ∧ Mut (only a) w w2 := by
  obtain ⟨F0, m0, hF, hFp, hlen, hM⟩ := hD
  have c0 : w.cell? ⟨g, 0, none⟩ = some (.iface 23 (.pointer (some ⟨a, 0, none⟩))) := hg.cell 0
  obtain ⟨ca, hba⟩ : ∃ ca, Blk w a ca 94 := by obtain ⟨np, oo, n, hb, _⟩ := hM; exact ⟨_, hb⟩
  have hga : g ≠ a := by
    rintro rfl
    rw [Blk] at hba hg
    rw [hba] at hg
    simp at hg
  have hal : a < w.heap.size := hba.lt
  have HM := Lib.hid hM
  have Hg := Lib.hid hg
  have HF := Lib.hid hF
  have HFp := Lib.hid hFp
  have Hsm := Lib.hid hsm
  have Hlen := Lib.hid hlen
  have H4 := Lib.hid h4
  have Hba := Lib.hid hba
  clear hM hg hF hFp hsm hlen h4 hba
  have q1 := methBegin a
  have q2 := methPut a
  have q3 := methCommit a
  have q4 := methAbort a
  show Calls Try.prog 87 #[.pointer (some ⟨g, 0, none⟩), .agg #[v 0, v 1, v 2, v 3], .agg #[txs L 0, txs L 1, txs L 2, txs L 3]] w _
  go_enter Try.func87, Try.ntmps87
  go_upto_region 1 with fail
  obtain ⟨w1, hw1⟩ : ∃ w1, w1 = (w.alloc (.cells #[v 0, v 1, v 2, v 3] 148)).alloc (.cells #[txs L 0, txs L 1, txs L 2, txs L 3] 149) := ⟨_, rfl⟩
  rw [← hw1]
  have hba : Below w.heap.size w (w.alloc (.cells #[v 0, v 1, v 2, v 3] 148)) := (Below.refl _ _).alloc (Nat.le_refl _) _
  have hsz : (w.alloc (.cells #[v 0, v 1, v 2, v 3] 148)).heap.size = w.heap.size + 1 := Array.size_push _
  have h4 : Blk (w.alloc (.cells #[v 0, v 1, v 2, v 3] 148)) w.heap.size (arr v) 148 := Blk.new _ _ _
  have h5 : Blk w1 (w.heap.size + 1) (arr (txs L)) 149 := by rw [hw1, ← hsz]; exact Blk.new _ _ _
  have hb1 : Below w.heap.size w w1 := by rw [hw1]; exact hba.alloc (by omega) _
  have h41 : Blk w1 w.heap.size (arr v) 148 := by rw [hw1]; exact h4.below ((Below.refl _ _).alloc (Nat.le_refl _) _)
  obtain ⟨B4, e4⟩ : ∃ B4, B4 = w.heap.size := ⟨_, rfl⟩
  obtain ⟨B5, e5⟩ : ∃ B5, B5 = B4 + 1 := ⟨_, rfl⟩
  rw [← e4] at h5 h41 ⊢
  rw [← e5] at h5 ⊢
  have n4 : B4 ≠ a := by omega
  have n5 : B5 ≠ a := by omega
  have d0 : w1.cell? ⟨g, 0, none⟩ = some (.iface 23 (.pointer (some ⟨a, 0, none⟩))) := Below.cellOld hb1 c0
  have HM1 := Lib.hid (HM.out.below hb1)
  have Hg1 := Lib.hid (Hg.out.below hb1)
  have H41 := Lib.hid (H4.out.below hb1)
  have Hba1 := Lib.hid (Hba.out.below hb1)
  have Hb1 := Lib.hid h41
  have Hb2 := Lib.hid h5
  have Hm1 := Lib.hid (Mut.of_below (S := only a) hb1)
  clear hw1 hba hsz h4 h5 hb1 h41 e4 e5 c0 HM Hg H4 Hba
  go_wp2_with fail
  refine (begin_any _ a w1 HM1.out).mono ?_
  rintro e w2 ⟨rfl, h2, hm2⟩
  have h2' : MdAt w2 a (mkM (LT 5 4 F0 false) (some (LT 5 4 F0 false)) (0 : Nat)) := h2
  have H2 := Lib.hid h2'
  have Hm2 := Lib.hid (Hm1.out.trans hm2)
  have Hg2 := Lib.hid (Hg1.out.kept hm2 hga)
  have H42 := Lib.hid (H41.out.far Hba1.out (by decide) hm2)
  have Hb12 := Lib.hid (Hb1.out.kept hm2 n4)
  have Hb22 := Lib.hid (Hb2.out.kept hm2 n5)
  have hblk : ∃ ca, Blk w2 a ca 94 := by obtain ⟨np, oo, n, hb, _⟩ := h2'; exact ⟨_, hb⟩
  clear h2 h2' hm2 d0 Hg1 H41 Hb1 Hb2 Hm1 HM1 Hba1
  have x0 : w2.cell? ⟨B4, 0, none⟩ = some (v 0) := Hb12.out.cell 0
  have x1 : w2.cell? ⟨B4, 1, none⟩ = some (v 1) := Hb12.out.cell 1
  have x2 : w2.cell? ⟨B4, 2, none⟩ = some (v 2) := Hb12.out.cell 2
  have x3 : w2.cell? ⟨B4, 3, none⟩ = some (v 3) := Hb12.out.cell 3
  go_wp2
  go_loopw [21] (fun c wr => PutRel (LT 5 4 F0 false) pg L P a w2 c wr) (fun c _ => 4 - (intOf c).toNat)
  case atStart => exact ⟨0, 0, F0, by omega, by omega, rfl, HF.out, fun k hk => by rw [if_neg (by omega)]; exact HFp.out k hk, H2.out, Mut.refl _ _⟩
  case round =>
    clear x0 x1 x2 x3 H2
    obtain ⟨i, many, F, hi, hmi, rfl, hF, hFk, hM, hm⟩ := hrel
    obtain ⟨ca2, hba2⟩ := hblk
    have Hgr := Lib.hid (Hg2.out.kept hm hga)
    have H4r := Lib.hid (H42.out.far hba2 (by decide) hm)
    have Hb2r := Lib.hid (Hb22.out.kept hm n5)
    have HM := Lib.hid hM
    have Hm := Lib.hid hm
    have HFi := Lib.hid hF
    have HFk := Lib.hid hFk
    clear hM hm hF hFk hba2
    have c0 : wr.cell? ⟨g, 0, none⟩ = some (.iface 23 (.pointer (some ⟨a, 0, none⟩))) := Hgr.out.cell 0
    have c1 : wr.cell? ⟨g, 1, none⟩ = some (.int .i64 5) := Hgr.out.cell 1
    by_cases hlt : i < 4
    · have hri := H4r.out.r i hlt
      obtain ⟨hs1, hs2, hs3⟩ := Hsm.out i hlt
      obtain ⟨A9, c9, hsl, _, hC9⟩ := Kd.R_reads hri
      have hix := fun W => index148 v i hlt W
      simp only [hsl] at hix
      have htx := text_any (P i) hs1 hs2 A9 c9 wr hC9
      have i0 : (0 : Int) ≤ (i : Int) := by omega
      have i1 : (i : Int) < 4 := by omega
      obtain ⟨X, hX⟩ : ∃ X, X = prsB (P i) := ⟨_, rfl⟩
      obtain ⟨Y, hY⟩ : ∃ Y, Y = prsB (L i) := ⟨_, rfl⟩
      rw [← hX] at htx hs3
      have t0 : wr.cell? ⟨B5, i, none⟩ = some (.string (bs Y)) := by rw [hY]; exact (Hb2r.out.cell i).trans (arr_get _ hlt)
      have Htx := Lib.hid htx
      have HX := Lib.hid hX
      have HY := Lib.hid hY
      have hbX := bs_toList X
      have hbY := bs_toList Y
      have hXs := bs_size X
      clear hri hs1 hs2 hsl hC9 htx hX hY
      go_wp2_with fail
      refine Htx.out.mono ?_
      rintro e w3 ⟨rfl, hb3⟩
      have u0 : w3.cell? ⟨B5, i, none⟩ = some (.string (bs Y)) := Below.cellOld hb3 t0
      have u1 : w3.cell? ⟨g, 0, none⟩ = some (.iface 23 (.pointer (some ⟨a, 0, none⟩))) := Below.cellOld hb3 c0
      have u2 : w3.cell? ⟨g, 1, none⟩ = some (.int .i64 5) := Below.cellOld hb3 c1
      have HM3 := Lib.hid (HM.out.below hb3)
      have Hm3 := Lib.hid (Hm.out.trans (Mut.of_below hb3))
      clear hb3 t0 c0 c1 Htx
      by_cases he : X = Y
      · have hpn : pgN pg L P i = pg i := if_pos (by rw [← HX.out, ← HY.out]; exact he)
        subst he
        go_wp2
        go_roundw
        case rel => exact ⟨i + 1, many, F, by omega, by omega, by go_num, HFi.out, fun k hk => by
          rw [HFk.out k hk]
          by_cases e : k = i
          · subst e; rw [if_neg (by omega), if_pos (by omega), hpn]
          · by_cases e2 : k < i
            · rw [if_pos e2, if_pos (by omega)]
            · rw [if_neg e2, if_neg (by omega)], HM3.out, Hm3.out⟩
        case measure => simp [intOf]; omega
      · have hpn : pgN pg L P i = some X := by rw [HX.out]; exact if_neg (by rw [← HX.out, ← HY.out]; exact he)
        have heb : (X == Y) = false := by simpa using he
        have Hpn := Lib.hid hpn
        clear hpn he
        go_upto_region 9 with fail
        go_still_tail 12, (by kernel_rfl)
        go_wp2_with fail
        refine (dput_ok ⟨by omega, by omega, by omega, by omega⟩ (LT 5 4 F0 false) F HFi.out (many : Int) (by omega) (by omega) (i : Int) (by omega) (by omega) (bs X) (by rw [bs_size]; exact hs3) a _ (HM3.out.below (below_drewN (Below.refl _ _) 1))).mono ?_
        rintro e w4 ⟨rfl, h4, hm4⟩
        have H4e := Lib.hid (show MdAt w4 a (mkM (LT 5 4 F0 false) (some (LT 5 4 (upP F i (some (bs X))) false)) ((many + 1 : Nat) : Int)) from h4)
        have hm34 : Mut (only a) w3 w4 := ((Mut.refl _ w3).drew 1).trans hm4
        have Hm4 := Lib.hid (Hm3.out.trans hm34)
        clear h4 hm4 hm34
        go_wp2
        go_roundw
        case rel => exact ⟨i + 1, many + 1, _, by omega, by omega, by go_num, HFi.out.up (by omega) (by omega) _, fun k hk => by
          by_cases e : k = i
          · subst e; rw [if_pos (by omega), Hpn.out]; simp [upP]
          · have e3 : ((k : Int) = (i : Int)) = False := by simp; omega
            simp only [upP, e3, if_false]
            rw [HFk.out k hk]
            by_cases e2 : k < i
            · rw [if_pos e2, if_pos (by omega)]
            · rw [if_neg e2, if_neg (by omega)], H4e.out, Hm4.out⟩
        case measure => simp [intOf]; omega
    · obtain rfl : i = 4 := by omega
      go_wp2_with fail
      refine (commit_m _ a wr HM.out).mono ?_
      rintro e w4 ⟨rfl, h4, hm4⟩
      have H4e := Lib.hid h4
      have Hm4 := Lib.hid (Hm2.out.trans (Hm.out.trans hm4))
      clear h4 hm4
      go_wp2
      go_ret
      refine ⟨_, rfl, rfl, ⟨F, many, HFi.out, fun k hk => by rw [HFk.out k hk, if_pos hk], fun k hk s hs => ?_, H4e.out⟩, Hm4.out⟩
      unfold pgN at hs
      split at hs
      · exact Hlen.out k hk s hs
      · obtain rfl := Option.some.inj hs
        exact (Hsm.out k hk).2.2
end Go.Proofs.Yteilmbhnbmmcjaa.B
