/- Helper: a store whose space is sealed: what changes nothing is done, all else is told; walked. No condition. -/
import Derived.Test.YteilmbhnbmmcjaaNh
namespace Go.Proofs.Yteilmbhnbmmcjaa.B
open Go.RowKit Go.Proofs.YteilmbhnbmmcjaaW.PrintWords Go.Proofs.Yteilmbhnbmmcjaa.Later
set_option maxRecDepth 100000
set_option maxHeartbeats 3200000
/-- A device that keeps a store's pages, the space sealed. -/
def KvSl (w : World) (a : Nat) (pg : Nat → Option (List UInt8)) : Prop :=
  ∃ (F : Int → Option ByteArray) (many : Int), PgIn 4 F ∧ (∀ k : Nat, k < 4 → F (k : Int) = (pg k).map bs) ∧ (∀ k, k < 4 → ∀ s, pg k = some s → s.length ≤ 64) ∧ MdAt w a (mkM (LT 5 4 F true) none many)
theorem KvSl.below {w w' : World} {a : Nat} {pg : Nat → Option (List UInt8)} (h : KvSl w a pg) (hb : Below w.heap.size w w') : KvSl w' a pg := by
  obtain ⟨F, many, h1, h2, h3, h4⟩ := h
  exact ⟨F, many, h1, h2, h3, h4.below hb⟩
def SealRel (T : Tree) (L P : Nat → List Pr) (a : Nat) (w : World) (c : Value) (wr : World) : Prop :=
  ∃ i : Nat, i ≤ 4 ∧ c = .int .i64 i ∧ (∀ k, k < i → prsB (P k) = prsB (L k)) ∧ MdAt wr a (mkM T (some T) (0 : Nat)) ∧ Mut (only a) w wr
theorem kwrite_sl (a g : Nat) (pg : Nat → Option (List UInt8)) (L P : Nat → List Pr) (v : Nat → Value) (base : Nat) (w : World) (hD : KvSl w a pg) (hg : Blk w g (stC a) 113) (h4 : Four w base v P)
    (hsm : ∀ k, k < 4 → (∀ x ∈ P k, x.small) ∧ (P k).length ≤ 10000 ∧ (prsB (P k)).length ≤ 64) :
    Calls Try.prog 87 #[.pointer (some ⟨g, 0, none⟩), .agg (arr v), .agg (arr (txs L))] w fun e w2 => ∃ z : Int, e = .returned (.int .i64 z) ∧ ((∀ k, k < 4 → prsB (P k) = prsB (L k)) → z = 0) ∧ ((∃ k, k < 4 ∧ prsB (P k) ≠ prsB (L k)) → z = 170) ∧ KvSl w2 a pg ∧ Mut (only a) w w2 := by
  obtain ⟨F0, m0, hF, hFp, hlen, hM⟩ := hD
  have c0 : w.cell? ⟨g, 0, none⟩ = some (.iface 23 (.pointer (some ⟨a, 0, none⟩))) := hg.cell 0
  obtain ⟨ca, hba⟩ : ∃ ca, Blk w a ca 94 := by obtain ⟨np, oo, n, hb, _⟩ := hM; exact ⟨_, hb⟩
  have hga : g ≠ a := by
    rintro rfl
    rw [Blk] at hba hg
    rw [hba] at hg
    simp at hg
  have hal : a < w.heap.size := hba.lt
  have HM := Lib.hid hM
  have Hg := Lib.hid hg
  have HF := Lib.hid hF
  have HFp := Lib.hid hFp
  have Hsm := Lib.hid hsm
  have Hlen := Lib.hid hlen
  have H4 := Lib.hid h4
  have Hba := Lib.hid hba
  clear hM hg hF hFp hsm hlen h4 hba
  have q1 := methBegin a
  have q2 := methPut a
  have q3 := methCommit a
  have q4 := methAbort a
  show Calls Try.prog 87 #[.pointer (some ⟨g, 0, none⟩), .agg #[v 0, v 1, v 2, v 3], .agg #[txs L 0, txs L 1, txs L 2, txs L 3]] w _
  go_enter Try.func87, Try.ntmps87
  go_upto_region 1 with fail
  obtain ⟨w1, hw1⟩ : ∃ w1, w1 = (w.alloc (.cells #[v 0, v 1, v 2, v 3] 148)).alloc (.cells #[txs L 0, txs L 1, txs L 2, txs L 3] 149) := ⟨_, rfl⟩
  rw [← hw1]
  have hba : Below w.heap.size w (w.alloc (.cells #[v 0, v 1, v 2, v 3] 148)) := (Below.refl _ _).alloc (Nat.le_refl _) _
  have hsz : (w.alloc (.cells #[v 0, v 1, v 2, v 3] 148)).heap.size = w.heap.size + 1 := Array.size_push _
  have h4 : Blk (w.alloc (.cells #[v 0, v 1, v 2, v 3] 148)) w.heap.size (arr v) 148 := Blk.new _ _ _
  have h5 : Blk w1 (w.heap.size + 1) (arr (txs L)) 149 := by rw [hw1, ← hsz]; exact Blk.new _ _ _
  have hb1 : Below w.heap.size w w1 := by rw [hw1]; exact hba.alloc (by omega) _
  have h41 : Blk w1 w.heap.size (arr v) 148 := by rw [hw1]; exact h4.below ((Below.refl _ _).alloc (Nat.le_refl _) _)
  obtain ⟨B4, e4⟩ : ∃ B4, B4 = w.heap.size := ⟨_, rfl⟩
  obtain ⟨B5, e5⟩ : ∃ B5, B5 = B4 + 1 := ⟨_, rfl⟩
  rw [← e4] at h5 h41 ⊢
  rw [← e5] at h5 ⊢
  have n4 : B4 ≠ a := by omega
  have n5 : B5 ≠ a := by omega
  have d0 : w1.cell? ⟨g, 0, none⟩ = some (.iface 23 (.pointer (some ⟨a, 0, none⟩))) := Below.cellOld hb1 c0
  have HM1 := Lib.hid (HM.out.below hb1)
  have Hg1 := Lib.hid (Hg.out.below hb1)
  have H41 := Lib.hid (H4.out.below hb1)
  have Hba1 := Lib.hid (Hba.out.below hb1)
  have Hb1 := Lib.hid h41
  have Hb2 := Lib.hid h5
  have Hm1 := Lib.hid (Mut.of_below (S := only a) hb1)
  clear hw1 hba hsz h4 h5 hb1 h41 e4 e5 c0 HM Hg H4 Hba
  go_wp2_with fail
  refine (begin_any _ a w1 HM1.out).mono ?_
  rintro e w2 ⟨rfl, h2, hm2⟩
  have h2' : MdAt w2 a (mkM (LT 5 4 F0 true) (some (LT 5 4 F0 true)) (0 : Nat)) := h2
  have H2 := Lib.hid h2'
  have Hm2 := Lib.hid (Hm1.out.trans hm2)
  have Hg2 := Lib.hid (Hg1.out.kept hm2 hga)
  have H42 := Lib.hid (H41.out.far Hba1.out (by decide) hm2)
  have Hb12 := Lib.hid (Hb1.out.kept hm2 n4)
  have Hb22 := Lib.hid (Hb2.out.kept hm2 n5)
  have hblk : ∃ ca, Blk w2 a ca 94 := by obtain ⟨np, oo, n, hb, _⟩ := h2'; exact ⟨_, hb⟩
  clear h2 h2' hm2 d0 Hg1 H41 Hb1 Hb2 Hm1 HM1 Hba1
  have x0 : w2.cell? ⟨B4, 0, none⟩ = some (v 0) := Hb12.out.cell 0
  have x1 : w2.cell? ⟨B4, 1, none⟩ = some (v 1) := Hb12.out.cell 1
  have x2 : w2.cell? ⟨B4, 2, none⟩ = some (v 2) := Hb12.out.cell 2
  have x3 : w2.cell? ⟨B4, 3, none⟩ = some (v 3) := Hb12.out.cell 3
  go_wp2
  go_loopw [21] (fun c wr => SealRel (LT 5 4 F0 true) L P a w2 c wr) (fun c _ => 4 - (intOf c).toNat)
  case atStart => exact ⟨0, by omega, rfl, fun k h => by omega, H2.out, Mut.refl _ _⟩
  case round =>
    clear x0 x1 x2 x3 H2
    obtain ⟨i, hi, rfl, hsame, hM, hm⟩ := hrel
    obtain ⟨ca2, hba2⟩ := hblk
    have Hgr := Lib.hid (Hg2.out.kept hm hga)
    have H4r := Lib.hid (H42.out.far hba2 (by decide) hm)
    have Hb2r := Lib.hid (Hb22.out.kept hm n5)
    have HM := Lib.hid hM
    have Hm := Lib.hid hm
    have Hsame := Lib.hid hsame
    clear hM hm hba2 hsame
    have c0 : wr.cell? ⟨g, 0, none⟩ = some (.iface 23 (.pointer (some ⟨a, 0, none⟩))) := Hgr.out.cell 0
    have c1 : wr.cell? ⟨g, 1, none⟩ = some (.int .i64 5) := Hgr.out.cell 1
    by_cases hlt : i < 4
    · have hri := H4r.out.r i hlt
      obtain ⟨hs1, hs2, hs3⟩ := Hsm.out i hlt
      obtain ⟨A9, c9, hsl, _, hC9⟩ := Kd.R_reads hri
      have hix := fun W => index148 v i hlt W
      simp only [hsl] at hix
      have htx := text_any (P i) hs1 hs2 A9 c9 wr hC9
      have i0 : (0 : Int) ≤ (i : Int) := by omega
      have i1 : (i : Int) < 4 := by omega
      obtain ⟨X, hX⟩ : ∃ X, X = prsB (P i) := ⟨_, rfl⟩
      obtain ⟨Y, hY⟩ : ∃ Y, Y = prsB (L i) := ⟨_, rfl⟩
      rw [← hX] at htx hs3
      have t0 : wr.cell? ⟨B5, i, none⟩ = some (.string (bs Y)) := by rw [hY]; exact (Hb2r.out.cell i).trans (arr_get _ hlt)
      have Htx := Lib.hid htx
      have HX := Lib.hid hX
      have HY := Lib.hid hY
      have hbX := bs_toList X
      have hbY := bs_toList Y
      have hXs := bs_size X
      clear hri hs1 hs2 hsl hC9 htx hX hY
      go_wp2_with fail
      refine Htx.out.mono ?_
      rintro e w3 ⟨rfl, hb3⟩
      have u0 : w3.cell? ⟨B5, i, none⟩ = some (.string (bs Y)) := Below.cellOld hb3 t0
      have u1 : w3.cell? ⟨g, 0, none⟩ = some (.iface 23 (.pointer (some ⟨a, 0, none⟩))) := Below.cellOld hb3 c0
      have u2 : w3.cell? ⟨g, 1, none⟩ = some (.int .i64 5) := Below.cellOld hb3 c1
      have HM3 := Lib.hid (HM.out.below hb3)
      have Hm3 := Lib.hid (Hm.out.trans (Mut.of_below hb3))
      clear hb3 t0 c0 c1 Htx
      by_cases he : X = Y
      · have hpn : prsB (P i) = prsB (L i) := by rw [← HX.out, ← HY.out]; exact he
        have Hpn := Lib.hid hpn
        clear hpn
        subst he
        go_wp2
        go_roundw
        case rel => exact ⟨i + 1, by omega, by go_num, fun k hk => by
          by_cases e : k = i
          · subst e; exact Hpn.out
          · exact Hsame.out k (by omega), HM3.out, Hm3.out⟩
        case measure => simp [intOf]; omega
      · have hpn : prsB (P i) ≠ prsB (L i) := by rw [← HX.out, ← HY.out]; exact he
        have heb : (X == Y) = false := by simpa using he
        have Hpn := Lib.hid hpn
        clear hpn he
        go_upto_region 9 with fail
        go_still_tail 12, (by kernel_rfl)
        go_wp2_with fail
        refine (dput_sealed ⟨by omega, by omega, by omega, by omega⟩ (LT 5 4 F0 true) F0 HF.out 0 (by omega) (i : Int) (by omega) (by omega) (bs X) (by rw [bs_size]; exact hs3) a _ (HM3.out.below (below_drewN (Below.refl _ _) 1))).mono ?_
        rintro e w4 ⟨rfl, h4, hm4⟩
        have H4e := Lib.hid h4
        have hm34 : Mut (only a) w3 w4 := ((Mut.refl _ w3).drew 1).trans hm4
        have Hm4 := Lib.hid (Hm3.out.trans hm34)
        have v1 : w4.cell? ⟨g, 0, none⟩ = some (.iface 23 (.pointer (some ⟨a, 0, none⟩))) := hm34.cell u1 hga
        clear h4 hm4 hm34 u0 u1 u2
        go_wp2_with fail
        refine (abort_m _ a w4 H4e.out).mono ?_
        rintro e w5 ⟨rfl, h5, hm5⟩
        have H5 := Lib.hid h5
        have Hm5 := Lib.hid (Hm2.out.trans (Hm4.out.trans hm5))
        clear h5 hm5
        go_wp2
        go_ret
        exact ⟨_, rfl, fun h => absurd (h i hlt) Hpn.out, fun _ => rfl, ⟨F0, 0, HF.out, HFp.out, Hlen.out, H5.out⟩, Hm5.out⟩
    · obtain rfl : i = 4 := by omega
      go_wp2_with fail
      refine (commit_m _ a wr HM.out).mono ?_
      rintro e w4 ⟨rfl, h4, hm4⟩
      have H4e := Lib.hid h4
      have Hm4 := Lib.hid (Hm2.out.trans (Hm.out.trans hm4))
      clear h4 hm4
      go_wp2
      go_ret
      exact ⟨_, rfl, fun _ => rfl, fun ⟨k, hk, h⟩ => absurd (Hsame.out k hk) h, ⟨F0, _, HF.out, HFp.out, Hlen.out, H4e.out⟩, Hm4.out⟩
theorem kget_got_sl (a g : Nat) (pg : Nat → Option (List UInt8)) (w : World) (hD : KvSl w a pg) (hg : Blk w g (stC a) 113) (key : List UInt8) (hk : goodK key [] = true) (hkl : key.length ≤ 1000) (l : List Pr) (hl : loadP (pg (bucket key)) (bucket key) = (0, l)) (hr : Rises l) (hn : l.length ≤ 10000) (n : Nat) (hat : IsAt l key n) (hh : hasKey l key n = true) :
    Calls Try.prog 36 #[.pointer (some ⟨g, 0, none⟩), .string (bs key)] w fun e w' => e = .returned (.tuple #[.string (bs (prA l n).v), .int .i64 0]) ∧ Below w.heap.size w w' := by
  have hq := nilEq55 g
  have hgk := good_any key [] (by omega) (by simp)
  rw [hk] at hgk
  have hbk := bucket_any key (by omega)
  have hbl := bucket_lt key
  obtain ⟨F, many, hF, hFp, hlen, hM⟩ := hD
  have hpb : pgB pg (mkM (LT 5 4 F true) none many).see := fun k hk => ⟨(page_LT5 F true k).trans (hFp k hk), hlen k hk⟩
  have hld := fun W (hW : Below w.heap.size w W) => load_any _ a g pg hpb (bucket key) hbl W (hM.below hW) (hg.below hW)
  rw [hl] at hld
  obtain ⟨B, hB⟩ : ∃ B, B = bucket key := ⟨_, rfl⟩
  rw [← hB] at hbk hld
  have Hgk := Lib.hid hgk
  have Hbk := Lib.hid hbk
  have Hld := Lib.hid hld
  have Hat := Lib.hid hat
  have hnl : n < l.length := by simp [hasKey] at hh; exact hh.1
  have Hh := Lib.hid hh
  clear hgk hbk hld hM hg hF hFp hlen hpb hB hk hl hat hh
  go_enter Try.func36, Try.ntmps36
  go_wp2_with fail
  refine (Hgk.out w).mono ?_
  rintro e w1 ⟨rfl, hb1⟩
  have HB1 := Lib.hid hb1
  clear hb1
  go_wp2_with fail
  refine (Hbk.out w1).mono ?_
  rintro e w2 ⟨rfl, rfl⟩
  go_wp2_with fail
  refine (Hld.out w1 HB1.out).mono ?_
  rintro e w3 ⟨⟨v, rfl, h1, h2⟩, hb3⟩
  obtain ⟨A, c, rfl, hlc, hC⟩ := Kd.R_reads (h1 rfl)
  have HC := Lib.hid hC
  have HB3 := Lib.hid (HB1.out.trans (hb3.mono HB1.out.size))
  have hfd := find_any l hr hn key A c w3 hC
  have Hfd := Lib.hid hfd
  clear h1 h2 hb3 hC hfd
  go_wp2_with fail
  refine Hfd.out.mono ?_
  rintro e w4 ⟨⟨m, rfl, hat2⟩, hb4⟩
  obtain rfl := hat2.uniq Hat.out
  rw [Hh.out]
  obtain ⟨ad, e, d0, d1⟩ := at_pr (Kd.C_below HC.out hb4) (m : Int) (by omega) (by omega)
  cases e
  rw [Int.toNat_natCast] at d0 d1
  have i0 : (0 : Int) ≤ (m : Int) := by omega
  have i1 : (m : Int) < (l.length : Int) := by omega
  have HB4 := Lib.hid (HB3.out.trans (hb4.mono HB3.out.size))
  clear hb4 hat2
  go_wp2
  go_ret2
  exact ⟨rfl, HB4.out⟩
theorem kget_sl (a g : Nat) (pg : Nat → Option (List UInt8)) (m : List Pr) (hS : Says pg m) (w : World) (hD : KvSl w a pg) (hg : Blk w g (stC a) 113) (key : List UInt8) (hk : goodK key [] = true) :
    Calls Try.prog 36 #[.pointer (some ⟨g, 0, none⟩), .string (bs key)] w fun e w' => ∃ s z, e = .returned (.tuple #[.string (bs s), .int .i64 z]) ∧ GetQ m key s z ∧ Below w.heap.size w w' := by
  have hkl : key.length ≤ 16 := ((goodK_iff _ _).1 hk).2.1
  obtain ⟨n, hat⟩ := isAt_ex (st_fl hS.st (bucket key)) key
  have hload := hS.load (bucket key) (bucket_lt key)
  by_cases hh : hasKey (fl (bucket key) m) key n = true
  · have hlen : (fl (bucket key) m).length ≤ 10000 := by
      have := says_len hS hD.choose_spec.choose_spec.2.2.1
      have : (fl (bucket key) m).length ≤ m.length := List.length_filter_le _ _
      omega
    refine (kget_got_sl a g pg w hD hg key hk (by omega) _ hload (rises_of_st (st_fl hS.st _)) hlen n hat hh).mono ?_
    rintro e w' ⟨rfl, hb⟩
    refine ⟨_, _, rfl, ⟨fun x hx e => ?_, fun hno => ?_⟩, hb⟩
    · subst e
      have hx2 : x ∈ fl (bucket x.k) m := (mem_fl _ _ _).2 ⟨hx, rfl⟩
      rw [(hasKey_mem (st_fl hS.st _) hx2 hat).2]
      exact ⟨rfl, rfl⟩
    · have := hasKey_not (l := fl (bucket key) m) (key := key) (n := n) (fun x hx => hno x ((mem_fl _ _ _).1 hx).1)
      rw [this] at hh; cases hh
  · have hh' : hasKey (fl (bucket key) m) key n = false := by simpa using hh
    have hnone : ∀ x ∈ m, x.k ≠ key := fun x hx e => by
      subst e
      have hx2 : x ∈ fl (bucket x.k) m := (mem_fl _ _ _).2 ⟨hx, rfl⟩
      rw [(hasKey_mem (st_fl hS.st _) hx2 hat).1] at hh'; cases hh'
    have hlen : (fl (bucket key) m).length ≤ 10000 := by
      have := says_len hS hD.choose_spec.choose_spec.2.2.1
      have : (fl (bucket key) m).length ≤ m.length := List.length_filter_le _ _
      omega
    have hq := nilEq55 g
    have hgk := good_any key [] (by omega) (by simp)
    rw [hk] at hgk
    have hbk := bucket_any key (by omega)
    have hbl := bucket_lt key
    have hr := rises_of_st (st_fl hS.st (bucket key))
    obtain ⟨F, many, hF, hFp, hlen2, hM⟩ := hD
    have hpb : pgB pg (mkM (LT 5 4 F true) none many).see := fun k hk => ⟨(page_LT5 F true k).trans (hFp k hk), hlen2 k hk⟩
    have hld := fun W (hW : Below w.heap.size w W) => load_any _ a g pg hpb (bucket key) hbl W (hM.below hW) (hg.below hW)
    rw [hload] at hld
    obtain ⟨L, hL⟩ : ∃ L, L = fl (bucket key) m := ⟨_, rfl⟩
    rw [← hL] at hld hr hat hh' hlen
    obtain ⟨B, hB⟩ : ∃ B, B = bucket key := ⟨_, rfl⟩
    rw [← hB] at hbk hld
    have Hgk := Lib.hid hgk
    have Hbk := Lib.hid hbk
    have Hld := Lib.hid hld
    have Hat := Lib.hid hat
    have Hh := Lib.hid hh'
    have Hno := Lib.hid hnone
    clear hgk hbk hld hM hg hF hFp hlen2 hpb hB hk hat hh' hh hload hL hnone hS
    go_enter Try.func36, Try.ntmps36
    go_wp2_with fail
    refine (Hgk.out w).mono ?_
    rintro e w1 ⟨rfl, hb1⟩
    have HB1 := Lib.hid hb1
    clear hb1
    go_wp2_with fail
    refine (Hbk.out w1).mono ?_
    rintro e w2 ⟨rfl, rfl⟩
    go_wp2_with fail
    refine (Hld.out w1 HB1.out).mono ?_
    rintro e w3 ⟨⟨v, rfl, h1, h2⟩, hb3⟩
    obtain ⟨A, c, rfl, hlc, hC⟩ := Kd.R_reads (h1 rfl)
    have HB3 := Lib.hid (HB1.out.trans (hb3.mono HB1.out.size))
    have hfd := find_any L hr hlen key A c w3 hC
    have Hfd := Lib.hid hfd
    clear h1 h2 hb3 hC hfd
    go_wp2_with fail
    refine Hfd.out.mono ?_
    rintro e w4 ⟨⟨j, rfl, hat2⟩, hb4⟩
    obtain rfl := hat2.uniq Hat.out
    rw [Hh.out]
    have HB4 := Lib.hid (HB3.out.trans (hb4.mono HB3.out.size))
    clear hb4 hat2
    go_wp2
    go_ret2
    exact ⟨[], 181, rfl, ⟨fun x hx e => absurd e (Hno.out x hx), fun _ => rfl⟩, HB4.out⟩
/-- What comes of a change where the space is sealed. -/
def ChgS (b : Bool) (m p : List Pr) (pg : Nat → Option (List UInt8)) (a : Nat) (w : World) (z : Int) (w2 : World) : Prop :=
  (p.any badP = true ∧ z = 1 ∧ Below w.heap.size w w2) ∨
  (p.any badP = false ∧ (∃ k, k < 4 ∧ 64 < (prsB (fl k (foldA b m p p.length))).length) ∧ z = 172 ∧ Below w.heap.size w w2) ∨
  (p.any badP = false ∧ ((∀ k, k < 4 → prsB (fl k (foldA b m p p.length)) = prsB (fl k m)) → z = 0) ∧ ((∃ k, k < 4 ∧ prsB (fl k (foldA b m p p.length)) ≠ prsB (fl k m)) → z = 170) ∧ KvSl w2 a pg ∧ Mut (only a) w w2)
theorem kchg_sl (b : Bool) (a g : Nat) (pg : Nat → Option (List UInt8)) (m : List Pr) (hS : Says pg m) (w : World) (hD : KvSl w a pg) (hg : Blk w g (stC a) 113) (p : List Pr) (hpn : p.length ≤ 1000) (hpf : ∀ x ∈ p, Fine x) (A : Option Addr) (c : Nat) (hC : Kd.C prK w A p.length p) :
    Calls Try.prog 61 #[.pointer (some ⟨g, 0, none⟩), .slice A p.length c, .func (.func (actF b)) #[] #[]] w fun e w2 => ∃ z, e = .returned (.int .i64 z) ∧ ChgS b m p pg a w z w2 := by
  have hD0 := hD
  obtain ⟨F, many, hF, hFp, hlen, hM⟩ := hD
  have hml := says_len hS hlen
  have hpb : pgB pg (mkM (LT 5 4 F true) none many).see := fun k hk => ⟨(page_LT5 F true k).trans (hFp k hk), hlen k hk⟩
  have hPM : ∀ n, PM (fun k => fl k m) (act1 b) p n = fun k => fl k (foldA b m p n) := fun n => funext (fun k => PM_fold hS.st p n k)
  have hlens : ∀ n, n ≤ p.length → ∀ k, (fl k (foldA b m p n)).length ≤ 10000 := fun n hn k => by
    have h1 := foldA_len b m p n
    have h2 : (fl k (foldA b m p n)).length ≤ (foldA b m p n).length := List.length_filter_le _ _
    omega
  refine change_any _ a g pg hpb (fun k => fl k m) (fun k hk => by rw [hS.load k hk]) p hpn hpf A c (actF b) (act_enter b) (act1 b) (ChgS b m p pg a w) w hM hg hC ?_ ?_ ?_ ?_ ?_ ?_
  · intro h w' hb
    exact .inl ⟨h, rfl, hb⟩
  · intro _ k hk _ hne
    rw [hS.load k hk] at hne
    exact absurd rfl hne
  · intro hb n hn k hk _
    rw [hPM]
    exact ⟨fun x hx => small_of_good (foldA_good hS.st hS.good hb n hn x ((mem_fl _ _ _).1 hx).1), hlens n hn k⟩
  · intro hb _ n hn w1 v hw hv
    rw [hPM] at hv ⊢
    exact act_any b _ (hlens n (by omega) _) (rises_of_st (st_fl (st_foldA hS.st p n) _)) (prA p n) v w.heap.size w1 hw hv
  · intro hb _ hr w' hB
    rw [hPM] at hr
    exact .inr (.inl ⟨hb, hr, rfl, hB⟩)
  · intro hb _ hr w1 v hB h4
    rw [hPM] at hr h4
    refine (kwrite_sl a g pg (fun k => fl k m) (fun k => fl k (foldA b m p p.length)) v w.heap.size w1 (hD0.below hB) (hg.below hB) h4 (fun k hk => ⟨fun x hx => small_of_good (foldA_good hS.st hS.good hb p.length (Nat.le_refl _) x ((mem_fl _ _ _).1 hx).1), hlens _ (Nat.le_refl _) k, hr k hk⟩)).mono ?_
    rintro e w2 ⟨z, rfl, h1, h2, hd, hm⟩
    exact ⟨z, rfl, .inr (.inr ⟨hb, h1, h2, hd, (Mut.of_below hB).trans hm⟩)⟩
theorem kset_sl (a g : Nat) (pg : Nat → Option (List UInt8)) (m : List Pr) (hS : Says pg m) (w : World) (hD : KvSl w a pg) (hg : Blk w g (stC a) 113) (p : List Pr) (hpn : p.length ≤ 1000) (hpf : ∀ x ∈ p, Fine x) (A : Option Addr) (c : Nat) (hC : Kd.C prK w A p.length p) :
    Calls Try.prog 31 #[.pointer (some ⟨g, 0, none⟩), .slice A p.length c] w fun e w2 => ∃ z, e = .returned (.int .i64 z) ∧ ChgS false m p pg a w z w2 := by
  have hch := kchg_sl false a g pg m hS w hD hg p hpn hpf A c hC
  rw [show actF false = 62 from rfl] at hch
  have Hch := Lib.hid hch
  clear hS hD hg hpf hC hch
  go_enter Try.func31, Try.ntmps31
  go_wp2_with fail
  refine Hch.out.mono ?_
  rintro e w1 ⟨z, rfl, h⟩
  have H := Lib.hid h
  clear h
  go_wp2
  go_ret
  exact ⟨_, rfl, H.out⟩
theorem kdrop_sl (a g : Nat) (pg : Nat → Option (List UInt8)) (m : List Pr) (hS : Says pg m) (w : World) (hD : KvSl w a pg) (hg : Blk w g (stC a) 113) (ks : List (List UInt8)) (hn : ks.length ≤ 1000) (hks : ∀ k ∈ ks, k.length ≤ 9223372036854775807) (A : Option Addr) (c : Nat) (hC : Kd.C sK w A ks.length ks) :
    Calls Try.prog 35 #[.pointer (some ⟨g, 0, none⟩), .slice A ks.length c] w fun e w2 => ∃ z, e = .returned (.int .i64 z) ∧ ∃ w1, Below w.heap.size w w1 ∧ ChgS true m (ks.map keyP) pg a w1 z w2 := by
  have HC := Lib.hid hC
  have Hks := Lib.hid hks
  have HS := Lib.hid hS
  have HD := Lib.hid hD
  have Hg := Lib.hid hg
  clear hC hks hS hD hg
  go_enter Try.func35, Try.ntmps35
  go_wp2
  go_loopw [5, 10] (fun v c wr => DropRel ks w v c wr) (fun _ c _ => ks.length - (intOf c).toNat)
  case atStart => exact ⟨0, by omega, rfl, Kd.R_nil _ _ _ _ _, Below.refl _ _⟩
  case round =>
    obtain ⟨i, hi, rfl, hR, hB⟩ := hrel
    obtain ⟨D, hD⟩ : ∃ D, D = (ks.take i).map keyP := ⟨_, rfl⟩
    rw [← hD] at hR
    have hDl : D.length = i := by rw [hD]; simp; omega
    obtain ⟨A1, c1, rfl⟩ := Kd.R_slice hR
    have HR := Lib.hid hR
    have HB := Lib.hid hB
    have HDd := Lib.hid hD
    clear hR hB hD
    by_cases hlt : i < ks.length
    · obtain ⟨ad, e, d0⟩ := at_s (Kd.C_below HC.out HB.out) (i : Int) (by omega) (by omega)
      cases e
      rw [Int.toNat_natCast] at d0
      have hst : (ks.take (i + 1)).map keyP = D ++ [keyP (sA ks i)] := by
        rw [HDd.out, List.take_succ_eq_append_getElem hlt, List.map_append, sA_get ks i hlt]; rfl
      obtain ⟨k, hk⟩ : ∃ k, k = sA ks i := ⟨_, rfl⟩
      rw [← hk] at d0 hst
      have Hst := Lib.hid hst
      have hkp : (⟨k, []⟩ : Pr) = keyP k := rfl
      clear hst hk
      go_wp2_with (first
        | (at_builtin; (refine Kd.R_append prK (w0 := w) w.heap.size rfl (.tmp 14) (.tmp 17) 58 63 _ 32 rfl Try.underlying58 info63 rfl (by decide) (by decide) (.slice A1 D.length c1) D (keyP k) [.string (bs k), .string (bs [])] (fun _ => True) (fun _ => False) rfl rfl (prK_mkM _ _ _ (keyP k)) (fun _ hk => hk.elim) (fun _ _ => trivial) HR.out HB.out ?s1 ?l1 ?_); (case s1 => exact HB.out.size); (case l1 => omega); intro v1 w4 hR4 hB4 hg4 hat4; have HR4 := Lib.hid hR4; have HB4 := Lib.hid hB4; clear hR4 hB4 hg4 hat4))
      go_roundw
      case rel => exact ⟨i + 1, by omega, by go_num, by rw [Hst.out]; exact HR4.out, HB4.out⟩
      case measure => simp [intOf]; omega
    · obtain rfl : i = ks.length := by omega
      have hfull : D = ks.map keyP := by rw [HDd.out, List.take_length]
      obtain ⟨A2, c2, e2, _, hC2⟩ := Kd.R_reads HR.out
      injection e2 with e3 _ e4
      subst e3 e4
      have hch := kchg_sl true a g pg m HS.out wr (HD.out.below HB.out) (Hg.out.below HB.out) D (by omega) (fun x hx => by
        rw [hfull] at hx
        obtain ⟨k, hk, rfl⟩ := List.mem_map.1 hx
        exact ⟨Hks.out k hk, by simp [keyP]⟩) A1 c1 hC2
      rw [hDl, show actF true = 65 from rfl] at hch
      have Hch := Lib.hid hch
      have Hfl := Lib.hid hfull
      clear hch hC2 hfull
      go_wp2_with fail
      refine Hch.out.mono ?_
      rintro e w1 ⟨z, rfl, h⟩
      have H := Lib.hid h
      clear h
      go_wp2
      go_ret
      have h9 := H.out
      rw [Hfl.out] at h9
      exact ⟨_, rfl, wr, HB.out, h9⟩
end Go.Proofs.Yteilmbhnbmmcjaa.B
