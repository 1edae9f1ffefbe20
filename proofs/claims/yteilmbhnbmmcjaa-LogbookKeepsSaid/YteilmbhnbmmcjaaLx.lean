/- Helper: the statement that all that was noted is there; walked. No condition. -/
import Derived.Test.YteilmbhnbmmcjaaLw
namespace Go.Proofs.Yteilmbhnbmmcjaa.B
open Go.RowKit Go.Proofs.YteilmbhnbmmcjaaW.PrintWords Go.Proofs.Yteilmbhnbmmcjaa.Later
set_option maxRecDepth 100000
set_option maxHeartbeats 3200000
theorem MdAt.mutS {S : Nat → Prop} {w w' : World} {a : Nat} {M : Md} (h : MdAt w a M) (hm : Mut S w w') (ha : ∀ cs t, Blk w a cs t → t = 94 → ¬ S a) (hS : ∀ i, S i → ∀ es cl, w.heap[i]? ≠ some (.map es cl)) : MdAt w' a M := by
  obtain ⟨np, oo, n, h1, h2, h3, h4, h5⟩ := h
  refine ⟨np, oo, n, h1.kept hm (ha _ _ h1 rfl), h2.cellsMut hm hS, h3, ?_, h5⟩
  cases hO : M.opn with
  | none => rw [hO] at h4; exact h4
  | some T =>
    rw [hO] at h4
    obtain ⟨tp, k1, k2, k3⟩ := h4
    exact ⟨tp, k1, k2.cellsMut hm hS, k3⟩
theorem blk_grown' {w w' : World} {g : Nat} {cs : Array Value} {t : TypeId} (h : Blk w g cs t) {ok : Nat → Prop} {base : Nat} {v : Value} {N : List Nt} (hR : ntK.R 45 w base ok v N) (ht : 45 ≠ t) (hg : w.grownBy w' v.ownBlock) : Blk w' g cs t :=
  (hg.block g h.lt (Kd.R_ne hR h ht)).trans h
theorem book_grown {w w' : World} {a g base : Nat} {L N : List Nt} {ok : Nat → Prop} {v : Value} (h : BookOf w a g L) (hR : ntK.R 45 w base ok v N) (hg : w.grownBy w' v.ownBlock) : BookOf w' a g L := blk_grown' h hR (by decide) hg
theorem dev_grown {sl : Bool} {w w' : World} {a base : Nat} {L N : List Nt} {ok : Nat → Prop} {v : Value} (h : DevOf sl w a L) (hR : ntK.R 45 w base ok v N) (hg : w.grownBy w' v.ownBlock) : DevOf sl w' a L := by
  obtain ⟨pg, many, h1, h2, h3⟩ := h
  exact ⟨pg, many, h1, h2, MdAt.mutS (S := fun i => some i = v.ownBlock) h3 ⟨hg.os, hg.tape, hg.output, hg.size, fun i hi hs => hg.block i hi hs⟩ (fun cs t hb ht hs => by
    subst ht
    exact Kd.R_ne hR hb (by decide) hs) (fun i hi es cl e => by
    obtain ⟨inner, ho⟩ := Kd.R_own hR
    obtain ⟨cells, hc⟩ := own_typed ho i hi.symm
    rw [hc] at e
    cases e)⟩
def KeepRel (l : List Ad) (a : Nat) (w : World) (b v c : Value) (wr : World) : Prop :=
  ∃ (i g : Nat) (N : List Nt), i ≤ l.length ∧ i ≤ 60 ∧ c = .int .i64 i ∧ b = .pointer (some ⟨g, 0, none⟩) ∧ w.heap.size ≤ g ∧ Noted N ∧ N.length ≤ i ∧ ntK.R 45 wr w.heap.size (fun _ => True) v N ∧ DevOf false wr a N ∧ BookOf wr a g N ∧ Below w.heap.size w wr
def KeepRel2 (K : List Nt) (w1 : World) (c : Value) (wr : World) : Prop := ∃ i : Nat, i ≤ K.length ∧ c = .int .i64 i ∧ Below w1.heap.size w1 wr
theorem LogbookKeeps_any (l : List Ad) (hw : ∀ x ∈ l, x.t.size ≤ 9223372036854775807) (A : Option Addr) (c : Nat) (often : Int) (w : World) (hC : Kd.C adK w A l.length l) :
    Calls Try.prog 4 #[.slice A l.length c, .int .i64 often] w fun e w' => e = .returned (.bool true) ∧ Below w.heap.size w w' := by
  obtain ⟨O, hO, hO7⟩ := and_nat 3 (by omega) 7 often rfl
  have HC := Lib.hid hC
  have HO := Lib.hid hO
  clear hC hO
  go_enter Try.func4, Try.ntmps4
  go_wp2_with fail
  refine (disk_any _).mono ?_
  rintro e w1 ⟨a, rfl, ha, hM, hB1⟩
  have HB1 := Lib.hid hB1
  clear hB1
  go_wp2_with fail
  refine (noted_make a _ hM).mono ?_
  rintro e w2 ⟨rfl, hD2, hm2⟩
  have HB2 := Lib.hid (Below.mut HB1.out hm2 HB1.out.size ha)
  clear hM hm2
  go_wp2_with fail
  refine (noted_open false [] noted_nil a _ hD2).mono ?_
  rintro e w3 ⟨g, rfl, hg, hb3, hB3⟩
  have hD3 := hD2.below hB3
  have hgw : w.heap.size ≤ g := by have := HB2.out.size; omega
  have HB3 := Lib.hid (HB2.out.trans (hB3.mono HB2.out.size))
  clear hD2 hB3 hg
  go_wp2_with fail
  refine (awake40 w3).mono ?_
  rintro e w4 ⟨rfl, hB4⟩
  have HD4 := Lib.hid (hD3.below hB4)
  have Hb4 := Lib.hid (hb3.below hB4 : BookOf w4 a g [])
  have HB4 := Lib.hid (HB3.out.trans (hB4.mono HB3.out.size))
  clear hD3 hb3 hB4
  go_wp2
  go_loopw [7, 9, 10] (fun b v c wr => KeepRel l a w b v c wr) (fun _ _ c _ => 60 - (intOf c).toNat)
  case atStart => exact ⟨0, g, [], by omega, by omega, rfl, rfl, hgw, noted_nil, by simp, R_lit0 ntK 45 w4 _ HB4.out.size, HD4.out.below ((Below.refl _ _).alloc (Nat.le_refl _) _), Blk.below Hb4.out ((Below.refl _ _).alloc (Nat.le_refl _) _), HB4.out.alloc HB4.out.size _⟩
  case round =>
    clear HD4 Hb4 HB4 HB1 HB2 HB3 hgw
    obtain ⟨i, gb, N, hi, hi60, rfl, rfl, hgw, hN, hNl, hR, hD, hb, hB⟩ := hrel
    obtain ⟨Av, cv, rfl⟩ := Kd.R_slice hR
    have HN := Lib.hid hN
    have HR := Lib.hid hR
    have HD := Lib.hid hD
    have Hb := Lib.hid hb
    have HB := Lib.hid hB
    clear hN hR hD hb hB
    by_cases hlt : i < l.length ∧ i < 60
    · obtain ⟨hl1, hl2⟩ := hlt
      obtain ⟨T, hT⟩ : ∃ T, T = (adA l i).t.data.toList := ⟨_, rfl⟩
      have hbT : bs T = (adA l i).t := by rw [hT, bs_of]
      clear hT
      obtain ⟨ad, e, d0, d1⟩ := at_ad (Kd.C_below HC.out HB.out) (i : Int) (by omega) (by omega)
      cases e
      rw [Int.toNat_natCast] at d0 d1
      rw [← hbT] at d1
      have hTs := bs_size T
      have HTl := Lib.hid (show (bs T).size ≤ 9223372036854775807 by rw [hbT]; exact hw _ (by rw [adA, List.getD_eq_getElem?_getD, List.getElem?_eq_getElem hl1]; simp))
      obtain ⟨k, hk⟩ : ∃ k, k = (adA l i).k := ⟨_, rfl⟩
      rw [← hk] at d0
      have i0 : (0 : Int) ≤ (i : Int) := by omega
      have i1 : (i : Int) < (l.length : Int) := by omega
      have i2 : (i : Int) < 60 := by omega
      have HbT := Lib.hid hbT
      have Hk := Lib.hid hk
      clear hbT hk
      have k0 := fun n => later_cell d0 n
      have k1 := fun n => later_cell d1 n
      go_upto_region 10 with fail
      refine wp_region_later_call 11 _ rfl (by kernel_rfl) (by kernel_rfl) ?_
      simp only [List.take_succ_cons, List.take_zero, List.drop_succ_cons, List.drop_zero]
      repeat go_big_quiet_step (fail)
      refine wpQuiet_nil ?_
      intro w2 hw2
      have hb2 := later_of hw2
      clear hw2 k0 k1
      have HBx := Lib.hid (HB.out.trans (hb2.mono HB.out.size))
      have HDx := Lib.hid (HD.out.below hb2)
      have Hbx := Lib.hid (Blk.below Hb.out hb2 : BookOf w2 a gb N)
      have HRx := Lib.hid (Kd.R_below HR.out hb2)
      have x0 : w2.cell? (ad.add (i * 2)) = some (.int .i64 k) := Below.cellOld hb2 d0
      have x1 : w2.cell? ⟨(ad.add (i * 2)).block, (ad.add (i * 2)).off + 1, none⟩ = some (.string (bs T)) := Below.cellOld hb2 d1
      clear hb2 d0 d1
      by_cases hbad : k < 0 ∨ 255 < k ∨ 40 < (bs T).size
      · go_wp2_with fail
        refine (add_bad gb k (bs T) HTl.out hbad w2).mono ?_
        rintro e w3 ⟨rfl, rfl⟩
        go_wp2
        refine rest_open ?_
        repeat go_big_quiet_step (fail)
        refine wpQuiet_nil ?_
        intro w4 hw4
        obtain ⟨q, rfl⟩ := hw4
        have hq := below_drewN (Below.refl w2.heap.size w2) q
        have HB4 := Lib.hid (HBx.out.trans (hq.mono HBx.out.size))
        have HD4 := Lib.hid (HDx.out.below hq)
        have Hb4 := Lib.hid (Blk.below Hbx.out hq : BookOf _ a gb N)
        have HR4 := Lib.hid (Kd.R_below HRx.out hq)
        clear hq
        obtain ⟨w5, hw5⟩ : ∃ w5, w5 = w2.drewN q := ⟨_, rfl⟩
        rw [← hw5] at HB4 HD4 Hb4 HR4 ⊢
        have y0 : w5.cell? (ad.add (i * 2)) = some (.int .i64 k) := by rw [hw5]; exact x0
        have y1 : w5.cell? ⟨(ad.add (i * 2)).block, (ad.add (i * 2)).off + 1, none⟩ = some (.string (bs T)) := by rw [hw5]; exact x1
        clear hw5 x0 x1
        by_cases hb1 : k < 0
        · clear hbad
          go_wp2
          go_roundw
          case rel => exact ⟨i + 1, gb, N, by omega, by omega, by go_num, rfl, hgw, HN.out, by omega, HR4.out, HD4.out, Hb4.out, HB4.out⟩
          case measure => simp [intOf]; omega
        · have hb1' : 0 ≤ k := by omega
          by_cases hb2 : 255 < k
          · clear hbad
            go_wp2
            go_roundw
            case rel => exact ⟨i + 1, gb, N, by omega, by omega, by go_num, rfl, hgw, HN.out, by omega, HR4.out, HD4.out, Hb4.out, HB4.out⟩
            case measure => simp [intOf]; omega
          · have hb2' : k ≤ 255 := by omega
            have hb3 : (40 : Int) < (T.length : Int) := by omega
            clear hbad
            go_wp2
            go_roundw
            case rel => exact ⟨i + 1, gb, N, by omega, by omega, by go_num, rfl, hgw, HN.out, by omega, HR4.out, HD4.out, Hb4.out, HB4.out⟩
            case measure => simp [intOf]; omega
      · obtain ⟨k, rfl⟩ := Int.eq_ofNat_of_zero_le (show 0 ≤ k by omega)
        have hk255 : (k : Int) ≤ 255 := by omega
        have hk0 : (0 : Int) ≤ (k : Int) := by omega
        have ht40 : T.length ≤ 40 := by omega
        have ht40' : (T.length : Int) ≤ 40 := by omega
        clear hbad
        obtain ⟨x, hx⟩ : ∃ x : Nt, x = ⟨N.length + 1, k, T⟩ := ⟨_, rfl⟩
        have hN2 : Noted (N ++ [x]) := by rw [hx]; exact HN.out.snoc k T (by omega) ht40 (by omega)
        have hA := noted_add N HN.out a gb k T (by omega) ht40 w2 HDx.out Hbx.out
        rw [← hx] at hA
        have hl2' : (N ++ [x]).length = N.length + 1 := by simp
        obtain ⟨N2, hN2e⟩ : ∃ L, L = N ++ [x] := ⟨_, rfl⟩
        rw [← hN2e] at hA hN2 hl2'
        rw [← hl2'] at hA
        have HA := Lib.hid hA
        have HN2 := Lib.hid hN2
        have Hx := Lib.hid hx
        have HN2e := Lib.hid hN2e
        clear hA hN2 hx hN2e
        go_wp2_with fail
        refine HA.out.mono ?_
        rintro e w3 ⟨rfl, hD3, hb3, hm3⟩
        have HB3 := Lib.hid (HBx.out.trans (hm3.below HBx.out.size (fun i hi e => by rcases e with e | e <;> omega)))
        have HR3 := Lib.hid (R_dev HRx.out HDx.out Hbx.out hm3)
        have HD3 := Lib.hid hD3
        have Hb3 := Lib.hid hb3
        clear hD3 hb3 hm3 HA
        go_wp2
        refine rest_open ?_
        repeat go_big_quiet_step (fail)
        refine wpQuiet_nil ?_
        intro w4 hw4
        obtain ⟨q, hw4⟩ := hw4
        have hq : Below w3.heap.size w3 w4 := by rw [hw4]; exact below_drewN (Below.refl w3.heap.size w3) q
        clear hw4 x0 x1
        have HB4 := Lib.hid (HB3.out.trans (hq.mono HB3.out.size))
        have HD4 := Lib.hid (HD3.out.below hq)
        have Hb4 := Lib.hid (Blk.below Hb3.out hq : BookOf w4 a gb N2)
        have HR4 := Lib.hid (Kd.R_below HR3.out hq)
        clear hq
        obtain ⟨ad2, e, y0, y1⟩ := at_ad (Kd.C_below HC.out HB4.out) (i : Int) (by omega) (by omega)
        cases e
        rw [Int.toNat_natCast] at y0 y1
        rw [← HbT.out] at y1
        have Hk2 := Lib.hid (show (adA l i).k = (k : Int) from Hk.out.symm)
        rw [Hk2.out] at y0
        have hNl60 : (N.length : Int) ≤ 60 := by omega
        go_upto_region 14 with fail
        have hM := show ntK.M (w4.drewN 1) w.heap.size (fun _ => False) x [.int .i64 ((N.length : Int) + 1), .int .i64 (k : Int), .string (bs T)] by rw [Hx.out]; simpa using ntK_mkM (w4.drewN 1) w.heap.size (fun _ => False) ⟨N.length + 1, k, T⟩
        have HM := Lib.hid hM
        have HCe := Lib.hid (show ∀ W, Below w.heap.size w W → W.cell? (ad.add (i * 2)) = some (.int .i64 (k : Int)) ∧ W.cell? ⟨(ad.add (i * 2)).block, (ad.add (i * 2)).off + 1, none⟩ = some (.string (bs T)) from fun W hW => (by
          obtain ⟨ad3, e, z0, z1⟩ := at_ad (Kd.C_below HC.out hW) (i : Int) (by omega) (by omega)
          cases e
          rw [Int.toNat_natCast, Hk2.out] at z0
          rw [Int.toNat_natCast, ← HbT.out] at z1
          exact ⟨z0, z1⟩))
        have HB4' := Lib.hid (below_drewN HB4.out 1)
        have HR4' := Lib.hid (Kd.R_below HR4.out (below_drewN (Below.refl _ _) 1))
        clear hM
        have hwrap : IntKind.i64.wrap ((N.length : Int) + 1) = (N.length : Int) + 1 := IntWalk.i64_in _ (by omega)
        go_region_held3 (fun w' => w'.cell? (ad.add (i * 2)) = some (.int .i64 (k : Int)) ∧ w'.cell? ⟨(ad.add (i * 2)).block, (ad.add (i * 2)).off + 1, none⟩ = some (.string (bs T)))
          (first | go_keep | (exact HCe.out _ hB6) | (exact HCe.out _ (HB4'.out.alloc HB4'.out.size _)))
          ((refine Kd.R_append_step ntK (w0 := w) (W := w4.drewN 1) w.heap.size (by rfl) (.tmp 100) (.tmp 115) 39 45 _ 32 (by rfl) Try.underlying39 info45 rfl (by decide) (by decide) (.slice Av N.length cv) N x [.int .i64 ((N.length : Int) + 1), .int .i64 (k : Int), .string (bs T)] (fun _ => True) (fun _ => False) (by rfl) (by rfl) HM.out (fun _ hk => hk.elim) (fun _ _ => trivial) HR4'.out HB4'.out HB4'.out.size (by omega) ?_; intro v1 w6 hR6 hB6 hg6 hat6))
        rw [← HN2e.out] at hR6
        obtain ⟨A6, c6, rfl⟩ := Kd.R_slice hR6
        have HD6 := Lib.hid (dev_grown (HD4.out.below (below_drewN (Below.refl _ _) 1)) HR4'.out hg6)
        have Hb6 := Lib.hid (book_grown (Blk.below Hb4.out (below_drewN (Below.refl _ _) 1)) HR4'.out hg6 : BookOf w6 a gb N2)
        have HR6 := Lib.hid hR6
        have HB6 := Lib.hid hB6
        clear hR6 hB6 hg6 hat6 y0 y1
        clear hwrap
        have hl6 := last_any a gb 4 64 N2.length (ntsB (bk ntSz N2).cur) (bk ntSz N2).page w6 Hb6.out
        have Hl6 := Lib.hid hl6
        clear hl6
        have hO := HO.out
        have hO0 : (0 : Int) ≤ (O : Int) := by omega
        go_wp2_with fail
        refine Hl6.out.mono ?_
        rintro e w7 ⟨rfl, rfl⟩
        cases hr : ((i : Int) % (1 + (O : Int)) == 0)
        · go_wp2
          go_roundw
          case rel => exact ⟨i + 1, gb, N2, by omega, by omega, by go_num, rfl, hgw, HN2.out, by omega, (by have := HR6.out; rw [hl2'] at this; exact this), HD6.out, Hb6.out, HB6.out⟩
          case measure => simp [intOf]; omega
        · go_wp2_with fail
          refine (noted_open false N2 HN2.out a w6 HD6.out).mono ?_
          rintro e w7 ⟨gn, rfl, hgn, hbn, hBn⟩
          have hgnw : w.heap.size ≤ gn := by have := HB6.out.size; omega
          have HD7 := Lib.hid (HD6.out.below hBn)
          have HR7 := Lib.hid (Kd.R_below HR6.out hBn)
          have HB7 := Lib.hid (HB6.out.trans (hBn.mono HB6.out.size))
          have Hbn := Lib.hid hbn
          clear hBn hbn hgn
          go_wp2
          go_roundw
          case rel => exact ⟨i + 1, gn, N2, by omega, by omega, by go_num, rfl, hgnw, HN2.out, by omega, (by have := HR7.out; rw [hl2'] at this; exact this), HD7.out, Hbn.out, HB7.out⟩
          case measure => simp [intOf]; omega
    · have hN60 := HN.out.few
      obtain ⟨m0, hm0, hK⟩ := kept_drop ntSz N 6
      have hA := noted_all false N HN.out a gb wr HD.out Hb.out
      rw [hK] at hA
      have hNt := fun n W h1 h2 => noted_note false N HN.out a gb n W h1 h2
      rw [hK] at hNt
      have HA := Lib.hid hA
      have HNt := Lib.hid hNt
      have HK := Lib.hid hK
      obtain ⟨K, hKe⟩ : ∃ K, K = N.drop m0 := ⟨_, rfl⟩
      have hKl : K.length = N.length - m0 := by rw [hKe]; simp
      rw [← hKe] at HA HNt HK
      have HKe := Lib.hid hKe
      have HKl := Lib.hid hKl
      have hKb : K.length ≤ 60 := by omega
      have hKb2 : K.length ≤ N.length := by omega
      clear hA hNt hK hKe hKl
      have hcase : ((60 : Int) ≤ (i : Int) ∧ (i : Int) < (l.length : Int)) ∨ (l.length : Int) ≤ (i : Int) := by omega
      rcases hcase with ⟨hl1, hl2⟩ | hl1
      all_goals
        go_wp2_with fail
        refine HA.out.mono ?_
        rintro e w2 ⟨⟨v, rfl, hR2⟩, hB2⟩
        have HB2 := Lib.hid (HB.out.trans (hB2.mono HB.out.size))
        have HD2 := Lib.hid (HD.out.below hB2)
        have Hb2 := Lib.hid (Blk.below Hb.out hB2 : BookOf w2 a gb N)
        have HRa := Lib.hid (Kd.R_below HR.out hB2)
        have HRl := Lib.hid (Kd.R_lower hR2 HB.out.size)
        clear hB2 hR2 HA
        obtain ⟨Al, cl, rfl, hll, hCl⟩ := Kd.R_reads HRl.out
        have HCl := Lib.hid hCl
        clear hCl hll
        obtain ⟨_, _, e, hla, hCa⟩ := Kd.R_reads HRa.out
        cases e
        go_wp2_with fail
        have hpg := pages_any N HN.out.ok (by omega) Av cv w2 hCa
        rw [HK.out] at hpg
        refine hpg.mono ?_
        rintro e w3 ⟨⟨v3, rfl, hR3⟩, hB3⟩
        have HB3 := Lib.hid (HB2.out.trans (hB3.mono HB2.out.size))
        have HD3 := Lib.hid (HD2.out.below hB3)
        have Hb3 := Lib.hid (Blk.below Hb2.out hB3 : BookOf w3 a gb N)
        have HC3 := Lib.hid (Kd.C_below HCl.out hB3)
        obtain ⟨Aw, cw, rfl, hlw, hCw⟩ := Kd.R_reads hR3
        have HCw := Lib.hid hCw
        clear hpg hCa hla hR3 hB3 hlw hCw HRa HRl HCl HB2 HD2 Hb2 HR HB HD Hb
        have hKs := HK.out
        go_wp2
        obtain ⟨wo, hwo⟩ : ∃ wo : World, wo = w3 := ⟨_, rfl⟩
        rw [← hwo] at HB3 HD3 Hb3 HC3 HCw ⊢
        clear hwo
        go_loopw [18] (fun c wr => KeepRel2 K wo c wr) (fun c _ => K.length - (intOf c).toNat)
        case atStart => exact ⟨0, by omega, rfl, Below.refl _ _⟩
        case round =>
          obtain ⟨j, hj, rfl, hBj⟩ := hrel
          have HBj := Lib.hid hBj
          clear hBj
          by_cases hjl : j < K.length
          · obtain ⟨x, hx⟩ : ∃ x, x = ntA K j := ⟨_, rfl⟩
            have hv : noteV K N.length x.n = (x.val, 0) := by
              have := kept_note N HN.out m0 j hm0 (by rw [← HKe.out]; exact hjl)
              rw [← HKe.out, ← hx] at this
              exact this
            have hc := HNt.out x.n wr (HD3.out.below HBj.out) (Blk.below Hb3.out HBj.out)
            rw [hv] at hc
            have Hc := Lib.hid (show Calls Try.prog 22 #[.pointer (some ⟨gb, 0, none⟩), .int .i64 x.n] wr fun e w' => e = .returned (.tuple #[.agg #[.int .i64 x.n, .int .i64 x.k, .string (bs x.t)], .int .i64 0]) ∧ Below wr.heap.size wr w' from hc)
            clear hc hv
            obtain ⟨ad, e, d0, d1, d2⟩ := at_nt (Kd.C_below HCw.out HBj.out) (j : Int) (by omega) (by omega)
            cases e
            rw [Int.toNat_natCast, ← hx] at d0 d1 d2
            have hj0 : (0 : Int) ≤ (j : Int) := by omega
            have hj1 : (j : Int) < (K.length : Int) := by omega
            have Hx := Lib.hid hx
            clear hx
            go_wp2_with fail
            refine Hc.out.mono ?_
            rintro e w5 ⟨rfl, hB5⟩
            have HB5 := Lib.hid (HBj.out.trans (hB5.mono HBj.out.size))
            clear hB5 d0 d1 d2 Hc
            go_upto_region 30 with fail
            obtain ⟨w6, hw6⟩ : ∃ w6, w6 = w5.alloc (.cells #[.int .i64 x.n, .int .i64 x.k, .string (bs x.t)] 45) := ⟨_, rfl⟩
            rw [← hw6]
            have hb6 : Below w5.heap.size w5 w6 := by rw [hw6]; exact (Below.refl _ _).alloc (Nat.le_refl _) _
            have hx6 : Blk w6 w5.heap.size #[.int .i64 x.n, .int .i64 x.k, .string (bs x.t)] 45 := by rw [hw6]; exact Blk.new w5 _ 45
            have HB6 := Lib.hid (HB5.out.trans (hb6.mono HB5.out.size))
            have x0 : w6.cell? ⟨w5.heap.size, 0, none⟩ = some (.int .i64 x.n) := hx6.cell 0
            have x1 : w6.cell? ⟨w5.heap.size, 1, none⟩ = some (.int .i64 x.k) := hx6.cell 1
            have x2 : w6.cell? ⟨w5.heap.size, 2, none⟩ = some (.string (bs x.t)) := hx6.cell 2
            clear hw6 hb6 hx6
            obtain ⟨ad1, e, d0, d1, d2⟩ := at_nt (Kd.C_below HCw.out HB6.out) (j : Int) (by omega) (by omega)
            obtain ⟨ad2, e2, f0, f1, f2⟩ := at_nt (Kd.C_below HC3.out HB6.out) (j : Int) (by omega) (by omega)
            cases e
            cases e2
            rw [Int.toNat_natCast, ← Hx.out] at d0 d1 d2 f0 f1 f2
            have hne := ne45 x.n x.k (bs x.t)
            go_quiet (fail)
            go_wp2
            go_roundw
            case rel => exact ⟨j + 1, by omega, by go_num, below_drewN HB6.out _⟩
            case measure => simp [intOf]; omega
          · obtain rfl : j = K.length := by omega
            have em : (N.length : Int) - (K.length : Int) = (m0 : Int) := by have := HKl.out; omega
            have hv0 := gone_note N HN.out m0 hm0
            rw [← HKe.out, ← em] at hv0
            rcases (show (noteV K N.length ((N.length : Int) - (K.length : Int)) = (ntZ, 400) ∧ (K.length : Int) < (N.length : Int)) ∨ (noteV K N.length ((N.length : Int) - (K.length : Int)) = (ntZ, 181) ∧ (N.length : Int) ≤ (K.length : Int)) by
              rw [hv0]
              by_cases h1 : 1 ≤ m0
              · left; rw [if_pos h1]; exact ⟨rfl, by omega⟩
              · right; rw [if_neg h1]; exact ⟨rfl, by omega⟩) with ⟨hv1, hlt8⟩ | ⟨hv1, hlt8⟩
            all_goals
              clear em hv0
              have hv2 : noteV K N.length ((N.length : Int) + 1) = (ntZ, 181) := by
                rw [HKe.out]; exact later_note N HN.out m0 hm0
              have hc1 := HNt.out ((N.length : Int) - (K.length : Int)) wr (HD3.out.below HBj.out) (Blk.below Hb3.out HBj.out)
              rw [hv1] at hc1
              have hc2 := fun W h1 h2 => HNt.out ((N.length : Int) + 1) W h1 h2
              rw [hv2] at hc2
              have Hc1 := Lib.hid hc1
              have Hc2 := Lib.hid hc2
              have hek := eq45 0 0 ⟨#[]⟩
              clear hv1 hv2 hc1 hc2
              unfold ntZ at Hc1 Hc2
              go_wp2_with fail
              refine Hc1.out.mono ?_
              rintro e w5 ⟨rfl, hB5⟩
              have HB5 := Lib.hid (HBj.out.trans (hB5.mono HBj.out.size))
              clear hB5 Hc1
              go_wp2_with fail
              obtain ⟨w6, hw6⟩ : ∃ w6, w6 = w5.alloc (.cells #[.int .i64 0, .int .i64 0, .string ⟨#[]⟩] 45) := ⟨_, rfl⟩
              rw [← hw6]
              have hb6 : Below w5.heap.size w5 w6 := by rw [hw6]; exact (Below.refl _ _).alloc (Nat.le_refl _) _
              have hx6 : Blk w6 w5.heap.size #[.int .i64 0, .int .i64 0, .string ⟨#[]⟩] 45 := by rw [hw6]; exact Blk.new w5 _ 45
              have HB6 := Lib.hid (HB5.out.trans (hb6.mono HB5.out.size))
              have Hx6 := Lib.hid hx6
              clear hw6 hb6 hx6
              refine (Hc2.out w6 (HD3.out.below HB6.out) (Blk.below Hb3.out HB6.out)).mono ?_
              rintro e w7 ⟨rfl, hB7⟩
              have hx7 := Hx6.out.below hB7
              have x0 : w7.cell? ⟨w5.heap.size, 0, none⟩ = some (.int .i64 0) := hx7.cell 0
              have x1 : w7.cell? ⟨w5.heap.size, 1, none⟩ = some (.int .i64 0) := hx7.cell 1
              have x2 : w7.cell? ⟨w5.heap.size, 2, none⟩ = some (.string ⟨#[]⟩) := hx7.cell 2
              have hlt7 := hx7.lt
              have HB7 := Lib.hid (HB6.out.trans (hB7.mono HB6.out.size))
              clear hB7 hx7 Hc2
              go_wp2
              go_ret
              refine ⟨?_, HB3.out.trans ((HB7.out.alloc HB7.out.size _).mono HB3.out.size)⟩
              first
                | rfl
                | (show Ending.returned (.bool (!decide (K.length < N.length))) = _; rw [decide_eq_false (by omega)]; rfl)
end Go.Proofs.Yteilmbhnbmmcjaa.B
