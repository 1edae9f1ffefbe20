/- Helper: the statement that keys have what they were set to last; walked. No condition. -/
import Derived.Test.YteilmbhnbmmcjaaNh
namespace Go.Proofs.Yteilmbhnbmmcjaa.B
open Go.RowKit Go.Proofs.YteilmbhnbmmcjaaW.PrintWords Go.Proofs.Yteilmbhnbmmcjaa.Later
set_option maxRecDepth 100000
set_option maxHeartbeats 3200000
theorem info9 : (Try.prog.info? 9).map (fun i => (i.zero, i.size, i.bytes)) = some (some (.string ⟨#[]⟩), 1, 16) := by kernel_rfl
theorem R_empty {α : Type} (d : Kd α) {w : World} {base g e : Nat} (hb : Blk w g #[] e) (hg : base ≤ g) : d.R e w base (fun _ => True) (.slice (some ⟨g, 0, none⟩) 0 0) [] :=
  ⟨fun _ _ => trivial, [], ⟨by simp, .inr ⟨g, 0, #[], rfl, hg, hb, by simp, by simp [maxLen], by simp, by simp⟩⟩, Reps.none _ _⟩
/-- A row of the call's own may stand through a change of the device. -/
theorem R_dev {w w' : World} {base a : Nat} {v : Value} {xs : List Pr} {pg : Nat → Option (List UInt8)} (h : prK.R 63 w base (fun _ => True) v xs) (hD : KvDev w a pg) (hm : Mut (only a) w w') : prK.R 63 w' base (fun _ => True) v xs := by
  obtain ⟨F, many, _, _, _, np, oo, n, hb, _⟩ := hD
  exact R_mut h hb (fun q hq => by rw [prK_E] at hq; obtain rfl := List.mem_singleton.1 hq; decide) hm
/-- Another row of strings was appended to. -/
theorem R_str {w w' : World} {base base' : Nat} {v u : Value} {xs : List Pr} {ys : List (List UInt8)} (h : prK.R 63 w base (fun _ => True) v xs) (hs : sK.R 9 w base' (fun _ => True) u ys) (hg : w.grownBy w' u.ownBlock) : prK.R 63 w' base (fun _ => True) v xs := by
  obtain ⟨_, inner, ⟨_, ho⟩, _⟩ := hs
  rcases ho with ⟨rfl, _⟩ | ⟨q, cap, cur, rfl, hq, hh, _⟩
  · exact Kd.R_step h (fun k _ hk => hg.block k hk (by simp [Value.ownBlock]))
  · exact R_mut h (show Blk w q cur 9 from hh) (fun q hq => by rw [prK_E] at hq; obtain rfl := List.mem_singleton.1 hq; decide) ((mut_grown hg).mono (fun k _ hk => by have : q = k := Option.some.inj hk; exact this.symm))
def InRel (b : Bool) (m Y : List Pr) (base : Nat) (w8 : World) (n q s c : Value) (wr : World) : Prop :=
  ∃ k : Nat, k ≤ Y.length ∧ c = .int .i64 k ∧ q = .int .i64 (if (Y.take k).any (bd b) = true then 1 else 0) ∧ prK.R 63 wr base (fun _ => True) n (foldA b m Y k) ∧ sK.R 9 wr w8.heap.size (fun _ => True) s ((Y.take k).map Pr.k) ∧ Below w8.heap.size w8 wr
def GetRel (m : List Pr) (w : World) (c : Value) (wr : World) : Prop := ∃ j : Nat, j ≤ m.length ∧ c = .int .i64 j ∧ Below w.heap.size w wr
/-- The key of the last question. -/
def nob : List UInt8 := [110, 111, 98, 111, 100, 121, 32, 104, 97, 115, 32, 116, 104, 105, 115]
def NobRel (m : List Pr) (nb : List UInt8) (w : World) (c : Value) (wr : World) : Prop := ∃ j : Nat, j ≤ m.length ∧ c = .int .i64 j ∧ (∀ q, q < j → (prA m q).k ≠ nb) ∧ Below w.heap.size w wr
def PlayRel (a : Nat) (w : World) (s v c : Value) (wr : World) : Prop :=
  ∃ (i g : Nat) (m : List Pr) (pg : Nat → Option (List UInt8)), i ≤ 25 ∧ c = .int .i64 i ∧ s = .pointer (some ⟨g, 0, none⟩) ∧ g ≠ a ∧ Blk wr g (stC a) 113 ∧ Says pg m ∧ KvDev wr a pg ∧ prK.R 63 wr w.heap.size (fun _ => True) v m ∧ Below w.heap.size w wr
theorem KvPlays_any (l : List Ac) (hl : ∀ x ∈ l, ∀ y ∈ x.l, Fine y) (_hll : l.length ≤ 9223372036854775807) (A : Option Addr) (c : Nat) (w : World) (hC : Kd.C acK w A l.length l) :
    Calls Try.prog 8 #[.slice A l.length c] w fun e w' => e = .returned (.bool true) ∧ Below w.heap.size w w' := by
  have HC := Lib.hid hC
  have Hl := Lib.hid hl
  clear hC hl
  go_enter Try.func8, Try.ntmps8
  go_wp2_with fail
  refine (kdisk_any w).mono ?_
  rintro e w1 ⟨a, rfl, ha, hM, hB1⟩
  have HB1 := Lib.hid hB1
  have HM := Lib.hid hM
  clear hB1 hM
  go_wp2_with fail
  refine (kmake_ok a w1 HM.out).mono ?_
  rintro e w2 ⟨rfl, h2, hm2⟩
  have H2 := Lib.hid (kvdev_new _ _ _ h2)
  have HB2 := Lib.hid (Below.mut HB1.out hm2 HB1.out.size ha)
  clear h2 hm2 HM HB1
  go_wp2_with fail
  refine (kopen_size a 64 w2).mono ?_
  rintro e w3 ⟨⟨v, rfl, hv⟩, hb3⟩
  obtain ⟨rfl, hg⟩ := hv rfl
  have hga : w2.heap.size ≠ a := by
    obtain ⟨F, many, _, _, _, ⟨np, oo, n, hb, _⟩⟩ := H2.out
    have := Blk.lt hb
    omega
  obtain ⟨g, hg'⟩ : ∃ g, g = w2.heap.size := ⟨_, rfl⟩
  rw [← hg'] at hg hga ⊢
  have H3 := Lib.hid (H2.out.below hb3)
  have HB3 := Lib.hid (HB2.out.trans (hb3.mono HB2.out.size))
  have Hg := Lib.hid hg
  have e0 : openE 64 = 0 := rfl
  rw [e0]
  clear hv hb3 hg hg' H2 HB2 e0
  go_wp2_with fail
  refine (awake_any w3).mono ?_
  rintro e w4 ⟨rfl, hb4⟩
  have H4 := Lib.hid (H3.out.below hb4)
  have HB4 := Lib.hid (HB3.out.trans (hb4.mono HB3.out.size))
  have Hg4 := Lib.hid (Hg.out.below hb4)
  clear hb4 H3 HB3 Hg
  go_upto_region 7 with fail
  obtain ⟨w5, hw5⟩ : ∃ w5, w5 = w4.alloc (.cells #[] 63) := ⟨_, rfl⟩
  rw [← hw5]
  have hb5 : Below w4.heap.size w4 w5 := by rw [hw5]; exact (Below.refl _ _).alloc (Nat.le_refl _) _
  have hr5 : prK.R 63 w5 w.heap.size (fun _ => True) (.slice (some ⟨w4.heap.size, 0, none⟩) 0 0) [] := R_empty prK (by rw [hw5]; exact Blk.new w4 _ 63) HB4.out.size
  have HR5 := Lib.hid hr5
  have H5 := Lib.hid (H4.out.below hb5)
  have HB5 := Lib.hid (HB4.out.trans (hb5.mono HB4.out.size))
  have Hg5 := Lib.hid (Hg4.out.below hb5)
  have Hga := Lib.hid hga
  clear hw5 hb5 hr5 H4 HB4 Hg4 hga
  go_wp2
  go_loopw [5, 7, 8] (fun s v c wr => PlayRel a w s v c wr) (fun _ _ c _ => 25 - (intOf c).toNat)
  case atStart => exact ⟨0, g, [], fun _ => none, by omega, rfl, rfl, Hga.out, Hg5.out, Says.none, H5.out, HR5.out, HB5.out⟩
  case round =>
    obtain ⟨i, g, m, pg, hi, rfl, rfl, hga, hg, hS, hD, hR, hB⟩ := hrel
    have Hg := Lib.hid hg
    have Hga := Lib.hid hga
    have HS := Lib.hid hS
    have HD := Lib.hid hD
    have HR := Lib.hid hR
    have HB := Lib.hid hB
    clear hg hga hS hD hR hB HR5 H5 HB5 Hg5
    by_cases hlt : i < l.length ∧ i < 25
    · as_aux_lemma =>
        obtain ⟨h1, h2⟩ := hlt
        obtain ⟨ad, e, d0, B, cc, hcc, d1, hCx⟩ := at_ac (Kd.C_below HC.out HB.out) (i : Int) (by omega) (by omega)
        cases e
        rw [Int.toNat_natCast] at d0 hcc d1 hCx
        obtain ⟨x, hx⟩ : ∃ x, x = acA l i := ⟨_, rfl⟩
        rw [← hx] at d0 hcc d1 hCx
        have hxf : ∀ y ∈ x.l, Fine y := by rw [hx, acA_get l i h1]; exact Hl.out _ (List.getElem_mem _)
        obtain ⟨kind, hkind⟩ : ∃ n, n = x.k := ⟨_, rfl⟩
        obtain ⟨X, hX⟩ : ∃ n, n = x.l := ⟨_, rfl⟩
        rw [← hkind] at d0
        rw [← hX] at hcc d1 hCx hxf
        obtain ⟨Y, hY⟩ : ∃ Y, Y = X.take 5 := ⟨_, rfl⟩
        have hYl : Y.length = min X.length 5 := by rw [hY, List.length_take, Nat.min_comm]
        have hCy : Kd.C prK wr B Y.length Y := by
          have := Kd.C_take (m := min X.length 5) hCx (Nat.min_le_left _ _)
          rw [show X.take (min X.length 5) = Y by rw [hY]; apply List.take_eq_take_iff.2; omega] at this
          exact this
        have hyf : ∀ y ∈ Y, Fine y := fun y hy => hxf y (List.mem_of_mem_take (by rw [← hY]; exact hy))
        obtain ⟨XL, hXL⟩ : ∃ n, n = X.length := ⟨_, rfl⟩
        rw [← hXL] at hcc d1 hYl
        have hcut : ∀ W, (Instr.slice 58 (.slice B XL cc) none (some (.int .i64 (min (XL : Int) 5))) none).run Try.prog W = .ok (.slice B Y.length cc) W := fun W => by
          have e : (min (XL : Int) 5).toNat = Y.length := by rw [hYl]; omega
          have := cut_to (P := Try.prog) 58 63 .i64 Try.underlying58 (i := Try.t63) (by kernel_rfl) B XL cc (min (XL : Int) 5) (by omega) (by omega) hcc W
          rw [e] at this
          exact this
        obtain ⟨YL, hYL⟩ : ∃ n, n = Y.length := ⟨_, rfl⟩
        have hY5 : YL ≤ 5 := by omega
        rw [← hYL] at hcut
        have HCy := Lib.hid hCy
        have Hyf := Lib.hid hyf
        have HYL := Lib.hid hYL
        have i1 : (i : Int) < (l.length : Int) := by omega
        have i2 : (i : Int) < 25 := by omega
        have k0 := fun n => later_cell d1 n
        clear hx hxf hkind hX hCx hY hYl hXL hYL hcc hCy hyf
        go_upto_region 10 with fail
        refine wp_region_later (by kernel_rfl) (by kernel_rfl) ?_
        repeat go_big_quiet_step (fail)
        refine wpQuiet_nil ?_
        intro w8 hw8
        have hb8 := later_of hw8
        have y0 := Below.cellOld hb8 d0
        have HCy8 := Lib.hid (Kd.C_below HCy.out hb8)
        have HD8 := Lib.hid (HD.out.below hb8)
        have HR8 := Lib.hid (Kd.R_below HR.out hb8)
        have Hg8 := Lib.hid (Hg.out.below hb8)
        have HB8 := Lib.hid (HB.out.trans (hb8.mono HB.out.size))
        clear hw8 k0 hb8 d0 d1 hcut HCy HD HR Hg HB
        obtain ⟨b, hb1⟩ : ∃ b, decide ((2 : Int) < kind) = b := ⟨_, rfl⟩
        have hb2 : decide (kind < (3 : Int)) = !b := by
          rw [← hb1]
          by_cases h : (2 : Int) < kind
          · simp [h]; omega
          · simp [h]; omega
        go_upto_region 12 with fail
        obtain ⟨w9, hw9⟩ : ∃ w9, w9 = w8.alloc (.cells #[] 9) := ⟨_, rfl⟩
        rw [← hw9]
        have hb9 : Below w8.heap.size w8 w9 := by rw [hw9]; exact (Below.refl _ _).alloc (Nat.le_refl _) _
        have hs9 : sK.R 9 w9 w8.heap.size (fun _ => True) (.slice (some ⟨w8.heap.size, 0, none⟩) 0 0) [] := R_empty sK (by rw [hw9]; exact Blk.new w8 _ 9) (Nat.le_refl _)
        have HR9 := Lib.hid (Kd.R_below HR8.out hb9)
        have HS9 := Lib.hid hs9
        have HB9 := Lib.hid hb9
        obtain ⟨N8, hN8⟩ : ∃ n, n = w8.heap.size := ⟨_, rfl⟩
        rw [← hN8]
        have HN8 := Lib.hid hN8
        clear hw9 hb9 hs9 hN8
        have hz9 : (.slice (some ⟨N8, 0, none⟩) 0 0 : Value) = .slice (some ⟨w8.heap.size, 0, none⟩) 0 0 := by rw [HN8.out]
        have Hz9 := Lib.hid hz9
        clear hz9
        go_wp2
        go_loopw [10, 11, 12, 13] (fun n q s c wr => InRel b m Y w.heap.size w8 n q s c wr) (fun _ _ _ c _ => YL - (intOf c).toNat)
        case atStart => exact ⟨0, by omega, rfl, rfl, HR9.out, by rw [Hz9.out]; exact HS9.out, HB9.out⟩
        case round =>
          obtain ⟨k, hk, rfl, rfl, hR, hs, hB⟩ := hrel
          have HRr := Lib.hid hR
          have HSr := Lib.hid hs
          have HBr := Lib.hid hB
          clear hR hs hB HR9 HS9 HB9
          rw [← HYL.out] at hk
          by_cases hky : k < YL
          · as_aux_lemma =>
              have hmY : m.length ≤ 260 := says_len HS.out HD8.out.choose_spec.choose_spec.2.2.1
              have hNl : (foldA b m Y k).length ≤ 265 := by have := foldA_len b m Y k; omega
              have hNs := st_foldA (b := b) HS.out.st Y k
              have hnx : foldA b m Y (k + 1) = wF (foldA b m Y k) b (prA Y k) := (wF_act1 hNs b _).symm
              have hkY : k < Y.length := by rw [← HYL.out]; exact hky
              have htk : Y.take (k + 1) = Y.take k ++ [prA Y k] := by rw [List.take_succ_eq_append_getElem hkY, prA_get Y k hkY]
              have hyF : Fine (prA Y k) := Hyf.out _ (by rw [prA_get Y k hkY]; exact List.getElem_mem _)
              obtain ⟨N, hN⟩ : ∃ N, N = foldA b m Y k := ⟨_, rfl⟩
              rw [← hN] at HRr hnx hNl
              obtain ⟨A1, c1, rfl⟩ := Kd.R_slice HRr.out
              obtain ⟨ks, hks⟩ : ∃ ks, ks = (Y.take k).map Pr.k := ⟨_, rfl⟩
              rw [← hks] at HSr
              have hksl : ks.length = k := by rw [hks, List.length_map, List.length_take]; omega
              obtain ⟨A2, c2, rfl⟩ := Kd.R_slice HSr.out
              obtain ⟨q, hq⟩ : ∃ q : Int, q = if (Y.take k).any (bd b) = true then 1 else 0 := ⟨_, rfl⟩
              rw [← hq]
              obtain ⟨ad2, e2, d0, d1⟩ := at_pr (Kd.C_below HCy8.out HBr.out) (k : Int) (by omega) (by omega)
              cases e2
              rw [Int.toNat_natCast] at d0 d1
              have y1 := Below.cellOld HBr.out y0
              obtain ⟨y, hy⟩ : ∃ y, y = prA Y k := ⟨_, rfl⟩
              rw [← hy] at d0 d1 hnx htk hyF
              have hks2 : (Y.take (k + 1)).map Pr.k = ks ++ [y.k] := by rw [htk, List.map_append, hks]; rfl
              have hq2 : (if (Y.take (k + 1)).any (bd b) = true then (1 : Int) else 0) = if bd b y = true then 1 else q := by
                rw [htk, List.any_append, List.any_cons, List.any_nil, Bool.or_false, hq]
                cases bd b y <;> cases (Y.take k).any (bd b) <;> simp
              have j0 : (0 : Int) ≤ (k : Int) := by omega
              have j1 : (k : Int) < (YL : Int) := by omega
              have hA : (Kd.R_reads HRr.out).choose = (Kd.R_reads HRr.out).choose := rfl
              obtain ⟨_, _, eN, _, hCN⟩ := Kd.R_reads HRr.out
              injection eN with eN1 _ eN2
              subst eN1 eN2
              have hwa := fun W (hW : Below wr.heap.size wr W) => with_any N (by omega) y b A1 c1 W (Kd.C_below hCN hW)
              rw [← hnx] at hwa
              have Hwa := Lib.hid hwa
              have Hks2 := Lib.hid hks2
              have Hq2 := Lib.hid hq2
              have Hnx := Lib.hid hnx
              have Hksl := Lib.hid hksl
              have hK1 := hyF.1
              have hK2 := hyF.2
              have hlg1 := fun W => lgood_any y.k y.v hK1 hK2 W
              have hlg2 := fun W => lgood_any y.k [] hK1 (by simp) W
              have hbd : bd b y = !goodK y.k (if b then [] else y.v) := rfl
              have hgg : goodK y.k y.v = true → goodK y.k [] = true := fun h => by
                obtain ⟨g1, g2, _⟩ := (goodK_iff _ _).1 h
                exact (goodK_iff _ _).2 ⟨g1, g2, by simp⟩
              obtain ⟨g1, hg1⟩ : ∃ g, g = goodK y.k y.v := ⟨_, rfl⟩
              obtain ⟨g2, hg2⟩ : ∃ g, g = goodK y.k [] := ⟨_, rfl⟩
              obtain ⟨bb, hbb⟩ : ∃ t, t = bd b y := ⟨_, rfl⟩
              rw [← hg1] at hlg1 hgg
              rw [← hg2] at hlg2 hgg
              have hres : bb = !(if b then g2 else g1) := by
                rw [hbb, hbd, hg1, hg2]; cases b <;> rfl
              rw [← hbb] at Hq2
              have Hg1 := Lib.hid hlg1
              have Hg2 := Lib.hid hlg2
              have Hres := Lib.hid hres
              have Hgg := Lib.hid hgg
              clear hN hks hq hy hks2 hq2 hnx hksl hNs htk hyF hA hCN hwa hK1 hK2 hlg1 hlg2 hbd hgg hg1 hg2 hbb hres hkY
              go_upto_region 15 with fail
              go_cut [98] (fun t wx => t = .bool bb ∧ Below wr.heap.size wr wx)
              case first =>
                as_aux_lemma =>
                  go_wp2_with fail
                  refine (Hg1.out wr).mono ?_
                  rintro e wa ⟨rfl, hba⟩
                  have z0 := Below.cellOld hba y1
                  have z1 := Below.cellOld hba d0
                  have HBa := Lib.hid hba
                  clear hba y1 d0 d1
                  cases g1 with
                  | true =>
                    as_aux_lemma =>
                      have e2 : g2 = true := Hgg.out rfl
                      subst e2
                      have er : bb = false := by rw [Hres.out]; cases b <;> rfl
                      subst er
                      go_wp2_with fail
                      refine (Hg2.out wa).mono ?_
                      rintro e wb ⟨rfl, hbb⟩
                      have HBb := Lib.hid (HBa.out.trans (hbb.mono HBa.out.size))
                      clear hbb
                      go_wp2
                      go_meet
                      exact ⟨rfl, HBb.out⟩
                  | false =>
                    as_aux_lemma =>
                      cases b with
                      | true =>
                        have er : bb = !g2 := Hres.out
                        subst er
                        go_wp2_with fail
                        refine (Hg2.out wa).mono ?_
                        rintro e wb ⟨rfl, hbb⟩
                        have HBb := Lib.hid (HBa.out.trans (hbb.mono HBa.out.size))
                        clear hbb
                        go_wp2
                        go_meet
                        exact ⟨rfl, HBb.out⟩
                      | false =>
                        have er : bb = true := Hres.out
                        subst er
                        go_wp2
                        go_meet
                        exact ⟨rfl, HBa.out⟩
              case rest =>
                as_aux_lemma =>
                  obtain ⟨rfl, hwx⟩ := hcut
                  have z0 := Below.cellOld hwx d0
                  have z1 := Below.cellOld hwx d1
                  have z2 := Below.cellOld hwx y1
                  have HRx := Lib.hid (Kd.R_below HRr.out hwx)
                  have HSx := Lib.hid (Kd.R_below HSr.out hwx)
                  have Hwx := Lib.hid hwx
                  have HBx := Lib.hid (HBr.out.trans (hwx.mono HBr.out.size))
                  clear hwx d0 d1 y1 HRr HSr HBr
                  cases bb with
                  | true =>
                    as_aux_lemma =>
                      go_upto_region 17 with fail
                      go_still_tail 11, (by kernel_rfl)
                      go_wp2_with fail
                      refine (Hwa.out _ (Hwx.out.trans ((below_drewN (Below.refl _ _) 1).mono Hwx.out.size))).mono ?_
                      rintro e wv ⟨v', rfl, hR', hB'⟩
                      have hbv : Below wc.heap.size wc wv := (below_drewN (Below.refl wc.heap.size wc) 1).trans hB'
                      have HRv := Lib.hid (Kd.R_lower hR' (Nat.le_trans HB8.out.size HBx.out.size))
                      have HSv := Lib.hid (Kd.R_below HSx.out hbv)
                      have HBv := Lib.hid (HBx.out.trans (hbv.mono HBx.out.size))
                      replace z0 := Below.cellOld hbv z0
                      replace z1 := Below.cellOld hbv z1
                      clear hR' hB' hbv HRx HSx HBx z2
                      go_wp2_with (first
                        | (at_builtin; (refine Kd.R_append sK (w0 := w8) w8.heap.size rfl (.tmp 111) (.tmp 117) 69 9 _ 16 rfl Try.underlying69 info9 rfl (by decide) (by decide) (.slice A2 ks.length c2) ks y.k [.string (bs y.k)] (fun _ => True) (fun _ => False) rfl rfl (sK_mkM _ _ _ y.k) (fun _ hk => hk.elim) (fun _ _ => trivial) HSv.out HBv.out ?s1 ?l1 ?_); (case s1 => exact HBv.out.size); (case l1 => have := Hksl.out; omega); intro v1 w4 hR4 hB4 hg4 hat4; have HS4 := Lib.hid hR4; have HB4 := Lib.hid hB4; have HR4 := Lib.hid (R_str HRv.out HSv.out hg4); clear hR4 hB4 hg4 hat4))
                      go_roundw
                      case rel => exact ⟨k + 1, by rw [← HYL.out]; omega, by go_num, by rw [Hq2.out]; rfl, HR4.out, by rw [Hks2.out]; exact HS4.out, HB4.out⟩
                      case measure => simp [intOf]; omega
                  | false =>
                    as_aux_lemma =>
                      go_upto_region 17 with fail
                      go_still_tail 11, (by kernel_rfl)
                      go_wp2_with fail
                      refine (Hwa.out _ (Hwx.out.trans ((below_drewN (Below.refl _ _) 1).mono Hwx.out.size))).mono ?_
                      rintro e wv ⟨v', rfl, hR', hB'⟩
                      have hbv : Below wc.heap.size wc wv := (below_drewN (Below.refl wc.heap.size wc) 1).trans hB'
                      have HRv := Lib.hid (Kd.R_lower hR' (Nat.le_trans HB8.out.size HBx.out.size))
                      have HSv := Lib.hid (Kd.R_below HSx.out hbv)
                      have HBv := Lib.hid (HBx.out.trans (hbv.mono HBx.out.size))
                      replace z0 := Below.cellOld hbv z0
                      replace z1 := Below.cellOld hbv z1
                      clear hR' hB' hbv HRx HSx HBx z2
                      go_wp2_with (first
                        | (at_builtin; (refine Kd.R_append sK (w0 := w8) w8.heap.size rfl (.tmp 111) (.tmp 117) 69 9 _ 16 rfl Try.underlying69 info9 rfl (by decide) (by decide) (.slice A2 ks.length c2) ks y.k [.string (bs y.k)] (fun _ => True) (fun _ => False) rfl rfl (sK_mkM _ _ _ y.k) (fun _ hk => hk.elim) (fun _ _ => trivial) HSv.out HBv.out ?s1 ?l1 ?_); (case s1 => exact HBv.out.size); (case l1 => have := Hksl.out; omega); intro v1 w4 hR4 hB4 hg4 hat4; have HS4 := Lib.hid hR4; have HB4 := Lib.hid hB4; have HR4 := Lib.hid (R_str HRv.out HSv.out hg4); clear hR4 hB4 hg4 hat4))
                      go_roundw
                      case rel => exact ⟨k + 1, by rw [← HYL.out]; omega, by go_num, by rw [Hq2.out]; rfl, HR4.out, by rw [Hks2.out]; exact HS4.out, HB4.out⟩
                      case measure => simp [intOf]; omega
          · as_aux_lemma =>
              obtain rfl : k = YL := by omega
              have hkY : k = Y.length := HYL.out
              have htk : Y.take k = Y := by rw [hkY, List.take_length]
              have hwg := want_good (b := b) (Y := Y) HS.out.st HS.out.good
              have hmY : m.length ≤ 260 := says_len HS.out HD8.out.choose_spec.choose_spec.2.2.1
              have hNl : (foldA b m Y Y.length).length ≤ 265 := by have := foldA_len b m Y Y.length; omega
              rw [htk] at HSr ⊢
              rw [hkY] at HRr
              have hwd : wantOf b m Y = if Y.any (bd b) = true then 1 else if fitsB (foldA b m Y Y.length) = true then 0 else 172 := rfl
              obtain ⟨N, hN⟩ : ∃ N, N = foldA b m Y Y.length := ⟨_, rfl⟩
              rw [← hN] at HRr hwg hNl hwd
              obtain ⟨ks, hks⟩ : ∃ ks, ks = Y.map Pr.k := ⟨_, rfl⟩
              rw [← hks] at HSr
              have hksl : ks.length = Y.length := by rw [hks, List.length_map]
              obtain ⟨A1, c1, rfl, hl1, hC1⟩ := Kd.R_reads HRr.out
              obtain ⟨A2, c2, rfl, hl2, hC2⟩ := Kd.R_reads HSr.out
              obtain ⟨bad, hbad⟩ : ∃ t, t = Y.any (bd b) := ⟨_, rfl⟩
              rw [← hbad] at hwg hwd ⊢
              obtain ⟨F, hF⟩ : ∃ t, t = fitsB N := ⟨_, rfl⟩
              rw [← hF] at hwd
              obtain ⟨want, hwant⟩ : ∃ t, t = wantOf b m Y := ⟨_, rfl⟩
              rw [← hwant] at hwd
              have hfit := fun (h : bad = false) W (hW : Below wr.heap.size wr W) => lfits_any N (by omega) (hwg h) A1 c1 W (Kd.C_below hC1 hW)
              rw [← hF] at hfit
              have Hfit := Lib.hid hfit
              have Hwd := Lib.hid hwd
              have HC2 := Lib.hid hC2
              have HNe := Lib.hid hN
              have Hks := Lib.hid hks
              have Hksl := Lib.hid hksl
              have Hwant := Lib.hid hwant
              have HbadE := Lib.hid hbad
              have HkY := Lib.hid hkY
              clear hky hkY htk hwg hmY hN hks hksl hC1 hC2 hbad hF hwant hwd hfit hl1 hl2
              go_upto_region 19 with fail
              go_cut [125] (fun t wx => t = .bool (!bad && !F) ∧ Below wr.heap.size wr wx)
              case first =>
                as_aux_lemma =>
                  cases bad with
                  | true =>
                    go_wp2
                    go_meet
                    exact ⟨rfl, Below.refl _ _⟩
                  | false =>
                    go_wp2_with fail
                    refine (Hfit.out (by trivial) wr (Below.refl _ _)).mono ?_
                    rintro e wv ⟨rfl, hbv⟩
                    have HBv := Lib.hid hbv
                    clear hbv
                    go_wp2
                    go_meet
                    exact ⟨by simp, HBv.out⟩
              case rest =>
                as_aux_lemma =>
                  obtain ⟨rfl, hwx⟩ := hcut
                  have HRx := Lib.hid (Kd.R_below HRr.out hwx)
                  have HCx := Lib.hid (Kd.C_below HC2.out hwx)
                  have HBx := Lib.hid (HBr.out.trans (hwx.mono HBr.out.size))
                  clear hwx HRr HSr HBr HC2 Hfit
                  have y1 := Below.cellOld HBx.out y0
                  have HDc := Lib.hid (HD8.out.below HBx.out)
                  have Hgc := Lib.hid (Hg8.out.below HBx.out)
                  have HYc := Lib.hid (Kd.C_below HCy8.out HBx.out)
                  have HRc := Lib.hid (Kd.R_below HR8.out HBx.out)
                  have HBc := Lib.hid (HB8.out.trans (HBx.out.mono HB8.out.size))
                  obtain ⟨wA, hwA⟩ : ∃ W, W = wc := ⟨_, rfl⟩
                  subst hwA
                  clear y0
                  go_upto_if 125 with (fail)
                  go_cut [11] (fun t wx => t = .int .i64 want ∧ wA = wx)
                  case first =>
                    as_aux_lemma =>
                      cases bad with
                      | true =>
                        have ew : want = 1 := by have := Hwd.out; simpa using this
                        subst ew
                        have e0 : (!true && !F) = false := rfl
                        rw [e0]
                        go_wp2
                        go_meet
                        exact ⟨rfl, rfl⟩
                      | false =>
                        as_aux_lemma =>
                          cases F with
                          | true =>
                            have ew : want = 0 := by have := Hwd.out; simpa using this
                            subst ew
                            go_wp2
                            go_meet
                            exact ⟨rfl, rfl⟩
                          | false =>
                            have ew : want = 172 := by have := Hwd.out; simpa using this
                            subst ew
                            go_wp2
                            go_meet
                            exact ⟨rfl, rfl⟩
                  case rest =>
                    as_aux_lemma =>
                      obtain ⟨rfl, rfl⟩ := hcut
                      go_upto_if 131 with (fail)
                      go_cut [14] (fun t wx => t = .int .i64 want ∧ ActOut m N a want wA wx)
                      case first =>
                        as_aux_lemma =>
                          cases b with
                          | true =>
                            as_aux_lemma =>
                              have hkd := kdrop_any a g pg m HS.out wA HDc.out Hgc.out ks (by have := Hksl.out; have := HkY.out; omega) (fun q hq => by
                                rw [Hks.out] at hq
                                obtain ⟨y, hy, rfl⟩ := List.mem_map.1 hq
                                exact (Hyf.out y hy).1) A2 c2 HCx.out
                              have Hkd := Lib.hid hkd
                              clear hkd
                              go_wp2_with fail
                              refine Hkd.out.mono ?_
                              rintro e wv ⟨z, rfl, w1', hb1', hq⟩
                              obtain ⟨hz, m', pg', p1, p2, p3, p4, p5⟩ := chg_out HS.out (HDc.out.below hb1') hq want (by rw [Hwant.out, Hks.out]; exact want_drop m Y)
                              replace hz := hz.symm
                              subst hz
                              have HO := Lib.hid (show ActOut m N a want wA wv from ⟨m', pg', p1, p2, (Mut.of_below hb1').trans p3, fun h => by
                                rw [p4 h, HNe.out, Hks.out, show ((Y.map Pr.k).map keyP).length = Y.length by simp]; exact foldA_drop m Y _ (Nat.le_refl _), p5⟩)
                              clear hb1' hq p1 p2 p3 p4 p5
                              go_wp2
                              go_meet
                              exact ⟨rfl, HO.out⟩
                          | false =>
                            as_aux_lemma =>
                              have hks := kset_any a g pg m HS.out wA HDc.out Hgc.out Y (by rw [← HYL.out]; omega) Hyf.out B cc HYc.out
                              rw [← HYL.out] at hks
                              have Hkd := Lib.hid hks
                              clear hks
                              go_wp2_with fail
                              refine Hkd.out.mono ?_
                              rintro e wv ⟨z, rfl, hq⟩
                              obtain ⟨hz, p1⟩ := chg_out HS.out HDc.out hq want Hwant.out
                              replace hz := hz.symm
                              subst hz
                              rw [← HNe.out] at p1
                              have HO := Lib.hid p1
                              clear hq p1
                              go_wp2
                              go_meet
                              exact ⟨rfl, HO.out⟩
                      case rest =>
                        as_aux_lemma =>
                          obtain ⟨rfl, m', pg', p1, p2, p3, p4, p5⟩ := hcut
                          have HS' := Lib.hid p1
                          have HD' := Lib.hid p2
                          have Hgd := Lib.hid (Hgc.out.kept p3 Hga.out)
                          have HRd := Lib.hid (R_dev HRx.out HDc.out p3)
                          have HRe := Lib.hid (R_dev HRc.out HDc.out p3)
                          have HBd := Lib.hid (Below.mut HBc.out p3 HBc.out.size ha)
                          have H4 := Lib.hid p4
                          have H5 := Lib.hid p5
                          clear p1 p2 p3 p4 p5 HRx HCx HRc HBc HYc HDc Hgc
                          obtain ⟨wB, hwB⟩ : ∃ W, W = wc := ⟨_, rfl⟩
                          subst hwB
                          go_upto_if 142 with (fail)
                          go_cut [7] (fun v wx => prK.R 63 wx w.heap.size (fun _ => True) v m' ∧ wB = wx)
                          case first =>
                            by_cases hz : want = 0
                            · subst hz
                              go_wp2
                              go_meet
                              exact ⟨by rw [H4.out (by trivial)]; exact HRd.out, rfl⟩
                            · have hzb : (want == 0) = false := by simpa using hz
                              have Hz := Lib.hid hz
                              clear hz
                              go_wp2
                              go_meet
                              exact ⟨by rw [H5.out Hz.out]; exact HRe.out, rfl⟩
                          case rest =>
                            as_aux_lemma =>
                              obtain ⟨hRm, rfl⟩ := hcut
                              obtain ⟨A7, c7, e7⟩ := Kd.R_slice hRm
                              subst e7
                              have HRm := Lib.hid hRm
                              clear hRm HRd HRe H4 H5 Hgd
                              go_wp2_with fail
                              refine (kopen_size a 64 wB).mono ?_
                              rintro e wC ⟨⟨v, rfl, hv⟩, hbC⟩
                              obtain ⟨rfl, hg2⟩ := hv rfl
                              have hga2 : wB.heap.size ≠ a := by
                                obtain ⟨F, many, _, _, _, ⟨np, oo, n, hb, _⟩⟩ := HD'.out
                                have := Blk.lt hb
                                omega
                              obtain ⟨g2, hg2'⟩ : ∃ g, g = wB.heap.size := ⟨_, rfl⟩
                              rw [← hg2'] at hg2 hga2 ⊢
                              have HDC := Lib.hid (HD'.out.below hbC)
                              have HRC := Lib.hid (Kd.R_below HRm.out hbC)
                              have HBC := Lib.hid (HBd.out.trans (hbC.mono HBd.out.size))
                              have HgC := Lib.hid hg2
                              have Hga2 := Lib.hid hga2
                              have e0 : openE 64 = 0 := rfl
                              rw [e0]
                              clear hv hbC hg2 hg2' HD' HRm HBd e0 hga2
                              have hml := says_len HS'.out HDC.out.choose_spec.choose_spec.2.2.1
                              go_wp2_with fail
                              refine (kall_says a g2 pg' m' HS'.out wC HDC.out HgC.out).mono ?_
                              rintro e wD ⟨A8, c8, rfl, hC8, hbD⟩
                              have HC8 := Lib.hid hC8
                              have HDD := Lib.hid (HDC.out.below hbD)
                              have HRD := Lib.hid (Kd.R_below HRC.out hbD)
                              have HBD := Lib.hid (HBC.out.trans (hbD.mono HBC.out.size))
                              have HgD := Lib.hid (HgC.out.below hbD)
                              clear hC8 hbD HDC HRC HBC HgC
                              go_wp2
                              go_loopw [17] (fun c wr => GetRel m' wD c wr) (fun c _ => m'.length - (intOf c).toNat)
                              case atStart => exact ⟨0, by omega, rfl, Below.refl _ _⟩
                              case round =>
                                obtain ⟨j, hj, rfl, hB⟩ := hrel
                                have HBj := Lib.hid hB
                                clear hB
                                by_cases hjl : j < m'.length
                                · as_aux_lemma =>
                                    obtain ⟨ad8, e8, d0, d1⟩ := at_pr (Kd.C_below HC8.out HBj.out) (j : Int) (by omega) (by omega)
                                    cases e8
                                    rw [Int.toNat_natCast] at d0 d1
                                    obtain ⟨A9, c9, e9, _, hC9⟩ := Kd.R_reads (Kd.R_below HRD.out HBj.out)
                                    injection e9 with e9 _ e10
                                    subst e9 e10
                                    obtain ⟨ad9, e9, f0, f1⟩ := at_pr hC9 (j : Int) (by omega) (by omega)
                                    cases e9
                                    rw [Int.toNat_natCast] at f0 f1
                                    obtain ⟨x, hx⟩ : ∃ x, x = prA m' j := ⟨_, rfl⟩
                                    rw [← hx] at d0 d1 f0 f1
                                    have hxm : x ∈ m' := by rw [hx, prA_get m' j hjl]; exact List.getElem_mem _
                                    obtain ⟨g1, g2', _⟩ := (goodK_iff _ _).1 (HS'.out.good x hxm)
                                    have hgt := kget_any a g2 pg' m' HS'.out wr (HDD.out.below HBj.out) (HgD.out.below HBj.out) x.k ((goodK_iff _ _).2 ⟨g1, g2', by simp⟩)
                                    have Hgt := Lib.hid hgt
                                    have Hxm := Lib.hid hxm
                                    have j0 : (0 : Int) ≤ (j : Int) := by omega
                                    have j1 : (j : Int) < (m'.length : Int) := by omega
                                    have hv := bs_toList x.v
                                    clear hx hxm g1 g2' hgt hC9
                                    go_wp2_with fail
                                    refine Hgt.out.mono ?_
                                    rintro e wE ⟨s', z', rfl, hq, hbE⟩
                                    obtain ⟨es, ez⟩ := hq.1 x Hxm.out rfl
                                    subst es
                                    subst ez
                                    replace d0 := Below.cellOld hbE d0
                                    replace d1 := Below.cellOld hbE d1
                                    replace f0 := Below.cellOld hbE f0
                                    replace f1 := Below.cellOld hbE f1
                                    have HBE := Lib.hid (HBj.out.trans (hbE.mono HBj.out.size))
                                    clear hq hbE
                                    have k0 := fun n => later_cell d0 n
                                    have k1 := fun n => later_cell d1 n
                                    have k2 := fun n => later_cell f0 n
                                    have k3 := fun n => later_cell f1 n
                                    have hne := neq63 (bs x.k) (bs x.v)
                                    have hei := eqIn63 (bs x.k) (bs x.v)
                                    go_upto_region 37 with fail
                                    refine wp_region_later (by kernel_rfl) (by kernel_rfl) ?_
                                    repeat go_big_quiet_step (fail)
                                    refine wpQuiet_nil ?_
                                    intro wF hwF
                                    have HBF := Lib.hid (HBE.out.trans ((later_of hwF).mono HBE.out.size))
                                    clear hwF k0 k1 k2 k3 d0 d1 f0 f1 hne hei
                                    go_wp2
                                    go_roundw
                                    case rel => exact ⟨j + 1, by omega, by go_num, HBF.out⟩
                                    case measure => simp [intOf]; omega
                                · obtain rfl : j = m'.length := by omega
                                  go_wp2
                                  go_roundw
                                  case rel => exact ⟨i + 1, g2, m', pg', by omega, by go_num, rfl, Hga2.out, HgD.out.below HBj.out, HS'.out, HDD.out.below HBj.out, Kd.R_below HRD.out HBj.out, HBD.out.trans (HBj.out.mono HBD.out.size)⟩
                                  case measure => simp [intOf]; omega
    · as_aux_lemma =>
        have hgt := kget_any a g pg m HS.out wr HD.out Hg.out nob (by decide)
        rw [show bs nob = ⟨#[110, 111, 98, 111, 100, 121, 32, 104, 97, 115, 32, 116, 104, 105, 115]⟩ from rfl] at hgt
        have hlit : ByteArray.toList ⟨#[110, 111, 98, 111, 100, 121, 32, 104, 97, 115, 32, 116, 104, 105, 115]⟩ = nob := bs_toList nob
        obtain ⟨A7, c7, e7⟩ := Kd.R_slice HR.out
        subst e7
        obtain ⟨nb, hnb⟩ : ∃ nb, nb = nob := ⟨_, rfl⟩
        rw [← hnb] at hlit
        have Hnb := Lib.hid hnb
        have Hgt := Lib.hid hgt
        have hml := says_len HS.out HD.out.choose_spec.choose_spec.2.2.1
        clear hgt hnb
        by_cases hi25 : i < 25
        · as_aux_lemma =>
            have k1 : (l.length : Int) ≤ (i : Int) := by omega
            have k2 : (i : Int) < 25 := by omega
            clear hlt
            go_wp2_with fail
            refine (Hgt.out).mono ?_
            rintro e wE ⟨s', z', rfl, hq, hbE⟩
            have Hq := Lib.hid hq
            have HBE := Lib.hid (HB.out.trans (hbE.mono HB.out.size))
            have HRE := Lib.hid (Kd.R_below HR.out hbE)
            clear hq hbE Hgt
            go_wp2
            go_loopw [22] (fun c wr => NobRel m nb wE c wr) (fun c _ => m.length - (intOf c).toNat)
            case atStart => exact ⟨0, by omega, rfl, fun q h => by omega, Below.refl _ _⟩
            case round =>
              obtain ⟨j, hj, rfl, hno, hB⟩ := hrel
              have HBj := Lib.hid hB
              have Hno := Lib.hid hno
              clear hB hno
              by_cases hjl : j < m.length
              · as_aux_lemma =>
                  obtain ⟨_, _, e9, _, hC9⟩ := Kd.R_reads (Kd.R_below HRE.out HBj.out)
                  injection e9 with e9 _ e10
                  subst e9 e10
                  obtain ⟨ad9, e9, f0, f1⟩ := at_pr hC9 (j : Int) (by omega) (by omega)
                  cases e9
                  rw [Int.toNat_natCast] at f0 f1
                  obtain ⟨x, hx⟩ : ∃ x, x = prA m j := ⟨_, rfl⟩
                  rw [← hx] at f0 f1
                  have hxm : x ∈ m := by rw [hx, prA_get m j hjl]; exact List.getElem_mem _
                  have Hxm := Lib.hid hxm
                  have Hx := Lib.hid hx
                  have hxk := bs_toList x.k
                  have j0 : (0 : Int) ≤ (j : Int) := by omega
                  have j1 : (j : Int) < (m.length : Int) := by omega
                  obtain ⟨K, hK⟩ : ∃ K, K = x.k := ⟨_, rfl⟩
                  rw [← hK] at f0 hxk
                  have HK := Lib.hid hK
                  clear hC9 hx hxm hK f1
                  by_cases he : K = nb
                  · have heb : (K == nb) = true := by simp [he]
                    have ez : z' = 0 := (Hq.out.1 x Hxm.out (by rw [← HK.out, he]; exact Hnb.out)).2
                    subst ez
                    clear he
                    go_wp2
                    go_ret
                    exact ⟨rfl, HBE.out.trans (HBj.out.mono HBE.out.size)⟩
                  · have heb : (K == nb) = false := by simpa using he
                    have He := Lib.hid he
                    clear he
                    go_wp2
                    go_roundw
                    case rel => exact ⟨j + 1, by omega, by go_num, fun q hq => by
                      by_cases e : q = j
                      · subst e; rw [← Hx.out, ← HK.out]; exact He.out
                      · exact Hno.out q (by omega), HBj.out⟩
                    case measure => simp [intOf]; omega
              · obtain rfl : j = m.length := by omega
                have ez : z' = 181 := Hq.out.2 (fun x hx => by
                  obtain ⟨q, hq, rfl⟩ := prA_mem hx
                  rw [← Hnb.out]
                  exact Hno.out q hq)
                subst ez
                go_wp2
                go_ret
                exact ⟨rfl, HBE.out.trans (HBj.out.mono HBE.out.size)⟩
        · as_aux_lemma =>
            have k2 : (25 : Int) ≤ (i : Int) := by omega
            have k3 : ¬ (i : Int) < 25 := by omega
            clear hlt
            by_cases hil : i < l.length
            · as_aux_lemma =>
                have k1 : (i : Int) < (l.length : Int) := by omega
                go_wp2_with fail
                refine (Hgt.out).mono ?_
                rintro e wE ⟨s', z', rfl, hq, hbE⟩
                have Hq := Lib.hid hq
                have HBE := Lib.hid (HB.out.trans (hbE.mono HB.out.size))
                have HRE := Lib.hid (Kd.R_below HR.out hbE)
                clear hq hbE Hgt
                go_wp2
                go_loopw [22] (fun c wr => NobRel m nb wE c wr) (fun c _ => m.length - (intOf c).toNat)
                case atStart => exact ⟨0, by omega, rfl, fun q h => by omega, Below.refl _ _⟩
                case round =>
                  obtain ⟨j, hj, rfl, hno, hB⟩ := hrel
                  have HBj := Lib.hid hB
                  have Hno := Lib.hid hno
                  clear hB hno
                  by_cases hjl : j < m.length
                  · as_aux_lemma =>
                      obtain ⟨_, _, e9, _, hC9⟩ := Kd.R_reads (Kd.R_below HRE.out HBj.out)
                      injection e9 with e9 _ e10
                      subst e9 e10
                      obtain ⟨ad9, e9, f0, f1⟩ := at_pr hC9 (j : Int) (by omega) (by omega)
                      cases e9
                      rw [Int.toNat_natCast] at f0 f1
                      obtain ⟨x, hx⟩ : ∃ x, x = prA m j := ⟨_, rfl⟩
                      rw [← hx] at f0 f1
                      have hxm : x ∈ m := by rw [hx, prA_get m j hjl]; exact List.getElem_mem _
                      have Hxm := Lib.hid hxm
                      have Hx := Lib.hid hx
                      have hxk := bs_toList x.k
                      have j0 : (0 : Int) ≤ (j : Int) := by omega
                      have j1 : (j : Int) < (m.length : Int) := by omega
                      obtain ⟨K, hK⟩ : ∃ K, K = x.k := ⟨_, rfl⟩
                      rw [← hK] at f0 hxk
                      have HK := Lib.hid hK
                      clear hC9 hx hxm hK f1
                      by_cases he : K = nb
                      · have heb : (K == nb) = true := by simp [he]
                        have ez : z' = 0 := (Hq.out.1 x Hxm.out (by rw [← HK.out, he]; exact Hnb.out)).2
                        subst ez
                        clear he
                        go_wp2
                        go_ret
                        exact ⟨rfl, HBE.out.trans (HBj.out.mono HBE.out.size)⟩
                      · have heb : (K == nb) = false := by simpa using he
                        have He := Lib.hid he
                        clear he
                        go_wp2
                        go_roundw
                        case rel => exact ⟨j + 1, by omega, by go_num, fun q hq => by
                          by_cases e : q = j
                          · subst e; rw [← Hx.out, ← HK.out]; exact He.out
                          · exact Hno.out q (by omega), HBj.out⟩
                        case measure => simp [intOf]; omega
                  · obtain rfl : j = m.length := by omega
                    have ez : z' = 181 := Hq.out.2 (fun x hx => by
                      obtain ⟨q, hq, rfl⟩ := prA_mem hx
                      rw [← Hnb.out]
                      exact Hno.out q hq)
                    subst ez
                    go_wp2
                    go_ret
                    exact ⟨rfl, HBE.out.trans (HBj.out.mono HBE.out.size)⟩
            · as_aux_lemma =>
                have k1 : (l.length : Int) ≤ (i : Int) := by omega
                go_wp2_with fail
                refine (Hgt.out).mono ?_
                rintro e wE ⟨s', z', rfl, hq, hbE⟩
                have Hq := Lib.hid hq
                have HBE := Lib.hid (HB.out.trans (hbE.mono HB.out.size))
                have HRE := Lib.hid (Kd.R_below HR.out hbE)
                clear hq hbE Hgt
                go_wp2
                go_loopw [22] (fun c wr => NobRel m nb wE c wr) (fun c _ => m.length - (intOf c).toNat)
                case atStart => exact ⟨0, by omega, rfl, fun q h => by omega, Below.refl _ _⟩
                case round =>
                  obtain ⟨j, hj, rfl, hno, hB⟩ := hrel
                  have HBj := Lib.hid hB
                  have Hno := Lib.hid hno
                  clear hB hno
                  by_cases hjl : j < m.length
                  · as_aux_lemma =>
                      obtain ⟨_, _, e9, _, hC9⟩ := Kd.R_reads (Kd.R_below HRE.out HBj.out)
                      injection e9 with e9 _ e10
                      subst e9 e10
                      obtain ⟨ad9, e9, f0, f1⟩ := at_pr hC9 (j : Int) (by omega) (by omega)
                      cases e9
                      rw [Int.toNat_natCast] at f0 f1
                      obtain ⟨x, hx⟩ : ∃ x, x = prA m j := ⟨_, rfl⟩
                      rw [← hx] at f0 f1
                      have hxm : x ∈ m := by rw [hx, prA_get m j hjl]; exact List.getElem_mem _
                      have Hxm := Lib.hid hxm
                      have Hx := Lib.hid hx
                      have hxk := bs_toList x.k
                      have j0 : (0 : Int) ≤ (j : Int) := by omega
                      have j1 : (j : Int) < (m.length : Int) := by omega
                      obtain ⟨K, hK⟩ : ∃ K, K = x.k := ⟨_, rfl⟩
                      rw [← hK] at f0 hxk
                      have HK := Lib.hid hK
                      clear hC9 hx hxm hK f1
                      by_cases he : K = nb
                      · have heb : (K == nb) = true := by simp [he]
                        have ez : z' = 0 := (Hq.out.1 x Hxm.out (by rw [← HK.out, he]; exact Hnb.out)).2
                        subst ez
                        clear he
                        go_wp2
                        go_ret
                        exact ⟨rfl, HBE.out.trans (HBj.out.mono HBE.out.size)⟩
                      · have heb : (K == nb) = false := by simpa using he
                        have He := Lib.hid he
                        clear he
                        go_wp2
                        go_roundw
                        case rel => exact ⟨j + 1, by omega, by go_num, fun q hq => by
                          by_cases e : q = j
                          · subst e; rw [← Hx.out, ← HK.out]; exact He.out
                          · exact Hno.out q (by omega), HBj.out⟩
                        case measure => simp [intOf]; omega
                  · obtain rfl : j = m.length := by omega
                    have ez : z' = 181 := Hq.out.2 (fun x hx => by
                      obtain ⟨q, hq, rfl⟩ := prA_mem hx
                      rw [← Hnb.out]
                      exact Hno.out q hq)
                    subst ez
                    go_wp2
                    go_ret
                    exact ⟨rfl, HBE.out.trans (HBj.out.mono HBE.out.size)⟩
end Go.Proofs.Yteilmbhnbmmcjaa.B
