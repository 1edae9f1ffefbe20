/- Helper: a device is given two slots, with a first image; walked. what holds while an updater works, plainly. a device with slots is made; an image is installed; walked. an image is installed, and starts; walked. No condition. -/
import Derived.Test.YticnmogeknlmeaaGreatDoorN29
import Derived.Test.YticnmogeknlmeaaGreatDoorN14
import Derived.OwnWalk
namespace Go.Proofs.YticnmogeknlmeaaGreatDoor.B
open Go.RowKit Go.Maps Go.Proofs.YticnmogeknlmeaaGreatDoorW.PrintWords Go.Proofs.YticnmogeknlmeaaGreatDoor.Later
set_option maxRecDepth 100000
set_option maxHeartbeats 4000000
theorem Mut.then_below2 {S : Nat → Prop} {w w1 w2 : World} (h : Mut S w w1) (hb : Below w1.heap.size w1 w2) : Mut S w w2 := h.then_below (hb.mono h.size)
theorem prov_ok {w : World} {u a pg : Nat} (h : TAt w u a pg T0) (p1 : 1 ≤ pg) (v : Nat) (hv : 1 ≤ v ∧ v ≤ 1073741824) (s : List UInt8) (hl : s.length ≤ 64 * pg) : Calls Tryz.prog 24 #[.pointer (some ⟨u, 0, none⟩), .int .i64 (v : Int), .string (bs s)] w fun e w' => e = .returned (.int .i64 0) ∧ UsAt w' u a (first pg v ⟨v, s.length, shaL s⟩ s) ∧ Mut (only a) w w' := by
  have hpg : pg ≤ 1024 := by obtain ⟨M, _, _, _, _, k⟩ := h; exact k
  have hck : manOk v s.length (shaL s) = true := by
    unfold manOk
    rw [decide_eq_true (show 1 ≤ (v : Int) by omega), decide_eq_true (show (v : Int) ≤ 1073741824 by omega), decide_eq_true (show (0 : Int) ≤ (s.length : Int) by omega), decide_eq_true (show (s.length : Int) ≤ 1048576 by omega)]
    rfl
  have Hof := Lib.hid (fun W => of_any v s (by omega) W)
  have hmc := fun W => mcheck_any v s.length (shaL s) W
  rw [hck] at hmc
  have Hmc := Lib.hid hmc
  have H := Lib.hid h
  have hal := h.al
  have HAL := Lib.hid hal
  have hsz := bs_size s
  have hd : decide ((pg : Int) * 64 < (s.length : Int)) = false := decide_eq_false (by omega)
  have hmok : (⟨v, s.length, shaL s⟩ : Man).Ok := ⟨hv.1, hv.2, by show s.length ≤ _; omega, rfl⟩
  have Hmok := Lib.hid hmok
  have Hfo := Lib.hid (first_ok hv.1 hv.2 p1 hpg hl)
  have Hp1 := Lib.hid p1
  have Hv := Lib.hid hv
  clear hmc h hal hmok hck p1 hv
  go_enter Tryz.func24, Tryz.ntmps24
  go_wp2_with fail
  refine (Hof.out _).mono ?_
  rintro e w1 ⟨rfl, hB⟩
  have HB1 := Lib.hid hB
  have H1 := Lib.hid (H.out.below hB)
  clear hB
  unfold ManV
  go_wp2_with fail
  refine (Hmc.out _).mono ?_
  rintro e w2 ⟨rfl, hB⟩
  obtain ⟨hB, k3⟩ := laid hB
  have HB2 := Lib.hid (HB1.out.trans (hB.mono HB1.out.size))
  have H2 := Lib.hid (H1.out.below hB)
  have K := Lib.hid k3
  have hl3 := Blk.lt k3
  have hl1 := HB1.out.size
  have u1 := H2.out.c1
  have u2 := H2.out.c2
  clear hB k3
  obtain ⟨g7, hg7⟩ : ∃ g7, g7 = w1.heap.size := ⟨_, rfl⟩
  rw [← hg7] at K hl3 hl1 ⊢
  clear hg7
  go_wp2_with fail
  go_quiet (fail)
  have hbn := below_drewN (Below.refl w2.heap.size w2) nq
  have kn := K.out.below hbn
  have hn := H2.out.below hbn
  have hbw := HB2.out.trans (hbn.mono HB2.out.size)
  revert kn hn hbw
  generalize World.drewN w2 nq = W
  intro kn hn hbw
  have K3 := Lib.hid kn
  have HW := Lib.hid hn
  have HBW := Lib.hid hbw
  clear hbn kn hn hbw u1 u2 hd
  have p1 := fun n => later_cell HW.out.c1 n
  go_wp2_with fail
  refine wp_region_later_skip (.pointer (some ⟨u, 0, none⟩)) 11 (by kernel_rfl) (by kernel_rfl) (by decide) (by kernel_rfl) (by kernel_rfl) (by kernel_rfl) (by kernel_rfl) (by kernel_rfl) (fun _ _ _ h => h) (Or.inl ⟨by rfl, fun W => rfl⟩) ?_
  simp only [List.take_succ_cons, List.take_zero, List.drop_succ_cons, List.drop_zero, Act.put, List.setIfInBounds_toArray, List.set_cons_zero, List.set_cons_succ]
  repeat go_big_quiet_step (fail)
  go_big_quiet_step (with_reducible exact calls_later (fun w1 _ => made_c 1 (pg : Int) w1) _)
  repeat go_big_quiet_step (fail)
  go_big_quiet_step (with_reducible exact calls_later (fun w1 _ => made_c 2 (pg : Int) w1) _)
  repeat go_big_quiet_step (fail)
  go_big_quiet_step (with_reducible exact calls_later (fun w1 _ => made_c 3 4 w1) _)
  repeat go_big_quiet_step (fail)
  refine wpQuiet_nil ?_
  intro w5 hw5
  have hb5 := later_of hw5
  have HB5 := Lib.hid (HBW.out.trans (hb5.mono HBW.out.size))
  have H5 := Lib.hid (HW.out.below hb5)
  have K5 := Lib.hid (K3.out.below hb5)
  clear hw5 hb5 p1
  go_wp2_with fail
  have hal := HAL.out
  have hs5 := HB5.out.size
  have hC := chC_of (l := [makeCh 1 pg, makeCh 2 pg, makeCh 3 4]) (Blk.new w5 (cellsC [makeCh 1 pg, makeCh 2 pg, makeCh 3 4]).toArray 102) (by simp)
  have hba : Below w5.heap.size w5 (w5.alloc (.cells (cellsC [makeCh 1 pg, makeCh 2 pg, makeCh 3 4]).toArray 102)) := (Below.refl _ _).alloc (Nat.le_refl _) _
  have hB6 := HB5.out.trans (hba.mono hs5)
  have k6 := K5.out.below hba
  refine (all_tt (T' := bare pg s 0) (H5.out.below hba) (l := [makeCh 1 pg, makeCh 2 pg, makeCh 3 4]) (by simp) (fun M hl hm => ⟨3, step_bare hl (by omega) Hp1.out s⟩) hC (fun ad e => by cases e; show w5.heap.size ≠ a; omega)).mono ?_
  rintro e w7 ⟨rfl, hU, hm⟩
  have k7 := Blk.kept k6 hm (by show g7 ≠ a; omega)
  have K7 := Lib.hid k7
  have HU := Lib.hid hU
  have HM := Lib.hid ((Mut.of_below (S := only a) hB6).trans hm)
  have hs7 := HM.out.size
  have hg7 : g7 < w7.heap.size := Blk.lt k7
  have hga : g7 ≠ a := by omega
  clear hU hm hC hB6 hba k6 k7 hs5
  go_wp2_with fail
  obtain ⟨R, hR⟩ : ∃ R, R = (nP s + 3) / 4 := ⟨_, rfl⟩
  have hnP : s.length ≤ 64 * nP s ∧ 64 * nP s < s.length + 64 := by unfold nP; omega
  obtain ⟨N, hN⟩ : ∃ N, N = nP s := ⟨_, rfl⟩
  rw [← hN] at hR hnP
  have HN := Lib.hid hN
  clear hN
  go_loopg [9, 10, 11, 12] R (fun g' v9 v10 v11 v12 wx => ∃ j : Nat, j + g' = R ∧ v9 = .int .i64 ((4 * j : Nat) : Int) ∧ TAt wx u a pg (bare pg s (min (4 * j) N)) ∧ Mut (only a) w7 wx)
  case atStart => exact ⟨0, by omega, rfl, by rw [show min (4 * 0) N = 0 by omega]; exact HU.out, Mut.refl _ _⟩
  case round =>
    obtain ⟨j, hj, rfl, hT, hM⟩ := hrel
    have HT := Lib.hid hT
    have HMx := Lib.hid hM
    have u2 := hT.c2
    have hsx := hM.size
    clear hT hM
    obtain ⟨q, hq⟩ : ∃ q, q = 4 * j := ⟨_, rfl⟩
    have Hq := Lib.hid hq
    rw [← hq]
    have hq1 : q ≤ 4096 := by omega
    have k7 := Blk.kept K7.out HMx.out (by show g7 ≠ a; omega)
    cases gk with
    | zero =>
      have hd : ¬ q * 64 < s.length := by omega
      have hjN : min (4 * j) N = nP s := by have := HN.out; omega
      have hT := HT.out
      rw [hjN] at hT
      have HT := Lib.hid hT
      have f0 : wr.cell? ⟨g7, 0, none⟩ = some (.int .i64 (v : Int)) := k7.cell 0
      have f1 : wr.cell? ⟨g7, 1, none⟩ = some (.int .i64 (s.length : Int)) := k7.cell 1
      have f2 : wr.cell? ⟨g7, 2, none⟩ = some (.string (bs (shaL s))) := k7.cell 2
      have hmp := Lib.hid (fun W => mput_any ⟨v, s.length, shaL s⟩ (by have := Hv.out.2; show v < _; omega) (by show s.length < _; omega) (by show (shaL s).length ≤ _; rw [shaL_len]; decide) W)
      have hfi := Lib.hid (fun W => first_any v W)
      have hpu := Lib.hid (fun W => tput_any (Bt.mk false false false 0 v v 0) Hfo.out.b W)
      have hm1 := Lib.hid (HM.out.trans HMx.out)
      clear hT k7 hq
      go_wp2_with fail
      refine (hmp.out _).mono ?_
      rintro e w8 ⟨rfl, hB⟩
      have HB8 := Lib.hid hB
      have HT8 := Lib.hid (HT.out.below hB)
      clear hB f0 f1 f2 u2
      go_wp2_with fail
      refine (put_c 3 1 (manB ⟨v, s.length, shaL s⟩) _).mono ?_
      rintro e w9 ⟨rfl, hB⟩
      have HB9 := Lib.hid (HB8.out.trans (hB.mono HB8.out.size))
      have HT9 := Lib.hid (HT8.out.below hB)
      clear hB
      go_wp2_with fail
      refine (hfi.out _).mono ?_
      rintro e w10 ⟨rfl, hB⟩
      have HB10 := Lib.hid (HB9.out.trans (hB.mono HB9.out.size))
      have HT10 := Lib.hid (HT9.out.below hB)
      clear hB
      go_wp2_with fail
      refine (hpu.out _).mono ?_
      rintro e w11 ⟨rfl, hB⟩
      have HB11 := Lib.hid (HB10.out.trans (hB.mono HB10.out.size))
      have HT11 := Lib.hid (HT10.out.below hB)
      clear hB
      go_wp2_with fail
      refine (put_c 3 0 (Bt.mk false false false 0 v v 0).B _).mono ?_
      rintro e w12 ⟨rfl, hB⟩
      have HB12 := Lib.hid (HB11.out.trans (hB.mono HB11.out.size))
      have HT12 := Lib.hid (HT11.out.below hB)
      clear hB
      go_wp2_with fail
      have hs12 := HB12.out.size
      have hC := chC_of (l := [putCh 3 1 (manB ⟨v, s.length, shaL s⟩), putCh 3 0 (Bt.mk false false false 0 v v 0).B]) (Blk.new w12 (cellsC [putCh 3 1 (manB ⟨v, s.length, shaL s⟩), putCh 3 0 (Bt.mk false false false 0 v v 0).B]).toArray 102) (by simp)
      have hba : Below w12.heap.size w12 (w12.alloc (.cells (cellsC [putCh 3 1 (manB ⟨v, s.length, shaL s⟩), putCh 3 0 (Bt.mk false false false 0 v v 0).B]).toArray 102)) := (Below.refl _ _).alloc (Nat.le_refl _) _
      have hB13 := HB12.out.trans (hba.mono hs12)
      refine (all_tt (T' := (first pg v ⟨v, s.length, shaL s⟩ s).tree) (HT12.out.below hba) (l := [putCh 3 1 (manB ⟨v, s.length, shaL s⟩), putCh 3 0 (Bt.mk false false false 0 v v 0).B]) (by simp) (fun M hl hm => ⟨2, step_first hl (by omega) Hmok.out Hfo.out.b⟩) hC (fun ad e => by cases e; show w12.heap.size ≠ a; have := HT.out.al; omega)).mono ?_
      rintro e w14 ⟨rfl, hU, hm⟩
      have HU14 := Lib.hid hU
      have HM14 := Lib.hid ((hm1.out.then_below2 hB13).trans hm)
      clear hU hm hC hB13 hba hs12
      go_wp2_with fail
      go_ret
      exact ⟨rfl, HU14.out.us, HM14.out⟩
    | succ g' =>
      have hd0 : q * 64 < s.length := by omega
      have hd : decide ((q : Int) * 64 < (s.length : Int)) = true := decide_eq_true (by omega)
      have Hd0 := Lib.hid hd0
      clear hd0
      obtain ⟨n, hn⟩ : ∃ n, n = min 4 (N - q) := ⟨_, rfl⟩
      have Hn := Lib.hid hn
      have hn4 : n ≤ 4 := by omega
      have HK7 := Lib.hid k7
      clear k7 hn hq
      go_wp2_with fail
      obtain ⟨wo, hwo⟩ : ∃ wo, wo = wr := ⟨_, rfl⟩
      subst hwo
      go_loopg [10, 11] n (fun g1 y10 y11 wx => ∃ i : Nat, i + g1 = n ∧ y11 = .int .i64 ((q + i : Nat) : Int) ∧ ChR wx wo.heap.size y10 (rowsP 1 s q i) ∧ Below wo.heap.size wo wx)
      case atStart => exact ⟨0, by omega, rfl, ChR.nil _ _, Below.refl _ _⟩
      case round =>
        obtain ⟨i, hi, rfl, hR1, hB1⟩ := hrel
        have HR1 := Lib.hid hR1
        have HB1 := Lib.hid hB1
        have HT1 := Lib.hid (HT.out.below hB1)
        have u2 := HT1.out.c2
        have hs1 := hB1.size
        clear hR1 hB1
        obtain ⟨p, hp⟩ : ∃ p, p = q + i := ⟨_, rfl⟩
        have Hp := Lib.hid hp
        rw [← hp]
        cases gk with
        | zero =>
          have hin : i = n := by omega
          have hTL : TAt wr u a pg (bare pg s q) := by
            have h1 := HT1.out
            rw [show min (4 * j) N = q by have := Hq.out; omega] at h1
            exact h1
          have Hfin := Lib.hid hTL
          obtain ⟨L, hL⟩ : ∃ L, L = rowsP 1 s q n := ⟨_, rfl⟩
          have HR1 := Lib.hid (show ChR wr wo.heap.size _ L by rw [hL, ← hin]; exact HR1.out)
          have hNn : min (4 * (j + 1)) N = q + n := by have := Hq.out; have := Hn.out; omega
          have hqn : q + n ≤ pg := by have := Hn.out; omega
          have hsc : (p < q + 4 ∧ ¬ p * 64 < s.length) ∨ ¬ p < q + 4 := by have := Hn.out; omega
          have hrl := rowsP_len 1 s q n
          have hna := HT.out.al
          have fin : ∀ (w8 : World), TAt w8 u a pg (bare pg s (q + n)) → Mut (only a) wr w8 → Mut (only a) w7 w8 := fun w8 _ hm => (HMx.out.then_below2 HB1.out).trans hm
          have hl100 : L.length < 1000 := by rw [hL, hrl]; omega
          have HL := Lib.hid hL
          obtain ⟨A, c, rfl, hC, hA⟩ := HR1.out.reads
          have HC := Lib.hid hC
          have HA := Lib.hid (show ∀ ad, A = some ad → ad.block ≠ a from fun ad e => by have := hA ad e; omega)
          have Hl100 := Lib.hid hl100
          have Hfin2 := Lib.hid fin
          have HNn := Lib.hid hNn
          have Hqn := Lib.hid hqn
          clear hp hTL hC hA hl100 fin hNn hqn hL hrl
          obtain ⟨T', hT'⟩ : ∃ T', T' = bare pg s (q + n) := ⟨_, rfl⟩
          obtain ⟨T1, hT1⟩ : ∃ T1, T1 = bare pg s q := ⟨_, rfl⟩
          rw [← hT1] at Hfin
          rw [← hT'] at Hfin2
          have HT' := Lib.hid hT'
          have HT1' := Lib.hid hT1
          clear hT' hT1
          rcases hsc with ⟨hc1, hc2⟩ | hc1
          all_goals
            go_wp2_with fail
            refine (all_tt (T' := T') (l := L) (c := c) (A := A) Hfin.out Hl100.out (fun M hl hm => by rw [HT1'.out] at hl; rw [HT'.out, HL.out]; exact ⟨n, step_pages hl Hqn.out (by omega)⟩) HC.out HA.out).mono ?_
            rintro e w8 ⟨rfl, hU, hm⟩
            have HU8 := Lib.hid hU
            have HM8 := Lib.hid (Hfin2.out w8 hU hm)
            clear hU hm
            go_wp2_with fail
            go_roundg g'
            case measure => omega
            case rel =>
              refine ⟨j + 1, by omega, by rw [show 4 * (j + 1) = q + 4 by have := Hq.out; omega]; go_num, ?_, HM8.out⟩
              rw [HNn.out, ← HT'.out]
              exact HU8.out
        | succ g1 =>
          have hc1 : p < q + 4 := by omega
          have hc2 : p * 64 < s.length := by have := Hn.out; have := HN.out; have := Hd0.out; omega
          have hx : (bs s).extract (p * 64) (min (((p : Int) + 1) * 64) (s.length : Int)).toNat = bs (pageOf s p) := by
            unfold pageOf
            by_cases h6 : p * 64 + 64 ≤ s.length
            · rw [show (min (((p : Int) + 1) * 64) (s.length : Int)).toNat = p * 64 + 64 by omega, bs_extract, Nat.mul_comm 64 p, List.take_drop]
            · rw [show (min (((p : Int) + 1) * 64) (s.length : Int)).toNat = s.length by omega, bs_extract, Nat.mul_comm 64 p, List.take_of_length_le (Nat.le_refl _), List.take_of_length_le (by rw [List.length_drop]; omega)]
          obtain ⟨P, hPP⟩ : ∃ P, P = pageOf s p := ⟨_, rfl⟩
          rw [← hPP] at hx
          have Hput := Lib.hid (show ∀ W, Calls Tryz.prog 41 #[.int .i64 1, .int .i64 (p : Int), .string ((bs s).extract (p * 64) (min (((p : Int) + 1) * 64) (s.length : Int)).toNat)] W fun e w' => e = .returned (.agg #[.int .i64 1, .int .i64 1, .int .i64 (p : Int), .int .i64 0, .int .i64 0, .int .i64 0, .string (bs P)]) ∧ Below W.heap.size W w' from fun W => by rw [hx]; exact put_c 1 (p : Int) P W)
          have HPP := Lib.hid hPP
          have k2 := fun n => later_cell u2 n
          have hiq : i < n := by omega
          clear hp hPP hx
          go_wp2_with fail
          clear u2
          refine wp_region_later_skip _ 20 (by kernel_rfl) (by kernel_rfl) (by decide) (by kernel_rfl) (by kernel_rfl) (by kernel_rfl) (by kernel_rfl) (by kernel_rfl) (fun _ _ _ h => h) (Or.inl ⟨by rfl, fun W => rfl⟩) ?_
          simp only [List.take_succ_cons, List.take_zero, List.drop_succ_cons, List.drop_zero, Act.put, List.setIfInBounds_toArray, List.set_cons_zero, List.set_cons_succ]
          repeat go_big_quiet_step (fail)
          go_big_quiet_step (with_reducible exact calls_later (fun w1 _ => Hput.out w1) _)
          repeat go_big_quiet_step (fail)
          refine wpQuiet_nil ?_
          intro w5 hw5
          have hb5 := later_of hw5
          have HR5 := Lib.hid (HR1.out.below hb5)
          have HB5 := Lib.hid (HB1.out.trans (hb5.mono HB1.out.size))
          clear hw5 hb5 k2
          go_wp2_with (first
            | (at_builtin; (refine append_ch (w0 := wo) wo.heap.size rfl (.tmp 83) (.tmp 104) rfl _ (rowsP 1 s q i) (putCh 1 (p : Int) P) rfl rfl HR5.out HB5.out ?s1 ?l1 ?_); (case s1 => exact HB5.out.size); (case l1 => (rw [rowsP_len]; omega)); intro v1 w6 hR6 hB6; have HR6 := Lib.hid hR6; have HB6 := Lib.hid hB6; have u2w := (HT.out.below hB6).c2; clear hR6 hB6))
          go_roundg g1
          case measure => omega
          case rel =>
            refine ⟨i + 1, by omega, by rw [show q + (i + 1) = p + 1 by have := Hp.out; omega]; go_num, ?_, HB6.out⟩
            have h8 := HR6.out
            rw [HPP.out, Hp.out] at h8
            rw [rowsP_snoc]
            exact h8
end Go.Proofs.YticnmogeknlmeaaGreatDoor.B
namespace Go.Proofs.YticnmogeknlmeaaGreatDoor.B
open Go.RowKit Go.Maps
theorem numL2_le {wd l : List UInt8} {lim k : Nat} (h : numL2 wd l lim = some k) : k ≤ lim := by
  unfold numL2 at h
  rw [Option.filter_eq_some_iff] at h
  exact of_decide_eq_true h.2
theorem parse_ok {l : List UInt8} {m : Man} (h : parseL l = some m) : m.Ok := by
  unfold parseL at h
  obtain ⟨ls, hls⟩ : ∃ ls, ls = linesL l := ⟨_, rfl⟩
  rw [← hls] at h
  have step : ∀ i m', parseTo ls (i + 1) = some m' → ∃ m0, parseTo ls i = some m0 ∧ stepM ls.length i (lnA ls i) m0 = some m' := by
    intro i m' h
    rw [parseTo] at h
    cases hp : parseTo ls i with
    | none => rw [hp] at h; cases h
    | some m0 =>
      rw [hp] at h
      simp only [] at h
      by_cases hi : i < ls.length
      · rw [if_pos hi] at h
        exact ⟨m0, rfl, h⟩
      · rw [if_neg hi] at h; cases h
  obtain ⟨m4, h4, e4⟩ := step 4 m h
  obtain ⟨m3, h3, e3⟩ := step 3 m4 h4
  obtain ⟨m2, h2, e2⟩ := step 2 m3 h3
  obtain ⟨m1, h1, e1⟩ := step 1 m2 h2
  clear h h4 h3 h2 h1 step
  rw [stepM, if_neg (by decide), if_pos rfl] at e1
  rw [stepM, if_neg (by decide), if_neg (by decide), if_pos rfl] at e2
  rw [stepM, if_neg (by decide), if_neg (by decide), if_neg (by decide), if_pos rfl] at e3
  rw [stepM, if_neg (by decide), if_neg (by decide), if_neg (by decide), if_neg (by decide)] at e4
  cases hk1 : numL2 wVer (lnA ls 1) 1073741824 with
  | none => rw [hk1] at e1; cases e1
  | some k1 =>
    rw [hk1] at e1
    simp only [] at e1
    by_cases g1 : 1 ≤ k1
    · rw [if_pos g1] at e1
      obtain rfl := Option.some.inj e1
      cases hk2 : numL2 wLen (lnA ls 2) 1048576 with
      | none => rw [hk2] at e2; cases e2
      | some k2 =>
        rw [hk2] at e2
        obtain rfl := Option.some.inj e2
        cases hk3 : (behindL wDig (lnA ls 3)).bind bytesL with
        | none => rw [hk3] at e3; cases e3
        | some r =>
          rw [hk3] at e3
          simp only [] at e3
          by_cases g3 : r.length = 32
          · rw [if_pos g3] at e3
            obtain rfl := Option.some.inj e3
            by_cases g4 : lnA ls 4 = [] ∧ ls.length = 5
            · rw [if_pos g4] at e4
              obtain rfl := Option.some.inj e4
              exact ⟨g1, numL2_le hk1, numL2_le hk2, g3⟩
            · rw [if_neg g4] at e4; cases e4
          · rw [if_neg g3] at e3; cases e3
    · rw [if_neg g1] at e1; cases e1
/-- A slot that has what its manifest says. -/
def US.Has (x : US) (s : Bool) : Prop := ∃ m, x.m s = some m ∧ (x.im s).length = m.n ∧ shaL (x.im s) = m.d
structure US.Inv (x : US) : Prop where
  ok : x.Ok
  inst : x.Inst
  whole : x.Whole
  act : x.Has x.b.ac
  oth : x.b.gd = true → x.Has (!x.b.ac)
theorem ne_not (b : Bool) : b ≠ !b := by cases b <;> decide
theorem US.Has.same {x y : US} {s : Bool} (h : x.Has s) (hm : y.m s = x.m s) (hi : y.im s = x.im s) : y.Has s := by
  obtain ⟨m, h1, h2, h3⟩ := h
  exact ⟨m, by rw [hm]; exact h1, by rw [hi]; exact h2, by rw [hi]; exact h3⟩
theorem US.Inv.none {x : US} (h : x.Inv) (k : x.b.tr = true ∨ x.b.gd = true) : x.pn = none := by
  cases hp : x.pn with
  | none => rfl
  | some y =>
    obtain ⟨m, g⟩ := y
    obtain ⟨_, _, _, e1, e2⟩ := h.inst m g hp
    rcases k with k | k
    · rw [e1] at k; cases k
    · rw [e2] at k; cases k
theorem US.Inv.install {x : US} (h : x.Inv) (l : List UInt8) : (x.install l).2.Inv := by
  unfold US.install
  cases hp : parseL l with
  | none => exact h
  | some m =>
    simp only []
    by_cases hn : 64 * x.pg < m.n
    · rw [if_pos hn]; exact h
    · rw [if_neg hn]
      cases hb : x.b.inst m.v with
      | error e => exact h
      | ok b =>
        have hbo := h.ok.b.inst hb
        have hac : b.ac = x.b.ac ∧ b.tr = false ∧ b.gd = false := by
          unfold Bt.inst at hb
          by_cases h1 : x.b.tr = true
          · rw [if_pos h1] at hb; cases hb
          · rw [if_neg h1] at hb
            by_cases h2 : m.v < x.b.ls
            · rw [if_pos h2] at hb; cases hb
            · rw [if_neg h2] at hb
              by_cases h3 : 1073741824 < m.v
              · rw [if_pos h3] at hb; cases hb
              · rw [if_neg h3] at hb
                cases hb
                exact ⟨rfl, by simpa using h1, rfl⟩
        obtain ⟨a1, a2, a3⟩ := hac
        refine ⟨⟨h.ok.pg0, h.ok.pg1, hbo, fun s => ?_, h.ok.m, fun m' g e => ?_⟩, fun m' g e => ?_, fun m' g e => ?_, ?_, fun e => ?_⟩
        · show (setB x.im (!x.b.ac) [] s).length ≤ _
          unfold setB
          split
          · exact Nat.zero_le _
          · exact h.ok.im s
        · cases e
          exact ⟨parse_ok hp, Nat.zero_le _⟩
        · cases e
          refine ⟨?_, Nat.zero_le _, by show m.n ≤ 64 * x.pg; omega, a2, a3⟩
          show (setB x.im (!x.b.ac) [] (!b.ac)).length = 0
          rw [a1, setB_same]
          rfl
        · cases e
          exact .inl rfl
        · show US.Has _ b.ac
          rw [a1]
          exact h.act.same rfl (setB_other _ _ (ne_not _))
        · have : b.gd = true := e
          rw [a3] at this; cases this
theorem US.Inv.chunk {x : US} (h : x.Inv) (t : Int) (s : List UInt8) : (x.chunk t s).2.Inv := by
  unfold US.chunk
  cases hp : x.pn with
  | none => exact h
  | some y =>
    obtain ⟨m, g⟩ := y
    obtain ⟨i1, i2, i3, i4, i5⟩ := h.inst m g hp
    simp only []
    by_cases ht : t ≠ g
    · rw [if_pos ht]; exact h
    · rw [if_neg ht]
      by_cases hb : s = [] ∨ m.n - g < s.length ∨ 256 < s.length ∨ (s.length % 64 ≠ 0 ∧ s.length < m.n - g)
      · rw [if_pos hb]; exact h
      · rw [if_neg hb]
        have hle : s.length ≤ m.n - g := by
          rcases Nat.lt_or_ge (m.n - g) s.length with k | k
          · exact absurd (.inr (.inl k)) hb
          · exact k
        have hend : s.length % 64 = 0 ∨ s.length = m.n - g := by
          rcases Decidable.em (s.length % 64 = 0) with k | k
          · exact .inl k
          · right
            rcases Nat.lt_or_ge s.length (m.n - g) with k2 | k2
            · exact absurd (.inr (.inr (.inr ⟨k, k2⟩))) hb
            · omega
        have hgm := h.whole m g hp
        have hms : 0 < s.length := List.length_pos_iff.2 (fun e => hb (.inl e))
        have hmo := (h.ok.pn m g hp).1
        refine ⟨⟨h.ok.pg0, h.ok.pg1, h.ok.b, fun t => ?_, h.ok.m, fun m' g' e => ?_⟩, fun m' g' e => ?_, fun m' g' e => ?_, h.act.same rfl (setB_other _ _ (ne_not _)), fun e => ?_⟩
        · show (setB x.im (!x.b.ac) (x.im (!x.b.ac) ++ s) t).length ≤ 64 * x.pg
          unfold setB
          split
          · rw [List.length_append]; omega
          · exact h.ok.im t
        · cases e
          exact ⟨hmo, by have := hmo.2.2.1; omega⟩
        · cases e
          refine ⟨?_, by omega, i3, i4, i5⟩
          show (setB x.im (!x.b.ac) (x.im (!x.b.ac) ++ s) (!x.b.ac)).length = _
          rw [setB_same, List.length_append]; omega
        · cases e
          omega
        · have : x.b.gd = true := e
          rw [i5] at this; cases this
theorem US.Inv.finalize {x : US} (h : x.Inv) : x.finalize.2.Inv := by
  unfold US.finalize
  cases hp : x.pn with
  | none => exact h
  | some y =>
    obtain ⟨m, g⟩ := y
    obtain ⟨i1, i2, i3, i4, i5⟩ := h.inst m g hp
    simp only []
    by_cases hg : g = m.n
    · rw [if_pos hg]
      unfold US.fin
      by_cases hd : shaL (x.im (!x.b.ac)) = m.d
      · rw [if_pos hd]
        cases hb : x.b.ready with
        | error e => exact h
        | ok b =>
          have hbo := h.ok.b.ready hb
          have hac : b.ac = x.b.ac := by
            unfold Bt.ready at hb
            by_cases h1 : x.b.tr = true
            · rw [if_pos h1] at hb; cases hb
            · rw [if_neg h1] at hb
              by_cases h2 : x.b.vo < x.b.ls
              · rw [if_pos h2] at hb; cases hb
              · rw [if_neg h2] at hb; cases hb; rfl
          refine ⟨⟨h.ok.pg0, h.ok.pg1, hbo, h.ok.im, fun s m' e => ?_, fun m' g' e => by cases e⟩, fun m' g' e => (by cases e), fun m' g' e => (by cases e), ?_, fun _ => ?_⟩
          · have e : setB x.m (!x.b.ac) (some m) s = some m' := e
            unfold setB at e
            by_cases hs : s = !x.b.ac
            · rw [if_pos hs] at e
              cases e
              exact (h.ok.pn m g hp).1
            · rw [if_neg hs] at e
              exact h.ok.m s m' e
          · show US.Has _ b.ac
            rw [hac]
            exact h.act.same (setB_other _ _ (ne_not _)) rfl
          · show US.Has _ (!b.ac)
            rw [hac]
            exact ⟨m, setB_same _ _ _, by show (x.im (!x.b.ac)).length = m.n; omega, hd⟩
      · rw [if_neg hd]; exact h
    · rw [if_neg hg]; exact h
theorem US.Inv.switch {x : US} (h : x.Inv) (t : Int) : (x.on (x.b.switch t)).Inv := by
  cases hb : x.b.switch t with
  | error e => exact h
  | ok b =>
    have hbo := h.ok.b.switch hb
    have hgd : x.b.gd = true ∧ b.ac = !x.b.ac := by
      unfold Bt.switch at hb
      by_cases h1 : t < 1
      · rw [if_pos h1] at hb; cases hb
      · rw [if_neg h1] at hb
        by_cases h2 : 7 < t
        · rw [if_pos h2] at hb; cases hb
        · rw [if_neg h2] at hb
          by_cases h3 : x.b.tr = true
          · rw [if_pos h3] at hb; cases hb
          · rw [if_neg h3] at hb
            by_cases h4 : x.b.gd = false
            · rw [if_pos h4] at hb; cases hb
            · rw [if_neg h4] at hb
              by_cases h5 : x.b.vo < x.b.ls
              · rw [if_pos h5] at hb; cases hb
              · rw [if_neg h5] at hb; cases hb; exact ⟨by simpa using h4, rfl⟩
    have hpn := h.none (.inr hgd.1)
    refine ⟨⟨h.ok.pg0, h.ok.pg1, hbo, h.ok.im, h.ok.m, h.ok.pn⟩, fun m g e => ?_, h.whole, ?_, fun _ => ?_⟩
    · have : x.pn = some (m, g) := e
      rw [hpn] at this; cases this
    · show US.Has _ b.ac
      rw [hgd.2]
      exact (h.oth hgd.1).same rfl rfl
    · show US.Has _ (!b.ac)
      rw [hgd.2, Bool.not_not]
      exact h.act.same rfl rfl
theorem US.Inv.started {x : US} (h : x.Inv) : ({ x with b := x.b.start } : US).Inv := by
  have hbo := h.ok.b.start
  by_cases ht : x.b.tr = true
  · have hpn := h.none (.inl ht)
    have hgd := (h.ok.b.t1 ht).1
    have hst : x.b.start.ac = x.b.ac ∨ x.b.start.ac = !x.b.ac := by
      unfold Bt.start
      rw [if_pos ht]
      split
      · exact .inr rfl
      · exact .inl rfl
    refine ⟨⟨h.ok.pg0, h.ok.pg1, hbo, h.ok.im, h.ok.m, h.ok.pn⟩, fun m g e => ?_, h.whole, ?_, fun _ => ?_⟩
    · have : x.pn = some (m, g) := e
      rw [hpn] at this; cases this
    · show US.Has _ x.b.start.ac
      rcases hst with e | e
      · rw [e]; exact h.act.same rfl rfl
      · rw [e]; exact (h.oth hgd).same rfl rfl
    · show US.Has _ (!x.b.start.ac)
      rcases hst with e | e
      · rw [e]; exact (h.oth hgd).same rfl rfl
      · rw [e, Bool.not_not]; exact h.act.same rfl rfl
  · have e : x.b.start = x.b := by unfold Bt.start; rw [if_neg ht]
    rw [e]
    exact h
theorem US.Inv.confirm {x : US} (h : x.Inv) : (x.on x.b.confirm).Inv := by
  cases hb : x.b.confirm with
  | error e => exact h
  | ok b =>
    have hbo := h.ok.b.confirm hb
    by_cases ht : x.b.tr = true
    · have hpn := h.none (.inl ht)
      have hac : b.ac = x.b.ac ∧ b.gd = x.b.gd := by
        unfold Bt.confirm at hb
        rw [if_pos ht] at hb
        cases hb
        exact ⟨rfl, rfl⟩
      refine ⟨⟨h.ok.pg0, h.ok.pg1, hbo, h.ok.im, h.ok.m, h.ok.pn⟩, fun m g e => ?_, h.whole, ?_, fun e => ?_⟩
      · have : x.pn = some (m, g) := e
        rw [hpn] at this; cases this
      · show US.Has _ b.ac
        rw [hac.1]
        exact h.act.same rfl rfl
      · show US.Has _ (!b.ac)
        rw [hac.1]
        have e : b.gd = true := e
        rw [hac.2] at e
        exact (h.oth e).same rfl rfl
    · unfold Bt.confirm at hb
      rw [if_neg ht] at hb
      cases hb
theorem first_inv {pg v : Nat} {s : List UInt8} (h1 : 1 ≤ v) (h2 : v ≤ 1073741824) (p1 : 1 ≤ pg) (p2 : pg ≤ 1024) (hs : s.length ≤ 64 * pg) : (first pg v ⟨v, s.length, shaL s⟩ s).Inv :=
  ⟨first_ok h1 h2 p1 p2 hs, fun _ _ e => (by cases e), fun _ _ e => (by cases e), ⟨_, rfl, rfl, rfl⟩, fun e => (by cases e)⟩
/-- What starts has what its manifest says. -/
theorem US.Inv.run {x : US} (h : x.Inv) : x.Has x.b.start.ac := (h.started.act).same rfl rfl
end Go.Proofs.YticnmogeknlmeaaGreatDoor.B
namespace Go.Proofs.YticnmogeknlmeaaGreatDoor.B
open Go.RowKit Go.Maps Go.Proofs.YticnmogeknlmeaaGreatDoorW.PrintWords Go.Proofs.YticnmogeknlmeaaGreatDoor.Later
set_option maxRecDepth 100000
set_option maxHeartbeats 4000000
theorem tri0 (pg : Nat) : Tri pg T0 := ⟨fun _ _ _ _ => rfl, fun _ _ h => (by cases h), Nat.zero_le _, Nat.zero_le _, Nat.zero_le _⟩
/-- A new device, and an updater of it. -/
theorem TAt.new {w : World} {u a pg : Nat} {pl ks : Int} (hU : UpAt w u a pg 64) (hM : MdAt w a ⟨T0, none, pl, ks, 0, 0, 64, 0⟩) (h1 : 2 * (pg : Int) + 4 ≤ pl) (h2 : 2 * (pg : Int) + 4 ≤ ks) (hp : pg ≤ 1024) : TAt w u a pg T0 :=
  ⟨_, hU, hM, ⟨rfl, rfl, h1, h2, rfl⟩, tri0 pg, hp⟩
theorem begun_any (pg v : Nat) (p1 : 1 ≤ pg) (p2 : pg ≤ 1024) (v1 : 1 ≤ v) (v2 : v ≤ 1073741824) (s : List UInt8) (hs : s.length ≤ 64 * pg) (w : World) : Calls Tryz.prog 9 #[.int .i64 (pg : Int), .int .i64 (v : Int), .string (bs s)] w fun e w' => ∃ u a : Nat, e = .returned (.tuple #[.pointer (some ⟨u, 0, none⟩), .pointer (some ⟨a, 0, none⟩), .bool true]) ∧ w.heap.size ≤ u ∧ w.heap.size ≤ a ∧ UsAt w' u a (first pg v ⟨v, s.length, shaL s⟩ s) ∧ Below w.heap.size w w' := by
  go_enter Tryz.func9, Tryz.ntmps9
  go_wp2_with fail
  refine (mnew_any _ _ _ _ _ _).mono ?_
  rintro e w1 ⟨a, rfl, ha, hM, hB⟩
  have HM := Lib.hid hM
  have HB := Lib.hid hB
  have hn := fun W => unew_ok a pg 64 (by omega) (by omega) (by decide) (by decide) W
  have HN := Lib.hid hn
  clear hM hB hn
  go_wp2_with fail
  refine (HN.out _).mono ?_
  rintro e w2 ⟨rfl, hU, hB⟩
  have HT := Lib.hid (TAt.new hU (HM.out.below hB) (by omega) (by omega) p2)
  have HB2 := Lib.hid (HB.out.trans (hB.mono HB.out.size))
  have hs1 := HB.out.size
  obtain ⟨u, hu⟩ : ∃ u, u = w1.heap.size := ⟨_, rfl⟩
  rw [← hu] at HT hs1 ⊢
  clear hU hB hu
  go_wp2_with fail
  refine (prov_ok HT.out p1 v ⟨v1, v2⟩ s hs).mono ?_
  rintro e w3 ⟨rfl, hU, hm⟩
  have HU := Lib.hid hU
  have HM3 := Lib.hid (hm.over HB2.out ha)
  clear hU hm
  go_wp2_with fail
  go_ret3
  exact ⟨u, a, rfl, hs1, ha, HU.out, HM3.out⟩
end Go.Proofs.YticnmogeknlmeaaGreatDoor.B
namespace Go.Proofs.YticnmogeknlmeaaGreatDoor.B
open Go.RowKit Go.Maps Go.Proofs.YticnmogeknlmeaaGreatDoorW.PrintWords Go.Proofs.YticnmogeknlmeaaGreatDoor.Later
set_option maxRecDepth 100000
set_option maxHeartbeats 4000000
theorem US.install_eq {x : US} {m : Man} (hm : m.Ok) (hn : m.n ≤ 64 * x.pg) (ht : x.b.tr = false) (hl : x.b.ls ≤ m.v) : x.install (manT m) = (0, { x with im := setB x.im (!x.b.ac) [], b := { x.b with gd := false, vo := m.v }, pn := some (m, 0) }) := by
  have h2 := hm.2.1
  unfold US.install
  rw [parse_text m hm]
  simp only []
  rw [if_neg (by omega)]
  unfold Bt.inst
  rw [if_neg (by rw [ht]; decide), if_neg (by omega), if_neg (by omega)]
theorem US.chunk_eq {x : US} {m : Man} {g : Nat} {s : List UInt8} (hp : x.pn = some (m, g)) (h0 : s ≠ []) (hl : s.length ≤ m.n - g) (h4 : s.length ≤ 256) (h6 : s.length % 64 = 0 ∨ s.length = m.n - g) : x.chunk g s = (0, { x with im := setB x.im (!x.b.ac) (x.im (!x.b.ac) ++ s), pn := some (m, g + s.length) }) := by
  unfold US.chunk
  rw [hp]
  simp only []
  rw [if_neg (by simp), if_neg]
  rintro (k | k | k | k)
  · exact h0 k
  · omega
  · omega
  · omega
theorem US.fin_eq {x : US} {m : Man} (hp : x.pn = some (m, m.n)) (hd : shaL (x.im (!x.b.ac)) = m.d) (ht : x.b.tr = false) (hv : x.b.ls ≤ x.b.vo) : x.finalize = (0, { x with m := setB x.m (!x.b.ac) (some m), b := { x.b with gd := true }, pn := none }) := by
  unfold US.finalize
  rw [hp]
  simp only [if_true]
  unfold US.fin
  rw [if_pos hd]
  unfold Bt.ready
  rw [if_neg (by rw [ht]; decide), if_neg (by omega)]
theorem Bt.switch_eq {b : Bt} {t : Int} (h1 : 1 ≤ t) (h7 : t ≤ 7) (ht : b.tr = false) (hg : b.gd = true) (hv : b.ls ≤ b.vo) : b.switch t = .ok ⟨!b.ac, true, true, t.toNat, b.ls, b.vo, b.va⟩ := by
  unfold Bt.switch
  rw [if_neg (by omega), if_neg (by omega), if_neg (by rw [ht]; decide), if_neg (by rw [hg]; decide), if_neg (by omega)]
theorem manT_len (m : Man) (hv : m.v < 2147483648) (hn : m.n < 2147483648) (hd : m.d.length = 32) : (manT m).length < 4294967281 := by
  have l1 : (digL m.v).length ≤ 10 := digL_ten 9 _ (by omega)
  have l2 : (digL m.n).length ≤ 10 := digL_ten 9 _ (by omega)
  have l3 : (hexL m.d).length = 64 := by rw [hexL_len, hd]
  have a1 : wA.length ≤ 100 := by decide
  have a2 : wB.length ≤ 100 := by decide
  have a3 : wC.length ≤ 100 := by decide
  unfold manT
  simp only [List.length_append, List.length_cons, List.length_nil]
  omega
/-- A short image, at once. -/
theorem linst_any {w : World} {u a : Nat} {x x1 x2 x3 : US} (h : UsAt w u a x) (hx : x.Inv) (v : Nat) (hv : v < 2147483648) (s : List UInt8) (h0 : s ≠ []) (hs : s.length ≤ 64) (e1 : x.install (manT ⟨v, s.length, shaL s⟩) = (0, x1)) (e2 : x1.chunk 0 s = (0, x2)) (e3 : x2.finalize = (0, x3)) :
    Calls Tryz.prog 29 #[.pointer (some ⟨u, 0, none⟩), .int .i64 (v : Int), .string (bs s)] w fun e w' => e = .returned (.bool true) ∧ UsAt w' u a x3 ∧ Mut (only a) w w' := by
  have i1 : x1.Inv := by have := hx.install (manT ⟨v, s.length, shaL s⟩); rw [e1] at this; exact this
  have i2 : x2.Inv := by have := i1.chunk 0 s; rw [e2] at this; exact this
  have hl : (manT ⟨v, s.length, shaL s⟩).length < 4294967281 := manT_len _ hv (by show s.length < _; omega) rfl
  have Hinst := Lib.hid (fun W (hW : UsAt W u a x) => uinst_any hW hx.ok (manT ⟨v, s.length, shaL s⟩) hl (fun m hm => parse_ok hm))
  rw [e1] at Hinst
  have Hchunk := Lib.hid (fun W (hW : UsAt W u a x1) => uchunk_any hW i1.ok i1.inst i1.whole 0 s (by omega))
  rw [e2] at Hchunk
  have Hfin := Lib.hid (fun W (hW : UsAt W u a x2) => ufin_any hW i2.ok i2.inst)
  rw [e3] at Hfin
  have Htext := Lib.hid (fun W => ltext_any v s hv (by omega) W)
  have H := Lib.hid h
  have hsz := bs_size s
  have hpos : 0 < s.length := List.length_pos_iff.2 h0
  have hd : decide ((0 : Int) < (s.length : Int)) = true := decide_eq_true (by omega)
  have hd2 : decide ((s.length : Int) < 256) = true := decide_eq_true (by omega)
  have hd3 : decide ((256 : Int) < (s.length : Int)) = false := decide_eq_false (by omega)
  clear hl e1 e2 e3 h
  go_enter Tryz.func29, Tryz.ntmps29
  go_wp2_with fail
  refine (Htext.out _).mono ?_
  rintro e w1 ⟨rfl, hB⟩
  have HB1 := Lib.hid hB
  have H1 := Lib.hid (H.out.below hB)
  clear hB
  go_wp2_with fail
  refine (Hinst.out _ H1.out).mono ?_
  rintro e w2 ⟨rfl, hU, hm⟩
  have H2 := Lib.hid hU
  have M2 := Lib.hid ((Mut.of_below (S := only a) HB1.out).trans hm)
  clear hU hm
  go_wp2_with fail
  go_loopg [7, 8] 1 (fun g' v7 v8 wx => (g' = 1 ∧ v7 = .int .i64 0 ∧ UsAt wx u a x1 ∧ Mut (only a) w wx) ∨ (g' = 0 ∧ v7 = .int .i64 256 ∧ UsAt wx u a x2 ∧ Mut (only a) w wx))
  case atStart => exact .inl ⟨rfl, rfl, H2.out, M2.out⟩
  case round =>
    rcases hrel with ⟨rfl, rfl, hU, hM⟩ | ⟨rfl, rfl, hU, hM⟩
    · have HU := Lib.hid hU
      have HM := Lib.hid hM
      clear hU hM
      have hx : (bs s).extract 0 s.length = bs s := by rw [bs_extract, List.take_of_length_le (Nat.le_refl _)]; rfl
      go_wp2_with fail
      refine (Hchunk.out _ HU.out).mono ?_
      rintro e w3 ⟨rfl, hU, hm⟩
      have H3 := Lib.hid hU
      have M3 := Lib.hid (HM.out.trans hm)
      clear hU hm
      go_wp2_with fail
      go_roundg 0
      case measure => omega
      case rel => exact .inr ⟨rfl, rfl, H3.out, M3.out⟩
    · have HU := Lib.hid hU
      have HM := Lib.hid hM
      clear hU hM
      have hd4 : decide ((256 : Int) < (s.length : Int)) = false := decide_eq_false (by omega)
      go_wp2_with fail
      refine (Hfin.out _ HU.out).mono ?_
      rintro e w3 ⟨rfl, hU, hm⟩
      have H3 := Lib.hid hU
      have M3 := Lib.hid (HM.out.trans hm)
      clear hU hm
      go_wp2_with fail
      go_ret
      exact ⟨rfl, H3.out, M3.out⟩
end Go.Proofs.YticnmogeknlmeaaGreatDoor.B
