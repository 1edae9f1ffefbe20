/- Helper: the statement's own rows of pairs, and whether pages hold them; walked. No condition. -/
import Derived.Test.YteilmbhnbmmcjaaNc
namespace Go.Proofs.Yteilmbhnbmmcjaa.B
open Go.RowKit Go.Proofs.YteilmbhnbmmcjaaW.PrintWords Go.Proofs.Yteilmbhnbmmcjaa.Later
set_option maxRecDepth 100000
set_option maxHeartbeats 3200000
def WithRel (l : List Pr) (p : Pr) (b : Bool) (w : World) (v q c : Value) (wr : World) : Prop :=
  ∃ (i : Nat) (D : List Pr) (b' : Bool), i ≤ l.length ∧ c = .int .i64 i ∧ q = .bool b' ∧ prK.R 63 wr w.heap.size (fun _ => True) v D ∧ D.length ≤ 2 * i ∧ D ++ wF (l.drop i) b' p = wF l b p ∧ Below w.heap.size w wr
theorem wF_step (l : List Pr) (i : Nat) (h : i < l.length) (b : Bool) (p : Pr) :
    wF (l.drop i) b p = (if (!b && !kLt (prA l i).k p.k) = true then [p] else []) ++ ((if (prA l i).k ≠ p.k then [prA l i] else []) ++ wF (l.drop (i + 1)) (b || (!b && !kLt (prA l i).k p.k)) p) := by
  rw [drop_split l i h]; rfl
theorem with_any (l : List Pr) (hn : l.length ≤ 10000) (p : Pr) (b : Bool) (A : Option Addr) (c : Nat) (w : World) (hC : Kd.C prK w A l.length l) :
    Calls Try.prog 33 #[.slice A l.length c, .agg #[.string (bs p.k), .string (bs p.v)], .bool b] w fun e w' => ∃ v, e = .returned v ∧ prK.R 63 w' w.heap.size (fun _ => True) v (wF l b p) ∧ Below w.heap.size w w' := by
  have HC := Lib.hid hC
  clear hC
  have hpp : (⟨p.k, p.v⟩ : Pr) = p := rfl
  have hwf := fun i h b' => wF_step l i h b' p
  obtain ⟨Y, hY⟩ : ∃ Y, Y = wF l b p := ⟨_, rfl⟩
  obtain ⟨k, hk⟩ : ∃ k, k = p.k := ⟨_, rfl⟩
  obtain ⟨u, hu⟩ : ∃ u, u = p.v := ⟨_, rfl⟩
  rw [← hk] at hwf hpp ⊢
  rw [← hu] at hpp ⊢
  rw [← hY]
  have HY := Lib.hid hY
  have Hp := Lib.hid hpp
  have Hwf := Lib.hid hwf
  clear hY hpp hwf hk hu
  have hK := bs_toList k
  go_enter Try.func33, Try.ntmps33
  obtain ⟨w1, hw1⟩ : ∃ w1, w1 = w.alloc (.cells #[.string (bs k), .string (bs u)] 63) := ⟨_, rfl⟩
  have hb1 : Below w.heap.size w w1 := by rw [hw1]; exact (Below.refl _ _).alloc (Nat.le_refl _) _
  have hk1 : Blk w1 w.heap.size #[.string (bs k), .string (bs u)] 63 := by rw [hw1]; exact Blk.new w _ 63
  go_upto_region 1 with fail
  rw [← hw1]
  have HC1 := Lib.hid (Kd.C_below HC.out hb1)
  have Hb1 := Lib.hid hb1
  have Hk1 := Lib.hid hk1
  clear hw1 hb1 hk1 HC
  obtain ⟨B, hB⟩ : ∃ B, B = w.heap.size := ⟨_, rfl⟩
  rw [← hB] at Hk1 ⊢
  have HBB := Lib.hid hB
  clear hB
  go_upto_region 2 with fail
  obtain ⟨w2, hw2⟩ : ∃ w2, w2 = w1.alloc (.cells #[] 63) := ⟨_, rfl⟩
  rw [← hw2]
  have hb2 : Below w1.heap.size w1 w2 := by rw [hw2]; exact (Below.refl _ _).alloc (Nat.le_refl _) _
  have hr2 : prK.R 63 w2 w1.heap.size (fun _ => True) (.slice (some ⟨w1.heap.size, 0, none⟩) 0 0) [] := R_of (L := []) (c := 0) (by rw [hw2]; exact Blk.new w1 _ 63) (Nat.le_refl _) rfl (by simp) (by simp [maxLen]) rfl
  have HR2 := Lib.hid hr2
  have Hb2 := Lib.hid hb2
  clear hw2 hb2 hr2
  go_wp2
  go_loopw [7, 8, 9] (fun v q c wr => WithRel l p b w1 v q c wr) (fun _ _ c _ => l.length - (intOf c).toNat)
  case atStart => exact ⟨0, [], b, by omega, rfl, rfl, HR2.out, by simp, by simp, Hb2.out⟩
  case round =>
    obtain ⟨i, D, b', hi, rfl, rfl, hR, hDl, hD, hB⟩ := hrel
    obtain ⟨A1, c1, rfl⟩ := Kd.R_slice hR
    have HR := Lib.hid hR
    have HB := Lib.hid hB
    have HD := Lib.hid hD
    clear hR hB hD HR2 Hb2
    by_cases hlt : i < l.length
    · skip
      obtain ⟨ad, e0, d0, d1⟩ := at_pr (Kd.C_below HC1.out HB.out) (i : Int) (by omega) (by omega)
      cases e0
      rw [Int.toNat_natCast] at d0 d1
      have d2 : wr.cell? ⟨B, 0, none⟩ = some (.string (bs k)) := (Hk1.out.below HB.out).cell 0
      have d3 : wr.cell? ⟨B, 1, none⟩ = some (.string (bs u)) := (Hk1.out.below HB.out).cell 1
      obtain ⟨y, hy⟩ : ∃ y, y = prA l i := ⟨_, rfl⟩
      rw [← hy] at d0 d1
      have Hy := Lib.hid hy
      have hYl := bs_toList y.k
      obtain ⟨q, hq⟩ : ∃ q, Go.Op.bytesLess y.k k = q := ⟨_, rfl⟩
      obtain ⟨e, he⟩ : ∃ e, (y.k == k) = e := ⟨_, rfl⟩
      have Hq := Lib.hid (show kLt y.k k = q from hq)
      have Hqe := Lib.hid (show q = true → e = false from fun h => by rw [← he, beq_eq_false_iff_ne]; rw [h] at hq; exact kLt_ne hq)
      clear hy
      cases b' with
      | true =>
        cases e with
        | true =>
          go_upto_region 5 with fail
          have l0 := fun n => later_cell d0 n
          have l1 := fun n => later_cell d2 n
          refine wp_region_later (by kernel_rfl) (by kernel_rfl) ?_
          repeat go_big_quiet_step (fail)
          refine wpQuiet_nil ?_
          intro w8 hw8
          have HR8 := Lib.hid (Kd.R_below HR.out (later_of hw8))
          have HB8 := Lib.hid (HB.out.trans ((later_of hw8).mono HB.out.size))
          clear hw8 l0 l1
          clear d0 d1 d2 d3
          obtain ⟨_, ex, x0, x1⟩ := at_pr (Kd.C_below HC1.out HB8.out) (i : Int) (by omega) (by omega)
          cases ex
          rw [Int.toNat_natCast, ← Hy.out] at x0 x1
          have x2 := (Hk1.out.below HB8.out).cell 0
          have x3 := (Hk1.out.below HB8.out).cell 1
          replace x2 : _ = some (Value.string (bs k)) := x2
          replace x3 : _ = some (Value.string (bs u)) := x3
          go_upto_region 7 with fail
          have l0 := fun n => later_cell x0 n
          have l1 := fun n => later_cell x2 n
          refine wp_region_later (by kernel_rfl) (by kernel_rfl) ?_
          repeat go_big_quiet_step (fail)
          refine wpQuiet_nil ?_
          intro w10 hw10
          have HR10 := Lib.hid (Kd.R_below HR8.out (later_of hw10))
          have HB10 := Lib.hid (HB8.out.trans ((later_of hw10).mono HB8.out.size))
          clear hw10 l0 l1
          clear x0 x1 x2 x3
          go_wp2
          go_roundw
          case rel => exact ⟨i + 1, D, true, by omega, by go_num, rfl, by first | exact HR10.out | (have hh := HR10.out; simp only [List.length_append, List.length_singleton] at hh; exact hh), by (try simp only [List.length_append, List.length_singleton]); (try have hh := HEl.out); omega, by rw [← HD.out, Hwf.out i hlt _, ← Hy.out, Hq.out]; simp [beq_iff_eq.1 he, Hp.out], HB10.out⟩
          case measure => simp [intOf]; omega
        | false =>
          go_upto_region 5 with fail
          have l0 := fun n => later_cell d0 n
          have l1 := fun n => later_cell d2 n
          refine wp_region_later (by kernel_rfl) (by kernel_rfl) ?_
          repeat go_big_quiet_step (fail)
          refine wpQuiet_nil ?_
          intro w8 hw8
          have HR8 := Lib.hid (Kd.R_below HR.out (later_of hw8))
          have HB8 := Lib.hid (HB.out.trans ((later_of hw8).mono HB.out.size))
          clear hw8 l0 l1
          clear d0 d1 d2 d3
          obtain ⟨_, ex, x0, x1⟩ := at_pr (Kd.C_below HC1.out HB8.out) (i : Int) (by omega) (by omega)
          cases ex
          rw [Int.toNat_natCast, ← Hy.out] at x0 x1
          have x2 := (Hk1.out.below HB8.out).cell 0
          have x3 := (Hk1.out.below HB8.out).cell 1
          replace x2 : _ = some (Value.string (bs k)) := x2
          replace x3 : _ = some (Value.string (bs u)) := x3
          go_upto_region 7 with fail
          have l0 := fun n => later_cell x0 n
          have l1 := fun n => later_cell x2 n
          refine wp_region_later (by kernel_rfl) (by kernel_rfl) ?_
          repeat go_big_quiet_step (fail)
          refine wpQuiet_nil ?_
          intro w10 hw10
          have HR10 := Lib.hid (Kd.R_below HR8.out (later_of hw10))
          have HB10 := Lib.hid (HB8.out.trans ((later_of hw10).mono HB8.out.size))
          clear hw10 l0 l1
          clear x0 x1 x2 x3
          obtain ⟨_, ez, z0, z1⟩ := at_pr (Kd.C_below HC1.out HB10.out) (i : Int) (by omega) (by omega)
          cases ez
          rw [Int.toNat_natCast, ← Hy.out] at z0 z1
          have z2 := (Hk1.out.below HB10.out).cell 0
          have z3 := (Hk1.out.below HB10.out).cell 1
          replace z2 : _ = some (Value.string (bs k)) := z2
          replace z3 : _ = some (Value.string (bs u)) := z3
          go_upto_region 8 with fail
          go_wp2_with (first
            | (at_builtin; (refine Kd.R_append prK (w0 := w1) w1.heap.size rfl (.tmp 42) (.tmp 47) 58 63 _ 32 rfl Try.underlying58 info63 rfl (by decide) (by decide) (.slice A1 D.length c1) D ⟨y.k, y.v⟩ [.string (bs y.k), .string (bs y.v)] (fun _ => True) (fun _ => False) rfl rfl (prK_mkM _ _ _ ⟨y.k, y.v⟩) (fun _ hk => hk.elim) (fun _ _ => trivial) HR10.out HB10.out ?s1 ?l1 ?_); (case s1 => exact HB10.out.size); (case l1 => (try simp only [List.length_append, List.length_singleton]); (try have hh := HEl.out); omega); intro w11v w11 w11r w11b w11g w11t; have HR11 := Lib.hid w11r; have HB11 := Lib.hid w11b; obtain ⟨w11A, w11c, w11e⟩ := Kd.R_slice HR11.out; subst w11e; clear w11r w11b w11g w11t))
          go_wp2
          go_roundw
          case rel => exact ⟨i + 1, (D ++ [(⟨y.k, y.v⟩ : Pr)]), true, by omega, by go_num, rfl, by first | exact HR11.out | (have hh := HR11.out; simp only [List.length_append, List.length_singleton] at hh; exact hh), by (try simp only [List.length_append, List.length_singleton]); (try have hh := HEl.out); omega, by rw [← HD.out, Hwf.out i hlt _, ← Hy.out, Hq.out]; simp [beq_eq_false_iff_ne.1 he, Hp.out], HB11.out⟩
          case measure => simp [intOf]; omega
      | false =>
        cases q with
        | true =>
          obtain rfl : e = false := Hqe.out rfl
          go_upto_region 5 with fail
          have l0 := fun n => later_cell d0 n
          have l1 := fun n => later_cell d2 n
          refine wp_region_later (by kernel_rfl) (by kernel_rfl) ?_
          repeat go_big_quiet_step (fail)
          refine wpQuiet_nil ?_
          intro w8 hw8
          have HR8 := Lib.hid (Kd.R_below HR.out (later_of hw8))
          have HB8 := Lib.hid (HB.out.trans ((later_of hw8).mono HB.out.size))
          clear hw8 l0 l1
          clear d0 d1 d2 d3
          obtain ⟨_, ex, x0, x1⟩ := at_pr (Kd.C_below HC1.out HB8.out) (i : Int) (by omega) (by omega)
          cases ex
          rw [Int.toNat_natCast, ← Hy.out] at x0 x1
          have x2 := (Hk1.out.below HB8.out).cell 0
          have x3 := (Hk1.out.below HB8.out).cell 1
          replace x2 : _ = some (Value.string (bs k)) := x2
          replace x3 : _ = some (Value.string (bs u)) := x3
          go_upto_region 7 with fail
          have l0 := fun n => later_cell x0 n
          have l1 := fun n => later_cell x2 n
          refine wp_region_later (by kernel_rfl) (by kernel_rfl) ?_
          repeat go_big_quiet_step (fail)
          refine wpQuiet_nil ?_
          intro w10 hw10
          have HR10 := Lib.hid (Kd.R_below HR8.out (later_of hw10))
          have HB10 := Lib.hid (HB8.out.trans ((later_of hw10).mono HB8.out.size))
          clear hw10 l0 l1
          clear x0 x1 x2 x3
          obtain ⟨_, ez, z0, z1⟩ := at_pr (Kd.C_below HC1.out HB10.out) (i : Int) (by omega) (by omega)
          cases ez
          rw [Int.toNat_natCast, ← Hy.out] at z0 z1
          have z2 := (Hk1.out.below HB10.out).cell 0
          have z3 := (Hk1.out.below HB10.out).cell 1
          replace z2 : _ = some (Value.string (bs k)) := z2
          replace z3 : _ = some (Value.string (bs u)) := z3
          go_upto_region 8 with fail
          go_wp2_with (first
            | (at_builtin; (refine Kd.R_append prK (w0 := w1) w1.heap.size rfl (.tmp 42) (.tmp 47) 58 63 _ 32 rfl Try.underlying58 info63 rfl (by decide) (by decide) (.slice A1 D.length c1) D ⟨y.k, y.v⟩ [.string (bs y.k), .string (bs y.v)] (fun _ => True) (fun _ => False) rfl rfl (prK_mkM _ _ _ ⟨y.k, y.v⟩) (fun _ hk => hk.elim) (fun _ _ => trivial) HR10.out HB10.out ?s1 ?l1 ?_); (case s1 => exact HB10.out.size); (case l1 => (try simp only [List.length_append, List.length_singleton]); (try have hh := HEl.out); omega); intro w11v w11 w11r w11b w11g w11t; have HR11 := Lib.hid w11r; have HB11 := Lib.hid w11b; obtain ⟨w11A, w11c, w11e⟩ := Kd.R_slice HR11.out; subst w11e; clear w11r w11b w11g w11t))
          go_wp2
          go_roundw
          case rel => exact ⟨i + 1, (D ++ [(⟨y.k, y.v⟩ : Pr)]), false, by omega, by go_num, rfl, by first | exact HR11.out | (have hh := HR11.out; simp only [List.length_append, List.length_singleton] at hh; exact hh), by (try simp only [List.length_append, List.length_singleton]); (try have hh := HEl.out); omega, by rw [← HD.out, Hwf.out i hlt _, ← Hy.out, Hq.out]; simp [beq_eq_false_iff_ne.1 he, Hp.out], HB11.out⟩
          case measure => simp [intOf]; omega
        | false =>
          cases e with
          | true =>
            go_upto_region 5 with fail
            have l0 := fun n => later_cell d0 n
            have l1 := fun n => later_cell d2 n
            refine wp_region_later (by kernel_rfl) (by kernel_rfl) ?_
            repeat go_big_quiet_step (fail)
            refine wpQuiet_nil ?_
            intro w8 hw8
            have HR8 := Lib.hid (Kd.R_below HR.out (later_of hw8))
            have HB8 := Lib.hid (HB.out.trans ((later_of hw8).mono HB.out.size))
            clear hw8 l0 l1
            clear d0 d1 d2 d3
            obtain ⟨_, ex, x0, x1⟩ := at_pr (Kd.C_below HC1.out HB8.out) (i : Int) (by omega) (by omega)
            cases ex
            rw [Int.toNat_natCast, ← Hy.out] at x0 x1
            have x2 := (Hk1.out.below HB8.out).cell 0
            have x3 := (Hk1.out.below HB8.out).cell 1
            replace x2 : _ = some (Value.string (bs k)) := x2
            replace x3 : _ = some (Value.string (bs u)) := x3
            go_upto_region 6 with fail
            go_wp2_with (first
              | (at_builtin; (refine Kd.R_append prK (w0 := w1) w1.heap.size rfl (.tmp 30) (.tmp 32) 58 63 _ 32 rfl Try.underlying58 info63 rfl (by decide) (by decide) (.slice A1 D.length c1) D ⟨k, u⟩ [.string (bs k), .string (bs u)] (fun _ => True) (fun _ => False) rfl rfl (prK_mkM _ _ _ ⟨k, u⟩) (fun _ hk => hk.elim) (fun _ _ => trivial) HR8.out HB8.out ?s1 ?l1 ?_); (case s1 => exact HB8.out.size); (case l1 => (try simp only [List.length_append, List.length_singleton]); (try have hh := HEl.out); omega); intro w9v w9 w9r w9b w9g w9t; have HR9 := Lib.hid w9r; have HB9 := Lib.hid w9b; obtain ⟨E, hE⟩ : ∃ E, E = D ++ [(⟨k, u⟩ : Pr)] := ⟨_, rfl⟩; have hEl : E.length = D.length + 1 := (by rw [hE]; simp); rw [← hE] at w9r; have HE := Lib.hid hE; have HEl := Lib.hid hEl; have HR9 := Lib.hid w9r; clear hE hEl; obtain ⟨w9A, w9c, w9e⟩ := Kd.R_slice HR9.out; subst w9e; clear w9r w9b w9g w9t))
            clear x0 x1 x2 x3
            obtain ⟨_, ey, y0, y1⟩ := at_pr (Kd.C_below HC1.out HB9.out) (i : Int) (by omega) (by omega)
            cases ey
            rw [Int.toNat_natCast, ← Hy.out] at y0 y1
            have y2 := (Hk1.out.below HB9.out).cell 0
            have y3 := (Hk1.out.below HB9.out).cell 1
            replace y2 : _ = some (Value.string (bs k)) := y2
            replace y3 : _ = some (Value.string (bs u)) := y3
            go_upto_region 7 with fail
            have l0 := fun n => later_cell y0 n
            have l1 := fun n => later_cell y2 n
            refine wp_region_later (by kernel_rfl) (by kernel_rfl) ?_
            repeat go_big_quiet_step (fail)
            refine wpQuiet_nil ?_
            intro w10 hw10
            have HR10 := Lib.hid (Kd.R_below HR9.out (later_of hw10))
            have HB10 := Lib.hid (HB9.out.trans ((later_of hw10).mono HB9.out.size))
            clear hw10 l0 l1
            clear y0 y1 y2 y3
            go_wp2
            go_roundw
            case rel => exact ⟨i + 1, E, true, by omega, by go_num, rfl, by first | exact HR10.out | (have hh := HR10.out; simp only [List.length_append, List.length_singleton] at hh; exact hh), by (try simp only [List.length_append, List.length_singleton]); (try have hh := HEl.out); omega, by rw [← HD.out, Hwf.out i hlt _, ← Hy.out, Hq.out]; simp [beq_iff_eq.1 he, Hp.out, HE.out], HB10.out⟩
            case measure => simp [intOf]; omega
          | false =>
            go_upto_region 5 with fail
            have l0 := fun n => later_cell d0 n
            have l1 := fun n => later_cell d2 n
            refine wp_region_later (by kernel_rfl) (by kernel_rfl) ?_
            repeat go_big_quiet_step (fail)
            refine wpQuiet_nil ?_
            intro w8 hw8
            have HR8 := Lib.hid (Kd.R_below HR.out (later_of hw8))
            have HB8 := Lib.hid (HB.out.trans ((later_of hw8).mono HB.out.size))
            clear hw8 l0 l1
            clear d0 d1 d2 d3
            obtain ⟨_, ex, x0, x1⟩ := at_pr (Kd.C_below HC1.out HB8.out) (i : Int) (by omega) (by omega)
            cases ex
            rw [Int.toNat_natCast, ← Hy.out] at x0 x1
            have x2 := (Hk1.out.below HB8.out).cell 0
            have x3 := (Hk1.out.below HB8.out).cell 1
            replace x2 : _ = some (Value.string (bs k)) := x2
            replace x3 : _ = some (Value.string (bs u)) := x3
            go_upto_region 6 with fail
            go_wp2_with (first
              | (at_builtin; (refine Kd.R_append prK (w0 := w1) w1.heap.size rfl (.tmp 30) (.tmp 32) 58 63 _ 32 rfl Try.underlying58 info63 rfl (by decide) (by decide) (.slice A1 D.length c1) D ⟨k, u⟩ [.string (bs k), .string (bs u)] (fun _ => True) (fun _ => False) rfl rfl (prK_mkM _ _ _ ⟨k, u⟩) (fun _ hk => hk.elim) (fun _ _ => trivial) HR8.out HB8.out ?s1 ?l1 ?_); (case s1 => exact HB8.out.size); (case l1 => (try simp only [List.length_append, List.length_singleton]); (try have hh := HEl.out); omega); intro w9v w9 w9r w9b w9g w9t; have HR9 := Lib.hid w9r; have HB9 := Lib.hid w9b; obtain ⟨E, hE⟩ : ∃ E, E = D ++ [(⟨k, u⟩ : Pr)] := ⟨_, rfl⟩; have hEl : E.length = D.length + 1 := (by rw [hE]; simp); rw [← hE] at w9r; have HE := Lib.hid hE; have HEl := Lib.hid hEl; have HR9 := Lib.hid w9r; clear hE hEl; obtain ⟨w9A, w9c, w9e⟩ := Kd.R_slice HR9.out; subst w9e; clear w9r w9b w9g w9t))
            clear x0 x1 x2 x3
            obtain ⟨_, ey, y0, y1⟩ := at_pr (Kd.C_below HC1.out HB9.out) (i : Int) (by omega) (by omega)
            cases ey
            rw [Int.toNat_natCast, ← Hy.out] at y0 y1
            have y2 := (Hk1.out.below HB9.out).cell 0
            have y3 := (Hk1.out.below HB9.out).cell 1
            replace y2 : _ = some (Value.string (bs k)) := y2
            replace y3 : _ = some (Value.string (bs u)) := y3
            go_upto_region 7 with fail
            have l0 := fun n => later_cell y0 n
            have l1 := fun n => later_cell y2 n
            refine wp_region_later (by kernel_rfl) (by kernel_rfl) ?_
            repeat go_big_quiet_step (fail)
            refine wpQuiet_nil ?_
            intro w10 hw10
            have HR10 := Lib.hid (Kd.R_below HR9.out (later_of hw10))
            have HB10 := Lib.hid (HB9.out.trans ((later_of hw10).mono HB9.out.size))
            clear hw10 l0 l1
            clear y0 y1 y2 y3
            obtain ⟨_, ez, z0, z1⟩ := at_pr (Kd.C_below HC1.out HB10.out) (i : Int) (by omega) (by omega)
            cases ez
            rw [Int.toNat_natCast, ← Hy.out] at z0 z1
            have z2 := (Hk1.out.below HB10.out).cell 0
            have z3 := (Hk1.out.below HB10.out).cell 1
            replace z2 : _ = some (Value.string (bs k)) := z2
            replace z3 : _ = some (Value.string (bs u)) := z3
            go_upto_region 8 with fail
            go_wp2_with (first
              | (at_builtin; (refine Kd.R_append prK (w0 := w1) w1.heap.size rfl (.tmp 42) (.tmp 47) 58 63 _ 32 rfl Try.underlying58 info63 rfl (by decide) (by decide) (.slice w9A E.length w9c) E ⟨y.k, y.v⟩ [.string (bs y.k), .string (bs y.v)] (fun _ => True) (fun _ => False) rfl rfl (prK_mkM _ _ _ ⟨y.k, y.v⟩) (fun _ hk => hk.elim) (fun _ _ => trivial) HR10.out HB10.out ?s1 ?l1 ?_); (case s1 => exact HB10.out.size); (case l1 => (try simp only [List.length_append, List.length_singleton]); (try have hh := HEl.out); omega); intro w11v w11 w11r w11b w11g w11t; have HR11 := Lib.hid w11r; have HB11 := Lib.hid w11b; obtain ⟨w11A, w11c, w11e⟩ := Kd.R_slice HR11.out; subst w11e; clear w11r w11b w11g w11t))
            go_wp2
            go_roundw
            case rel => exact ⟨i + 1, (E ++ [(⟨y.k, y.v⟩ : Pr)]), true, by omega, by go_num, rfl, by first | exact HR11.out | (have hh := HR11.out; simp only [List.length_append, List.length_singleton] at hh; exact hh), by (try simp only [List.length_append, List.length_singleton]); (try have hh := HEl.out); omega, by rw [← HD.out, Hwf.out i hlt _, ← Hy.out, Hq.out]; simp [beq_eq_false_iff_ne.1 he, Hp.out, HE.out], HB11.out⟩
            case measure => simp [intOf]; omega
    · obtain rfl : i = l.length := by omega
      rw [List.drop_length] at HD
      have hlow : w.heap.size ≤ w1.heap.size := Hb1.out.size
      cases b' with
      | true =>
        go_wp2
        go_ret
        have h9 := HD.out
        simp only [wF, if_true, List.append_nil] at h9
        rw [HY.out, ← h9]
        exact ⟨_, rfl, Kd.R_lower HR.out hlow, Hb1.out.trans (HB.out.mono hlow)⟩
      | false =>
        have d2 : wr.cell? ⟨B, 0, none⟩ = some (.string (bs k)) := (Hk1.out.below HB.out).cell 0
        have d3 : wr.cell? ⟨B, 1, none⟩ = some (.string (bs u)) := (Hk1.out.below HB.out).cell 1
        go_wp2_with (first
          | (at_builtin; (refine Kd.R_append prK (w0 := w1) w1.heap.size rfl (.tmp 51) (.tmp 53) 58 63 _ 32 rfl Try.underlying58 info63 rfl (by decide) (by decide) (.slice A1 D.length c1) D ⟨k, u⟩ [.string (bs k), .string (bs u)] (fun _ => True) (fun _ => False) rfl rfl (prK_mkM _ _ _ ⟨k, u⟩) (fun _ hk => hk.elim) (fun _ _ => trivial) HR.out HB.out ?s1 ?l1 ?_); (case s1 => exact HB.out.size); (case l1 => omega); intro v1 w4 hR4 hB4 hg4 hat4; have HR4 := Lib.hid hR4; have HB4 := Lib.hid hB4; clear hR4 hB4 hg4 hat4))
        go_ret
        have h9 := HD.out
        simp only [wF, Bool.false_eq_true, if_false] at h9
        rw [HY.out, ← h9, ← Hp.out]
        exact ⟨_, rfl, Kd.R_lower HR4.out hlow, Hb1.out.trans (HB4.out.mono hlow)⟩
end Go.Proofs.Yteilmbhnbmmcjaa.B
