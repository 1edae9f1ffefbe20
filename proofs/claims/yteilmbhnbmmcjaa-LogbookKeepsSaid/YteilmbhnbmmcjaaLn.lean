/- Helper: which notes are there yet, by the document; walked. No condition. -/
import Derived.Test.YteilmbhnbmmcjaaLl
namespace Go.Proofs.Yteilmbhnbmmcjaa.B
open Go.RowKit Go.Proofs.YteilmbhnbmmcjaaW.PrintWords Go.Proofs.Yteilmbhnbmmcjaa.Later
set_option maxRecDepth 100000
set_option maxHeartbeats 1600000
def ntSz (x : Nt) : Nat := x.bytes.length
def kI : Kd Int := Kd.int .i64
theorem R_lit0 {α : Type} (d : Kd α) (e : Nat) (W : World) (base : Nat) (hb : base ≤ W.heap.size) : d.R e (W.alloc (.cells #[] e)) base (fun _ => True) (.slice (some ⟨W.heap.size, 0, none⟩) 0 0) [] :=
  ⟨fun _ _ => trivial, OwnRow.lit W base (Reps.none _ _) hb (by simp)⟩
theorem info3 : (Try.prog.info? 3).map (fun i => (i.zero, i.size, i.bytes)) = some (some (.int .i64 0), 1, 8) := by kernel_rfl
def atsI (l : List Nt) : List Int := (ats ntSz l).map (fun a : Nat => (a : Int))
theorem atsI_len (l : List Nt) : (atsI l).length = l.length := by simp [atsI, ats_len]
theorem atsI_snoc (l : List Nt) (x : Nt) : atsI (l ++ [x]) = atsI l ++ [((bk ntSz (l ++ [x])).no : Int)] := by simp [atsI, ats_snoc]
def PgRel1 (l : List Nt) (w : World) (b p v c : Value) (wr : World) : Prop :=
  ∃ i : Nat, i ≤ l.length ∧ c = .int .i64 i ∧ b = .int .i64 (szL ntSz (bk ntSz (l.take i)).cur) ∧ p = .int .i64 (bk ntSz (l.take i)).no ∧ kI.R 3 wr w.heap.size (fun _ => True) v (atsI (l.take i)) ∧ Below w.heap.size w wr
def PgRel2 (l : List Nt) (w1 : World) (v c : Value) (wr : World) : Prop :=
  ∃ i : Nat, i ≤ l.length ∧ c = .int .i64 i ∧ ntK.R 45 wr w1.heap.size (fun _ => True) v (keptF ntSz (l.take i) (bk ntSz l).no 6) ∧ Below w1.heap.size w1 wr
theorem bk_fit (l : List Nt) (i : Nat) (h : i < l.length) (hf : szL ntSz (bk ntSz (l.take i)).cur + ntSz l[i] ≤ 64) : szL ntSz (bk ntSz (l.take (i + 1))).cur = szL ntSz (bk ntSz (l.take i)).cur + ntSz l[i] ∧ (bk ntSz (l.take (i + 1))).no = (bk ntSz (l.take i)).no := by
  rw [bk_take ntSz l i h, Bk.add, if_pos hf]
  exact ⟨szL_snoc _ _ _, rfl⟩
theorem bk_nofit (l : List Nt) (i : Nat) (h : i < l.length) (hf : ¬ szL ntSz (bk ntSz (l.take i)).cur + ntSz l[i] ≤ 64) : szL ntSz (bk ntSz (l.take (i + 1))).cur = ntSz l[i] ∧ (bk ntSz (l.take (i + 1))).no = (bk ntSz (l.take i)).no + 1 := by
  rw [bk_take ntSz l i h, Bk.add, if_neg hf]
  exact ⟨by simp [szL], rfl⟩
theorem ntA_get (l : List Nt) (i : Nat) (h : i < l.length) : ntA l i = l[i] := by simp [ntA, List.getD_eq_getElem?_getD, List.getElem?_eq_getElem h]
theorem keptF_len (l : List Nt) (no m : Nat) : (keptF ntSz l no m).length ≤ l.length := by
  unfold keptF
  rw [List.length_map]
  refine Nat.le_trans (List.length_filter_le _ _) ?_
  rw [List.length_zip]
  omega
theorem atsI_at (l : List Nt) (i : Nat) (h : i < l.length) : (atsI l).getD i 0 = ((bk ntSz (l.take (i + 1))).no : Int) := by
  rw [List.getD_eq_getElem?_getD, List.getElem?_eq_getElem (by rw [atsI_len]; exact h)]
  simp [atsI, ats]
theorem bk_no_mono (l : List Nt) (i : Nat) (h : i < l.length) : (bk ntSz (l.take (i + 1))).no ≤ (bk ntSz l).no := by
  have := ats_le ntSz l _ (List.getElem_mem (show i < (ats ntSz l).length by rw [ats_len]; exact h))
  rwa [ats_at ntSz l i h] at this
theorem kept_step (l : List Nt) (i : Nat) (h : i < l.length) (N : Nat) : keptF ntSz (l.take (i + 1)) N 6 = keptF ntSz (l.take i) N 6 ++ if N < (bk ntSz (l.take (i + 1))).no + 6 then [ntA l i] else [] := by
  rw [List.take_succ_eq_append_getElem h, keptF_snoc, ntA_get l i h]
theorem pages_any (l : List Nt) (hl : ∀ x ∈ l, x.ok) (hn : l.length ≤ 100) (A : Option Addr) (c : Nat) (w : World) (hC : Kd.C ntK w A l.length l) :
    Calls Try.prog 21 #[.slice A l.length c] w fun e w' => (∃ v, e = .returned v ∧ ntK.R 45 w' w.heap.size (fun _ => True) v ((bk ntSz l).kept 6)) ∧ Below w.heap.size w w' := by
  go_enter Try.func21, Try.ntmps21
  go_wp2
  go_loopw [3, 4, 5, 6] (fun b p v c wr => PgRel1 l w b p v c wr) (fun _ _ _ c _ => l.length - (intOf c).toNat)
  case atStart => exact ⟨0, by omega, rfl, rfl, rfl, R_lit0 kI 3 w _ (Nat.le_refl _), (Below.refl _ _).alloc (Nat.le_refl _) _⟩
  case round =>
    obtain ⟨i, hi, rfl, rfl, rfl, hR, hB⟩ := hrel
    have HR := Lib.hid hR
    have HB := Lib.hid hB
    clear hR hB
    by_cases hlt : i < l.length
    · obtain ⟨ad, e, d0, d1, d2⟩ := at_nt (Kd.C_below hC HB.out) (i : Int) (by omega) (by omega)
      cases e
      rw [Int.toNat_natCast] at d0 d1 d2
      obtain ⟨hx1, hx2, hx3⟩ := hl l[i] (by simp)
      rw [← ntA_get l i hlt] at hx1 hx2 hx3
      obtain ⟨x, hx⟩ : ∃ x, x = ntA l i := ⟨_, rfl⟩
      rw [← hx] at d0 d1 d2 hx1 hx2 hx3
      have Hx := Lib.hid hx
      clear hx
      have k0 := fun n => later_cell d0 n
      have k1 := fun n => later_cell d1 n
      have k2 := fun n => later_cell d2 n
      obtain ⟨P1, hP1⟩ : ∃ P, P = numL x.n := ⟨_, rfl⟩
      obtain ⟨P2, hP2⟩ : ∃ P, P = numL x.k := ⟨_, rfl⟩
      obtain ⟨P3, hP3⟩ : ∃ P, P = textL x.t := ⟨_, rfl⟩
      have m1 := calls_later (P := Try.prog) (f := 52) (w := wr) (v := .string (bs P1)) (fun w2 _ => by rw [hP1]; exact refnum_any x.n (by omega) w2)
      have m2 := calls_later (P := Try.prog) (f := 52) (w := wr) (v := .string (bs P2)) (fun w2 _ => by rw [hP2]; exact refnum_any x.k (by omega) w2)
      have m3 := calls_later (P := Try.prog) (f := 53) (w := wr) (v := .string (bs P3)) (fun w2 _ => by rw [hP3]; exact reftext_any x.t (by omega) w2)
      have s1 := bs_size P1
      have s2 := bs_size P2
      have s3 := bs_size P3
      have hsum : x.bytes.length = P1.length + P2.length + P3.length := by rw [hP1, hP2, hP3]; simp [Nt.bytes]; omega
      have hle := nt_bytes_le x ⟨hx1, hx2, hx3⟩
      have i0 : (0 : Int) ≤ (i : Int) := by omega
      have i1 : (i : Int) < (l.length : Int) := by omega
      clear hP1 hP2 hP3
      go_upto_region 5 with fail
      refine wp_region_later (by kernel_rfl) (by kernel_rfl) ?_
      repeat go_big_quiet_step (fail)
      go_big_quiet_step (with_reducible exact m1 _)
      repeat go_big_quiet_step (fail)
      go_big_quiet_step (with_reducible exact m2 _)
      repeat go_big_quiet_step (fail)
      go_big_quiet_step (with_reducible exact m3 _)
      repeat go_big_quiet_step (fail)
      refine wpQuiet_nil ?_
      intro w2 hw2
      have hb2 := later_of hw2
      clear hw2 m1 m2 m3 k0 k1 k2 d0 d1 d2
      have HB2 := Lib.hid (HB.out.trans (hb2.mono HB.out.size))
      have HR2 := Lib.hid (Kd.R_below HR.out hb2)
      clear hb2 HB HR
      have hxl : ntSz l[i] = P1.length + P2.length + P3.length := by rw [← ntA_get l i hlt, ← Hx.out]; exact hsum
      have hsn := atsI_snoc (l.take i) l[i]
      rw [← List.take_succ_eq_append_getElem hlt] at hsn
      have hal := atsI_len (l.take i)
      have htl : (l.take i).length = i := by rw [List.length_take]; omega
      have hB64 := bk_le ntSz (l.take i) (fun y hy => nt_bytes_le y (hl y (List.mem_of_mem_take hy)))
      have hno := bk_no_le ntSz (l.take i)
      rw [htl] at hal hno
      have hf1 := bk_fit l i hlt
      have hf2 := bk_nofit l i hlt
      rw [hxl] at hf1 hf2
      obtain ⟨B, hB⟩ : ∃ B, B = szL ntSz (bk ntSz (l.take i)).cur := ⟨_, rfl⟩
      obtain ⟨N, hN⟩ : ∃ N, N = (bk ntSz (l.take i)).no := ⟨_, rfl⟩
      rw [← hB, ← hN] at hf1 hf2
      rw [← hB] at hB64 ⊢
      rw [← hN] at hno ⊢
      clear hB hN
      obtain ⟨L, hL⟩ : ∃ L, L = atsI (l.take i) := ⟨_, rfl⟩
      rw [← hL] at HR2 hal hsn
      clear hL
      have Hsn := Lib.hid hsn
      have hpl : P1.length + P2.length + P3.length ≤ 64 := by omega
      clear hsn hsum
      obtain ⟨A2, c2, rfl⟩ := Kd.R_slice HR2.out
      by_cases hfit : B + (P1.length + P2.length + P3.length) ≤ 64
      · obtain ⟨e1, e2⟩ := hf1 hfit
        have E1 := Lib.hid e1
        have E2 := Lib.hid e2
        have Hf2 := Lib.hid hf2
        clear e1 e2 hf1 hf2
        go_wp2_with (first
          | (at_builtin; (refine Kd.R_append kI (w0 := w) w.heap.size rfl (.tmp 49) (.tmp 51) 104 3 _ 8 rfl Try.underlying104 info3 rfl (by decide) (by decide) (.slice A2 L.length c2) L (N : Int) [.int .i64 N] (fun _ => True) (fun _ => False) rfl rfl ?p1 (fun _ hk => hk.elim) (fun _ _ => trivial) HR2.out HB2.out ?s1 ?l1 ?_); (case p1 => rfl); (case s1 => exact HB2.out.size); (case l1 => omega); intro v1 w3 hR3 hB3 hg hat; have HR3 := Lib.hid hR3; have HB3 := Lib.hid hB3; clear hR3 hB3 hg hat))
        go_roundw
        case rel => exact ⟨i + 1, by omega, by go_num, by rw [E1.out]; go_num, by rw [E2.out], by rw [Hsn.out, E2.out]; exact HR3.out, HB3.out⟩
        case measure => simp [intOf]; omega
      · obtain ⟨e1, e2⟩ := hf2 hfit
        have E1 := Lib.hid e1
        have E2 := Lib.hid e2
        clear e1 e2 hf1 hf2
        go_wp2_with (first
          | (at_builtin; (refine Kd.R_append kI (w0 := w) w.heap.size rfl (.tmp 49) (.tmp 51) 104 3 _ 8 rfl Try.underlying104 info3 rfl (by decide) (by decide) (.slice A2 L.length c2) L ((N : Int) + 1) [.int .i64 ((N : Int) + 1)] (fun _ => True) (fun _ => False) rfl rfl ?p1 (fun _ hk => hk.elim) (fun _ _ => trivial) HR2.out HB2.out ?s1 ?l1 ?_); (case p1 => rfl); (case s1 => exact HB2.out.size); (case l1 => omega); intro v1 w3 hR3 hB3 hg hat; have HR3 := Lib.hid hR3; have HB3 := Lib.hid hB3; clear hR3 hB3 hg hat))
        go_roundw
        case rel => exact ⟨i + 1, by omega, by go_num, by rw [E1.out]; go_num, by rw [E2.out]; go_num, by rw [Hsn.out, E2.out]; exact HR3.out, HB3.out⟩
        case measure => simp [intOf]; omega
    · obtain rfl : i = l.length := by omega
      have ht : l.take l.length = l := List.take_length
      rw [ht] at HR ⊢
      have hno := bk_no_le ntSz l
      obtain ⟨A2, c2, rfl, hl2, hC2⟩ := Kd.R_reads HR.out
      have HC2 := Lib.hid hC2
      have hal := atsI_len l
      obtain ⟨N, hN⟩ : ∃ N, N = (bk ntSz l).no := ⟨_, rfl⟩
      rw [← hN] at hno ⊢
      have HN := Lib.hid hN
      obtain ⟨L, hL⟩ : ∃ L, L = atsI l := ⟨_, rfl⟩
      rw [← hL] at HC2 hal ⊢
      have HL := Lib.hid hL
      have HCl := Lib.hid (Kd.C_below hC HB.out)
      clear hN hL hC2 hl2 HR ht hC
      go_wp2
      obtain ⟨wo, rfl⟩ : ∃ wo : World, wo = wr := ⟨_, rfl⟩
      go_loopw [8, 9] (fun v c wr' => PgRel2 l wo v c wr') (fun _ c _ => l.length - (intOf c).toNat)
      case atStart => exact ⟨0, by omega, rfl, R_lit0 ntK 45 wo _ (Nat.le_refl _), (Below.refl _ _).alloc (Nat.le_refl _) _⟩
      case round =>
        obtain ⟨i, hi2, rfl, hR, hB2⟩ := hrel
        have HB2 := Lib.hid hB2
        clear hB2
        by_cases hlt2 : i < l.length
        · obtain ⟨ad, e, d0, d1, d2⟩ := at_nt (Kd.C_below HCl.out HB2.out) (i : Int) (by omega) (by omega)
          cases e
          rw [Int.toNat_natCast] at d0 d1 d2
          obtain ⟨_, _, hrd0⟩ := (Kd.reads_of_C (d := (0 : Int)) (h1 := fun _ => rfl) (Kd.C_below HC2.out HB2.out) : ReadsOf (Value.int .i64) (0 : Int) _ A2 L.length L)
          obtain ⟨ad2, e, hrd⟩ := hrd0 (by omega)
          have dL := hrd i (by omega)
          clear hrd hrd0
          cases e
          have ha := atsI_at l i hlt2
          rw [← HL.out] at ha
          have ham := bk_no_mono l i hlt2
          rw [← HN.out] at ham hR
          have hst := kept_step l i hlt2 N
          have hkl := keptF_len (l.take i) N 6
          have htl : (l.take i).length = i := by rw [List.length_take]; omega
          rw [htl] at hkl
          obtain ⟨a, haa⟩ : ∃ a, a = (bk ntSz (l.take (i + 1))).no := ⟨_, rfl⟩
          rw [← haa] at ha ham hst
          rw [ha] at dL
          clear ha haa
          obtain ⟨K, hK⟩ : ∃ K, K = keptF ntSz (l.take i) N 6 := ⟨_, rfl⟩
          rw [← hK] at hst hkl hR
          have HR := Lib.hid hR
          have Hst := Lib.hid hst
          obtain ⟨A3, c3, rfl⟩ := Kd.R_slice hR
          clear hK hst hR
          by_cases hk : N < a + 6
          · have hk' : (N : Int) - (a : Int) < 6 := by omega
            go_wp2_with (first
              | (at_builtin; (refine Kd.R_append ntK (w0 := wo) wo.heap.size rfl (.tmp 67) (.tmp 72) 39 45 _ 32 rfl Try.underlying39 info45 rfl (by decide) (by decide) (.slice A3 K.length c3) K (ntA l i) [.int .i64 (ntA l i).n, .int .i64 (ntA l i).k, .string (bs (ntA l i).t)] (fun _ => True) (fun _ => False) rfl rfl ?p1 (fun _ hk => hk.elim) (fun _ _ => trivial) HR.out HB2.out ?s1 ?l1 ?_); (case p1 => exact ntK_mkM _ _ _ _); (case s1 => exact HB2.out.size); (case l1 => omega); intro v1 w3 hR3 hB3 hg hat; have HR3 := Lib.hid hR3; have HB3 := Lib.hid hB3; clear hR3 hB3 hg hat))
            go_roundw
            case rel => exact ⟨i + 1, by omega, by go_num, by rw [← HN.out, Hst.out, if_pos hk]; exact HR3.out, HB3.out⟩
            case measure => simp [intOf]; omega
          · have hk' : (6 : Int) ≤ (N : Int) - (a : Int) := by omega
            go_wp2
            go_roundw
            case rel => exact ⟨i + 1, by omega, by go_num, by rw [← HN.out, Hst.out, if_neg hk, List.append_nil]; exact HR.out, HB2.out⟩
            case measure => simp [intOf]; omega
        · obtain rfl : i = l.length := by omega
          rw [List.take_length, kept_keptF] at hR
          have HR := Lib.hid hR
          go_wp2
          go_ret
          exact ⟨⟨_, rfl, Kd.R_lower HR.out HB.out.size⟩, HB.out.trans (HB2.out.mono HB.out.size)⟩
end Go.Proofs.Yteilmbhnbmmcjaa.B
