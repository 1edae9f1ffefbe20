/- Helper: the pairs of a page, walked. No condition. -/
import Derived.Test.YteilmbhnbmmcjaaKe
namespace Go.Proofs.Yteilmbhnbmmcjaa.B
open Go.RowKit Go.Proofs.YteilmbhnbmmcjaaW.PrintWords Go.Proofs.Yteilmbhnbmmcjaa.Later
set_option maxRecDepth 100000
set_option maxHeartbeats 3200000
theorem info63 : (Try.prog.info? 63).map (fun i => (i.zero, i.size, i.bytes)) = some (some (.agg #[.string ⟨#[]⟩, .string ⟨#[]⟩]), 2, 32) := by kernel_rfl
def PairsPost (x : Int × List Pr) (base : Nat) (w : World) (e : Ending) (w' : World) : Prop :=
  (∃ v, e = .returned (.tuple #[v, .int .i64 x.1]) ∧ (x.1 = 0 → prK.R 63 w' base (fun _ => True) v x.2) ∧ (x.1 ≠ 0 → v = .slice none 0 0)) ∧ Below base w w'
def PairsRel (s : List UInt8) (at' : Nat) (w : World) (v : Value) (wr : World) : Prop :=
  ∃ (f : Nat) (l : List UInt8) (out : List Pr), prsF at' (s.length + 1) s [] = prsF at' f l out ∧ l.length < f ∧ out.length + l.length ≤ s.length ∧ prK.R 63 wr w.heap.size (fun _ => True) v out ∧ RdAt wr w.heap.size ⟨l, 0⟩ ∧ Below w.heap.size w wr
theorem prsF_step (at' f : Nat) (l : List UInt8) (out : List Pr) (h : l ≠ []) : prsF at' (f + 1) l out = (let a := (Rdr.mk l 0).text 16; let b := a.2.text 30; if b.2.e ≠ 0 then (b.2.e, []) else if badPair at' out a.1 then (3, []) else prsF at' f b.2.l (out ++ [⟨a.1, b.1⟩])) := by
  rw [prsF, if_neg h]
theorem pairs_any (s : List UInt8) (hs : s.length ≤ 1000) (at' : Nat) (w : World) :
    Calls Try.prog 80 #[.string (bs s), .int .i64 (at' : Int)] w (PairsPost (prsF at' (s.length + 1) s []) w.heap.size w) := by
  go_enter Try.func80, Try.ntmps80
  go_wp2_with fail
  refine (new_any s w).mono ?_
  rintro e w1 ⟨rfl, hr, hB⟩
  go_wp2
  go_loopw [6] (fun v wr => PairsRel s at' w v wr) (fun v _ => s.length - slLen v)
  case atStart => exact ⟨s.length + 1, s, [], rfl, by omega, by simp, Kd.R_nil _ _ _ _ _, hr, hB⟩
  case round =>
    clear hr hB
    obtain ⟨f, l, out, hf, hlf, hol, hR, hr, hB⟩ := hrel
    obtain ⟨A, c, rfl, hlc, hC⟩ := Kd.R_reads hR
    have HC := Lib.hid hC
    have HR := Lib.hid hR
    have Hr := Lib.hid hr
    have HB := Lib.hid hB
    have Hf := Lib.hid hf
    clear hR hr hB hf hC
    go_wp2_with fail
    refine (left_any _ _ wr Hr.out).mono ?_
    rintro e w2 ⟨rfl, rfl⟩
    by_cases hnil : l = []
    · subst hnil
      simp only [List.length_nil]
      go_wp2
      go_ret2
      obtain ⟨f', rfl⟩ : ∃ f', f = f' + 1 := ⟨f - 1, by omega⟩
      rw [Hf.out, prsF, if_pos rfl]
      exact ⟨⟨_, rfl, fun _ => HR.out, fun h => absurd rfl h⟩, HB.out⟩
    · have hlp : 0 < l.length := List.length_pos_iff.2 hnil
      obtain ⟨f', rfl⟩ : ∃ f', f = f' + 1 := ⟨f - 1, by omega⟩
      have hst := prsF_step at' f' l out hnil
      rw [← Hf.out] at hst
      simp only at hst
      obtain ⟨a, ha⟩ : ∃ a, a = (Rdr.mk l 0).text 16 := ⟨_, rfl⟩
      obtain ⟨b, hb⟩ : ∃ b, b = a.2.text 30 := ⟨_, rfl⟩
      have hal : a.1.length ≤ 16 := by rw [ha]; exact text_len _ _
      have k1 := rtext_any ⟨l, 0⟩ 16 (by omega) w.heap.size wr Hr.out
      rw [← ha] at k1 hst
      rw [← hb] at hst
      have hsh : b.2.e = 0 → b.2.l.length < l.length := fun h => by
        have h1 : a.2.e = 0 := by rw [hb] at h; exact text_err _ _ h
        have h2 := text_shrink a.2 30 (by rw [← hb]; exact h)
        have h3 := text_shrink ⟨l, 0⟩ 16 (by rw [← ha]; exact h1)
        rw [← hb] at h2
        rw [← ha] at h3
        have h4 : a.2.l.length < l.length := h3
        omega
      obtain ⟨K, ra⟩ := a
      obtain ⟨V, rb⟩ := b
      simp only at k1 hst hsh hb hal
      have K1 := Lib.hid k1
      have Hst := Lib.hid hst
      have Hsh := Lib.hid hsh
      have Hb := Lib.hid hb
      clear k1 hst hsh ha hb Hf
      have hKs := bs_size K
      have hKl := bs_toList K
      have hKb := bucket_any K (by omega)
      go_wp2_with fail
      refine K1.out.mono ?_
      rintro e w3 ⟨rfl, hr3, hm3⟩
      have hR3 := R_mut HR.out Hr.out (by decide) hm3
      have hB3 := Below.mut HB.out hm3 HB.out.size (Nat.le_refl _)
      have k2 := rtext_any ra 30 (by omega) w.heap.size w3 hr3
      rw [← Hb.out] at k2
      have K2 := Lib.hid k2
      clear k2 K1
      go_wp2_with fail
      refine K2.out.mono ?_
      rintro e w5 ⟨rfl, hr5, hm5⟩
      have HR5 := Lib.hid (R_mut hR3 hr3 (by decide) hm5)
      have HB5 := Lib.hid (Below.mut hB3 hm5 hB3.size (Nat.le_refl _))
      have Hr5 := Lib.hid hr5
      clear hr3 hR3 hB3 hm3 hr5 hm5 K2
      go_wp2_with fail
      obtain ⟨w6, hw6⟩ : ∃ w6, w6 = w5.alloc (.cells #[.string (bs K), .string (bs V)] 63) := ⟨_, rfl⟩
      rw [← hw6]
      have hb56 : Below w5.heap.size w5 w6 := by rw [hw6]; exact (Below.refl _ _).alloc (Nat.le_refl _) _
      have hbk : Blk w6 w5.heap.size #[.string (bs K), .string (bs V)] 63 := by rw [hw6]; exact Blk.new w5 _ 63
      have c0 : w6.cell? ⟨w5.heap.size, 0, none⟩ = some (.string (bs K)) := hbk.cell 0
      have c1 : w6.cell? ⟨w5.heap.size, 1, none⟩ = some (.string (bs V)) := hbk.cell 1
      have HR6 := Lib.hid (Kd.R_below HR5.out hb56)
      have Hr6 := Lib.hid (Blk.below Hr5.out hb56)
      have HB6 := Lib.hid (HB5.out.trans (hb56.mono HB5.out.size))
      clear hw6 hb56 hbk HR5 HB5 Hr5 HR HB Hr HC hlc
      refine (err_any rb _ w6 Hr6.out).mono ?_
      rintro e w7 ⟨rfl, rfl⟩
      by_cases he : rb.e = 0
      · have hs9 := Hsh.out he
        obtain ⟨rl, re⟩ := rb
        simp only at he hs9
        subst he
        go_upto_region 7 with fail
        by_cases hK0 : K = []
        · subst hK0
          have hi : (bs ([] : List UInt8)).toList.isEmpty = true := by rw [bs_isnil]; rfl
          have k0 := fun n => later_cell c0 n
          refine wp_region_later (by kernel_rfl) (by kernel_rfl) ?_
          repeat go_big_quiet_step (fail)
          refine wpQuiet_nil ?_
          intro w8 hw8
          have hb8 := later_of hw8
          clear hw8
          have HB8 := Lib.hid (HB6.out.trans (hb8.mono HB6.out.size))
          have HR8 := Lib.hid (Kd.R_below HR6.out hb8)
          have Hr8 := Lib.hid (Blk.below Hr6.out hb8)
          have x0 : w8.cell? ⟨w5.heap.size, 0, none⟩ = some (.string (bs [])) := Below.cellOld hb8 c0
          have x1 : w8.cell? ⟨w5.heap.size, 1, none⟩ = some (.string (bs V)) := Below.cellOld hb8 c1
          clear hb8 c0 c1 k0
          go_wp2
          go_ret2
          rw [Hst.out, if_neg (fun h => h rfl), if_pos (by simp [badPair])]
          exact ⟨⟨_, rfl, fun h => (by cases h), fun _ => rfl⟩, HB8.out⟩
        · have hi : (bs K).toList.isEmpty = false := by rw [bs_isnil]; simp [hK0]
          have hKn : (K == []) = false := by simp [hK0]
          have HK0 := Lib.hid hK0
          clear hK0
          have m1 := calls_later_same (P := Try.prog) (f := 24) (w := w6) (v := .int .i64 (bucket K)) (fun w9 _ => hKb w9)
          by_cases hbk : bucket K = at'
          · have hbb : ((bucket K : Int) != (at' : Int)) = false := by simp [hbk]
            have Hbk := Lib.hid hbk
            clear hbk
            by_cases ho : out.length = 0
            · have ho' : decide (0 < out.length) = false := by simp [ho]
              have Ho := Lib.hid ho
              clear ho
              have k0 := fun n => later_cell c0 n
              refine wp_region_later (by kernel_rfl) (by kernel_rfl) ?_
              repeat go_big_quiet_step (fail)
              go_big_quiet_step (with_reducible exact m1 _)
              repeat go_big_quiet_step (fail)
              refine wpQuiet_nil ?_
              intro w8 hw8
              have hb8 := later_of hw8
              clear hw8
              have HB8 := Lib.hid (HB6.out.trans (hb8.mono HB6.out.size))
              have HR8 := Lib.hid (Kd.R_below HR6.out hb8)
              have Hr8 := Lib.hid (Blk.below Hr6.out hb8)
              have x0 : w8.cell? ⟨w5.heap.size, 0, none⟩ = some (.string (bs K)) := Below.cellOld hb8 c0
              have x1 : w8.cell? ⟨w5.heap.size, 1, none⟩ = some (.string (bs V)) := Below.cellOld hb8 c1
              clear hb8 c0 c1 k0 m1
              go_wp2_with (first
                | (at_builtin; (refine Kd.R_append prK (w0 := w) w.heap.size rfl (.tmp 53) (.tmp 55) 58 63 _ 32 rfl Try.underlying58 info63 rfl (by decide) (by decide) (.slice A out.length c) out ⟨K, V⟩ [.string (bs K), .string (bs V)] (fun _ => True) (fun _ => False) rfl rfl (prK_mkM _ _ _ ⟨K, V⟩) (fun _ hk => hk.elim) (fun _ _ => trivial) HR8.out HB8.out ?s1 ?l1 ?_); (case s1 => exact HB8.out.size); (case l1 => omega); intro v1 w9 hR9 hB9 hg hat))
              have hne := Kd.R_ne HR8.out (show Blk w8 w.heap.size _ 129 from Hr8.out) (by decide)
              refine ⟨⟨f', rl, out ++ [⟨K, V⟩], by rw [Hst.out, if_neg (fun h => h rfl), if_neg (by simp [badPair, HK0.out, Hbk.out, Ho.out])], by omega, by simp; omega, hR9, ?_, hB9⟩, ?_⟩
              · exact (hg.block w.heap.size (Blk.lt Hr8.out) hne).trans Hr8.out
              · obtain ⟨A1, c1, rfl⟩ := Kd.R_slice hR9
                simp [slLen]
                omega
            · obtain ⟨n, hn⟩ : ∃ n, n + 1 = out.length := ⟨out.length - 1, by omega⟩
              have ho' : decide (0 < out.length) = true := by simp; omega
              have en : ((out.length : Int) - 1) = (n : Int) := by omega
              have i0 : (0 : Int) ≤ (n : Int) := by omega
              have i1 : (n : Int) < (out.length : Int) := by omega
              obtain ⟨A', c', e', _, hC6⟩ := Kd.R_reads HR6.out
              injection e' with e1 _ e2
              subst e1 e2
              obtain ⟨ad, e, d0, d1⟩ := at_pr hC6 (n : Int) i0 i1
              cases e
              rw [Int.toNat_natCast] at d0 d1
              clear hC6
              have hLL := bs_toList (prA out n).k
              have k0 := fun n => later_cell c0 n
              have k1 := fun n => later_cell d0 n
              cases hlt : Go.Op.bytesLess (prA out n).k K
              all_goals have Hlt := Lib.hid (show kLt (prA out n).k K = _ from hlt)
              all_goals refine wp_region_later (by kernel_rfl) (by kernel_rfl) ?_
              all_goals repeat go_big_quiet_step (fail)
              all_goals go_big_quiet_step (with_reducible exact m1 _)
              all_goals repeat go_big_quiet_step (fail)
              · refine wpQuiet_nil ?_
                intro w8 hw8
                have hb8 := later_of hw8
                clear hw8
                have HB8 := Lib.hid (HB6.out.trans (hb8.mono HB6.out.size))
                have HR8 := Lib.hid (Kd.R_below HR6.out hb8)
                have Hr8 := Lib.hid (Blk.below Hr6.out hb8)
                have x0 : w8.cell? ⟨w5.heap.size, 0, none⟩ = some (.string (bs K)) := Below.cellOld hb8 c0
                have x1 : w8.cell? ⟨w5.heap.size, 1, none⟩ = some (.string (bs V)) := Below.cellOld hb8 c1
                clear hb8 c0 c1 k0 k1 m1 hLL d0 d1 en
                go_wp2
                go_ret2
                rw [Hst.out, if_neg (fun h => h rfl), if_pos (by simp [badPair, Hlt.out, ← hn])]
                exact ⟨⟨_, rfl, fun h => (by cases h), fun _ => rfl⟩, HB8.out⟩
              · refine wpQuiet_nil ?_
                intro w8 hw8
                have hb8 := later_of hw8
                clear hw8
                have HB8 := Lib.hid (HB6.out.trans (hb8.mono HB6.out.size))
                have HR8 := Lib.hid (Kd.R_below HR6.out hb8)
                have Hr8 := Lib.hid (Blk.below Hr6.out hb8)
                have x0 : w8.cell? ⟨w5.heap.size, 0, none⟩ = some (.string (bs K)) := Below.cellOld hb8 c0
                have x1 : w8.cell? ⟨w5.heap.size, 1, none⟩ = some (.string (bs V)) := Below.cellOld hb8 c1
                clear hb8 c0 c1 k0 k1 m1 hLL d0 d1 en
                go_wp2_with (first
                  | (at_builtin; (refine Kd.R_append prK (w0 := w) w.heap.size rfl (.tmp 53) (.tmp 55) 58 63 _ 32 rfl Try.underlying58 info63 rfl (by decide) (by decide) (.slice (some ad) out.length c) out ⟨K, V⟩ [.string (bs K), .string (bs V)] (fun _ => True) (fun _ => False) rfl rfl (prK_mkM _ _ _ ⟨K, V⟩) (fun _ hk => hk.elim) (fun _ _ => trivial) HR8.out HB8.out ?s1 ?l1 ?_); (case s1 => exact HB8.out.size); (case l1 => omega); intro v1 w9 hR9 hB9 hg hat))
                have hne := Kd.R_ne HR8.out (show Blk w8 w.heap.size _ 129 from Hr8.out) (by decide)
                refine ⟨⟨f', rl, out ++ [⟨K, V⟩], by rw [Hst.out, if_neg (fun h => h rfl), if_neg (by simp [badPair, HK0.out, Hbk.out, Hlt.out, ← hn])], by omega, by simp; omega, hR9, ?_, hB9⟩, ?_⟩
                · exact (hg.block w.heap.size (Blk.lt Hr8.out) hne).trans Hr8.out
                · obtain ⟨A1, c1, rfl⟩ := Kd.R_slice hR9
                  simp [slLen]
                  omega
          · have hbb : ((bucket K : Int) != (at' : Int)) = true := by rw [bne_iff_ne]; omega
            have Hbk := Lib.hid hbk
            clear hbk
            have k0 := fun n => later_cell c0 n
            refine wp_region_later (by kernel_rfl) (by kernel_rfl) ?_
            repeat go_big_quiet_step (fail)
            go_big_quiet_step (with_reducible exact m1 _)
            repeat go_big_quiet_step (fail)
            refine wpQuiet_nil ?_
            intro w8 hw8
            have hb8 := later_of hw8
            clear hw8
            have HB8 := Lib.hid (HB6.out.trans (hb8.mono HB6.out.size))
            have HR8 := Lib.hid (Kd.R_below HR6.out hb8)
            have Hr8 := Lib.hid (Blk.below Hr6.out hb8)
            have x0 : w8.cell? ⟨w5.heap.size, 0, none⟩ = some (.string (bs K)) := Below.cellOld hb8 c0
            have x1 : w8.cell? ⟨w5.heap.size, 1, none⟩ = some (.string (bs V)) := Below.cellOld hb8 c1
            clear hb8 c0 c1 k0 m1
            go_wp2
            go_ret2
            rw [Hst.out, if_neg (fun h => h rfl), if_pos (by simp [badPair, Hbk.out])]
            exact ⟨⟨_, rfl, fun h => (by cases h), fun _ => rfl⟩, HB8.out⟩
      · have heb : (rb.e != 0) = true := bne_iff_ne.2 he
        go_wp2_with fail
        refine (err_any rb _ w6 Hr6.out).mono ?_
        rintro e w7 ⟨rfl, rfl⟩
        go_wp2
        go_ret2
        rw [Hst.out, if_pos he]
        exact ⟨⟨_, rfl, fun h => absurd h he, fun _ => rfl⟩, HB6.out⟩
end Go.Proofs.Yteilmbhnbmmcjaa.B
