/- Helper: the choice of a block, walked. No condition. -/
import Derived.Test.YtbbfngnfphmohaaVa
import Derived.Test.YtbbfngnfphmohaaWLast
namespace Go.Proofs.Ytbbfngnfphmohaa.Fl
open Go.RowKit Go.Proofs.YtbbfngnfphmohaaW.PrintWords
theorem info33 : (Try.prog.info? 33).map (fun i => (i.zero, i.size, i.bytes)) = some (some (.float .f64 0), 1, 8) := by kernel_rfl
theorem info3 : (Try.prog.info? 3).map (fun i => (i.zero, i.size, i.bytes)) = some (some (.int .i64 0), 1, 8) := by kernel_rfl
/-- A row whose elements are of another type than the row that was written. -/
theorem R_other {α β : Type} {d : Kd α} {d' : Kd β} {e e' : Nat} {w w1 : World} {base base' : Nat} {v v' : Value} {xs : List α} {ys : List β} {ok' : Nat → Prop} (h : d.R e w base (fun _ => True) v xs) (h' : d'.R e' w base' ok' v' ys) (hne : ∀ q, q ∈ e :: d.E → q ≠ e')
    (hg : w.grownBy w1 v'.ownBlock) : d.R e w1 base (fun _ => True) v xs := by
  refine Kd.R_mono (Kd.R_grown (Kd.R_bound h) hg ?_) (fun _ _ => trivial)
  rintro k ⟨_, _, _, q, hq, cells, hc⟩ he
  obtain ⟨inner, ho⟩ := Kd.R_own h'
  obtain ⟨cells', hc'⟩ := own_typed ho k he.symm
  rw [hc'] at hc
  injection hc with hc
  injection hc with _ hc
  exact hne q hq hc.symm
def ki : Kd Int := Kd.int .i64
def ChoRel (l : List Seen) (w : World) (f a i : Value) (wr : World) : Prop :=
  ∃ (k : Nat) (fs : List Nat) (ats : List Int), k ≤ l.length ∧ i = .int .i64 k ∧ Runs l k fs ats ∧ kf.R 33 wr w.heap.size (fun _ => True) f fs ∧ ki.R 3 wr w.heap.size (fun _ => True) a ats ∧ Below w.heap.size w wr
set_option maxRecDepth 100000 in
set_option maxHeartbeats 1600000 in
theorem choose_any (l : List Seen) (A : Option Addr) (c : Nat) (w : World) (hr : Kd.C ks w A l.length l) (hc : l.length ≤ 1000) :
    Calls Try.prog 26 #[.slice A l.length c] w fun e w' => e = .returned (.int .i64 (cho l l.length)) ∧ Below w.heap.size w w' := by
  go_enter Try.func26, Try.ntmps26
  go_wp2
  go_loopw [3, 4, 10] (fun f a i wr => ChoRel l w f a i wr) (fun _ _ i _ => l.length - (intOf i).toNat)
  case atStart => exact ⟨0, [], [], Nat.zero_le _, rfl, runs_zero l, Kd.R_nil _ _ _ _ _, Kd.R_nil _ _ _ _ _, Below.refl _ _⟩
  case round =>
    obtain ⟨k, fs, ats, hk, rfl, hR, hF, hA, hB⟩ := hrel
    by_cases hlt : k < l.length
    · obtain ⟨ad, e, h0, h1, h2, h3⟩ := at_ks (Kd.C_below hr hB) k (by omega) (by omega)
      cases e
      rw [Int.toNat_natCast] at h0 h1 h2 h3
      have HR := Lib.hid hR
      have HF := Lib.hid hF
      have HA := Lib.hid hA
      have HB := Lib.hid hB
      clear hR hF hA hB
      by_cases hlp : (sn l k).live < (sn l k).pages
      · go_wp2_with fail
        refine (of_any _ _ _ _).mono ?_
        rintro e w1 ⟨r, rfl, hr1, hb1⟩
        have hB1 := ((below_alloc HB.out _).trans (hb1.mono (below_alloc HB.out _).size))
        have hF1 := Kd.R_below (Kd.R_alloc HF.out _) hb1
        have hA1 := Kd.R_below (Kd.R_alloc HA.out _) hb1
        have hfl := HR.out.2.1
        have hal := HR.out.1
        have HF1 := Lib.hid hF1
        have HA1 := Lib.hid hA1
        have HB1 := Lib.hid hB1
        clear hF1 hA1 hB1 HF HA HB h0 h1 h2 h3 hb1
        go_wp2_with (first
          | (at_builtin; (refine Kd.R_append kf (w0 := w) w.heap.size rfl (.tmp 20) (.tmp 29) 39 33 (.float .f64 0) 8 rfl Try.underlying39 info33 rfl (by decide) (by decide) _ fs r [.float .f64 r] (fun _ => True) (fun _ => False) rfl rfl ?p1 (fun _ hk => hk.elim) (fun _ _ => trivial) HF1.out HB1.out ?s1 ?l1 ?_); (case p1 => rfl); (case s1 => exact HB1.out.size); (case l1 => omega); intro v1 w2 hF2 hB2 hg hat; have HA2 := Lib.hid (R_other HA1.out HF1.out (by decide) hg); have HF2 := Lib.hid hF2; have HB2 := Lib.hid hB2; clear hF2 hB2 hg hat HF1 HA1 HB1)
          | (at_builtin; (refine Kd.R_append ki (w0 := w) w.heap.size rfl (.tmp 31) (.tmp 33) 54 3 (.int .i64 0) 8 rfl Try.underlying54 info3 rfl (by decide) (by decide) _ ats (k : Int) [.int .i64 k] (fun _ => True) (fun _ => False) rfl rfl ?p2 (fun _ hk => hk.elim) (fun _ _ => trivial) HA2.out HB2.out ?s2 ?l2 ?_); (case p2 => rfl); (case s2 => exact HB2.out.size); (case l2 => omega); intro v2 w3 hA3 hB3 hg hat; have HF3 := Lib.hid (R_other HF2.out HA2.out (by decide) hg); have HA3 := Lib.hid hA3; have HB3 := Lib.hid hB3; clear hA3 hB3 hg hat))
        go_roundw
        case rel => exact ⟨k + 1, _, _, by omega, by go_num, runs_take HR.out hlp hr1, HF3.out, HA3.out, HB3.out⟩
        case measure => simp [intOf]; omega
      · go_wp2
        go_roundw
        case rel => exact ⟨k + 1, fs, ats, by omega, by go_num, runs_skip HR.out hlp, Kd.R_alloc HF.out _, Kd.R_alloc HA.out _, below_alloc HB.out _⟩
        case measure => simp [intOf]; omega
    · obtain rfl : k = l.length := by omega
      obtain ⟨A1, c1, rfl, hc1, hC1⟩ := Kd.R_reads hF
      obtain ⟨A2, c2, rfl, hc2, hC2⟩ := Kd.R_reads hA
      obtain ⟨hn, hle, hor⟩ := hR
      have HB := Lib.hid hB
      have HO := Lib.hid hor
      have HN := Lib.hid hn
      clear hB hor hn
      have hbin := bst_in fs fs.length
      by_cases hneg : bst fs fs.length < 0
      · have Hfin := Lib.hid (show cho l l.length = -1 by
          rcases HO.out with h | h
          · exact h.2
          · omega)
        go_wp2_with (go_at_call 21; refine (best_any fs A1 c1 _ hC1 (by omega)).mono ?_; rintro e w1 ⟨rfl, rfl⟩)
        go_ret
        exact ⟨by rw [Hfin.out]; rfl, HB.out⟩
      · obtain ⟨e1, e2, e3, e4⟩ : 0 ≤ bst fs fs.length ∧ ats.getD (bst fs fs.length).toNat 0 = cho l l.length ∧ cand l (cho l l.length).toNat = some (at0 fs (bst fs fs.length).toNat) ∧ 0 ≤ cho l l.length := by
          rcases HO.out with h | h
          · omega
          · exact h
        obtain ⟨ad, cs, e, _, hK, hcell0⟩ := Kd.C_get hC2 (0 : Int) (bst fs fs.length) e1 (by have := HN.out; omega)
        cases e
        obtain rfl : cs = [.int .i64 (ats.getD (bst fs fs.length).toNat 0)] := hK
        have hcell := hcell0 0 _ rfl
        rw [show ki.sz = 1 from rfl, Nat.mul_one, Nat.add_zero, e2] at hcell
        have hlt3 : bst fs fs.length < (ats.length : Int) := by have := HN.out; omega
        clear e2 e3 e4 hcell0 hneg
        go_wp2_with (go_at_call 21; refine (best_any fs A1 c1 _ hC1 (by omega)).mono ?_; rintro e w1 ⟨rfl, rfl⟩)
        go_ret
        exact ⟨rfl, HB.out⟩
end Go.Proofs.Ytbbfngnfphmohaa.Fl
