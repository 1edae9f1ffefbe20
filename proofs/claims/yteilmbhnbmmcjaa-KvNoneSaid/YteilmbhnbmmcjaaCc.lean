/- Helper: the reader of numbers and texts, walked, on. No condition. -/
import Derived.Test.YteilmbhnbmmcjaaCb
namespace Go.Proofs.Yteilmbhnbmmcjaa.B
open Go.RowKit Go.Proofs.YteilmbhnbmmcjaaW.PrintWords
set_option maxRecDepth 100000
set_option maxHeartbeats 800000
def hd0 (l : List UInt8) : Nat := match l with | [] => 0 | b :: _ => b.toNat
def lastZ (l : List UInt8) : Bool := l.getLast? == some 0
/-- A number, read: what comes, and the reader behind it. -/
def Rdr.num (r : Rdr) (most : Nat) : Nat × Rdr :=
  let c := r.bytes 1
  if c.1 = [] then (0, c.2)
  else if 8 < hd0 c.1 then (0, c.2.fail 3)
  else
    let s := c.2.bytes (hd0 c.1)
    if s.2.e ≠ 0 then (0, s.2)
    else if lastZ s.1 then (0, s.2.fail 3)
    else if most < leV s.1 then (0, s.2.fail 5)
    else (leV s.1, s.2)
theorem RdAt.mut {w w' : World} {g g' : Nat} {r : Rdr} (h : RdAt w g r) (hm : Mut (only g') w w') (hne : g ≠ g') : RdAt w' g r := Blk.kept h hm hne
theorem bs_isnil (l : List UInt8) : (bs l).toList.isEmpty = decide (l = []) := by
  rw [ByteArray.toList_eq, bs_list]
  cases l <;> rfl
theorem rnum_any (r : Rdr) (most : Nat) (_hmost : most < 18446744073709551616) (g : Nat) (w : World) (h : RdAt w g r) : Calls Try.prog 40 #[.pointer (some ⟨g, 0, none⟩), .int .u64 (most : Int)] w fun e w' => e = .returned (.int .u64 ((r.num most).1 : Int)) ∧ RdAt w' g (r.num most).2 ∧ Mut (only g) w w' := by
  have Hh := Lib.hid h
  clear h
  obtain ⟨⟨c, r1⟩, hc⟩ : ∃ x, x = r.bytes 1 := ⟨_, rfl⟩
  go_enter Try.func40, Try.ntmps40
  go_wp2_with fail
  refine (bytes_any r 1 g w Hh.out (by omega)).mono ?_
  rw [← hc]
  rintro e w1 ⟨rfl, h2, hm2⟩
  have H1 := Lib.hid h2
  have HM := Lib.hid hm2
  clear h2 hm2
  have hnil := bs_isnil c
  by_cases hc0 : c = []
  · subst hc0
    simp only [decide_true] at hnil
    go_wp2
    go_ret
    refine ⟨?_, ?_, HM.out⟩
    · simp [Rdr.num, ← hc]
    · simpa [Rdr.num, ← hc] using H1.out
  · rw [decide_eq_false hc0] at hnil
    obtain ⟨b, rfl⟩ : ∃ b, c = [b] := by
      unfold Rdr.bytes at hc
      split at hc
      · simp at hc; exact absurd hc.1 hc0
      · split at hc
        · simp at hc; exact absurd hc.1 hc0
        · simp at hc
          cases hl : r.l with
          | nil => rw [hl] at hc; exact absurd hc.1 hc0
          | cons b l => exact ⟨b, by rw [hc.1, hl]; rfl⟩
    have hsz : (bs [b]).size = 1 := rfl
    have hb0 : (bs [b])[0] = b := rfl
    by_cases h8 : 8 < b.toNat
    · go_wp2_with fail
      refine (fail_any r1 3 g _ H1.out).mono ?_
      rintro e w2 ⟨rfl, h2, hm2⟩
      have HM2 := Lib.hid (HM.out.trans hm2)
      have H2 := Lib.hid h2
      clear h2 hm2
      go_wp2
      go_ret
      refine ⟨?_, ?_, HM2.out⟩
      · simp [Rdr.num, ← hc, hd0, h8]
      · simpa [Rdr.num, ← hc, hd0, h8] using H2.out
    · obtain ⟨⟨l2, r2⟩, hs⟩ : ∃ x, x = r1.bytes (b.toNat) := ⟨_, rfl⟩
      have hs' : r1.bytes (b.toNat) = (l2, r2) := hs.symm
      have hln : l2.length ≤ 8 := by
        unfold Rdr.bytes at hs
        split at hs
        · have := congrArg (fun x => x.1.length) hs; simp at this; (try subst this); simp <;> omega
        · split at hs
          · have := congrArg (fun x => x.1.length) hs; simp at this; (try subst this); simp <;> omega
          · have := congrArg (fun x => x.1.length) hs; simp at this; (try subst this); simp <;> omega
      have hnum : r.num most = (if r2.e ≠ 0 then (0, r2) else if lastZ l2 then (0, r2.fail 3) else if most < leV l2 then (0, r2.fail 5) else (leV l2, r2)) := by
        unfold Rdr.num
        simp only [← hc, hd0, h8, hs']
        rfl
      go_wp2_with fail
      refine (bytes_any r1 _ g _ H1.out (by have := b.toNat_lt; omega)).mono ?_
      rw [← hs]
      rintro e w2 ⟨rfl, h2, hm2⟩
      have HM2 := Lib.hid (HM.out.trans hm2)
      have H2 := Lib.hid h2
      clear h2 hm2
      go_wp2_with fail
      refine (value_any l2 hln _).mono ?_
      rintro e w3 ⟨rfl, rfl⟩
      have hx1 := H2.out.c1
      have hnil2 := bs_isnil l2
      have hsz2 := bs_size l2
      by_cases he : r2.e = 0
      · have heb : (r2.e != 0) = false := by simp [he]
        by_cases hl0 : l2 = []
        · subst hl0
          simp only [decide_true] at hnil2
          go_wp2
          go_ret
          rw [hnum, if_neg (by simp [he])]
          exact ⟨rfl, H2.out, HM2.out⟩
        · simp only [hl0, decide_false] at hnil2
          have hlp : 0 < l2.length := List.length_pos_iff.2 hl0
          have hi : l2.length - 1 < (bs l2).size := by rw [hsz2]; omega
          have hlz : lastZ l2 = ((((bs l2)[l2.length - 1]).toNat : Int) == 0) := by
            show (l2.getLast? == some 0) = (((l2[l2.length - 1]).toNat : Int) == 0)
            rw [List.getLast?_eq_getElem?, List.getElem?_eq_getElem (by omega)]
            generalize l2[l2.length - 1] = z
            by_cases hz : z = 0
            · subst hz; rfl
            · have : z.toNat ≠ 0 := fun e => hz (UInt8.toNat_inj.1 (by simpa using e))
              rw [show (some z == some (0 : UInt8)) = false by simpa using hz]
              exact (beq_eq_false_iff_ne.2 (by omega)).symm
          have hge : 1 ≤ (l2.length : Int) ∧ (l2.length : Int) - 1 < (l2.length : Int) := by omega
          cases hzz : ((((bs l2)[l2.length - 1]).toNat : Int) == 0)
          · rw [hzz] at hlz
            by_cases hm : most < leV l2
            · go_wp2_with fail
              refine (fail_any r2 5 g _ H2.out).mono ?_
              rintro e w3 ⟨rfl, h3, hm3⟩
              have HM3 := Lib.hid (HM2.out.trans hm3)
              have H3 := Lib.hid h3
              clear h3 hm3
              go_wp2
              go_ret
              rw [hnum, if_neg (by simp [he]), if_neg (by simp [hlz]), if_pos hm]
              exact ⟨rfl, H3.out, HM3.out⟩
            · go_wp2
              go_ret
              rw [hnum, if_neg (by simp [he]), if_neg (by simp [hlz]), if_neg hm]
              exact ⟨rfl, H2.out, HM2.out⟩
          · rw [hzz] at hlz
            go_wp2_with fail
            refine (fail_any r2 3 g _ H2.out).mono ?_
            rintro e w3 ⟨rfl, h3, hm3⟩
            have HM3 := Lib.hid (HM2.out.trans hm3)
            have H3 := Lib.hid h3
            clear h3 hm3
            go_wp2
            go_ret
            rw [hnum, if_neg (by simp [he]), if_pos hlz]
            exact ⟨rfl, H3.out, HM3.out⟩
      · have heb : (r2.e != 0) = true := bne_iff_ne.2 he
        go_wp2
        go_ret
        rw [hnum, if_pos he]
        exact ⟨rfl, H2.out, HM2.out⟩
end Go.Proofs.Yteilmbhnbmmcjaa.B
