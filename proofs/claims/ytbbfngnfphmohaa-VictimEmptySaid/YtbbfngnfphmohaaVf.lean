/- Helper: the statement on empty blocks, walked. No condition. -/
import Derived.Test.YtbbfngnfphmohaaVe
import Derived.Deep.RegionHeld3
namespace Go.Proofs.Ytbbfngnfphmohaa.Fl
open Go.RowKit Go.Proofs.YtbbfngnfphmohaaW.PrintWords Go.Proofs.Ytbbfngnfphmohaa.Later
theorem info48 : (Try.prog.info? 48).map (fun i => (i.zero, i.size, i.bytes)) = some (some (.agg #[.int .i64 0, .int .i64 0, .int .i64 0, .int .i64 0]), 4, 32) := by kernel_rfl
theorem R_empty (w : World) : ks.R 48 (w.alloc (.cells #[] 48)) w.heap.size (fun _ => True) (.slice (some ⟨w.heap.size, 0, none⟩) 0 0) [] := by
  have h := World.ownsRow_lit (base := w.heap.size) (e := 48) (size := 4) w #[] 0 (Nat.le_refl _) (Nat.zero_le _) rfl
  exact ⟨fun k _ => trivial, [], h, Reps.none _ _⟩
theorem cell_of_block {w w1 : World} {g i : Nat} (h : w1.heap[g]? = w.heap[g]?) : w1.cell? ⟨g, i, none⟩ = w.cell? ⟨g, i, none⟩ := by simp [World.cell?, h]
def EmptyRel (y : List Seen) (w : World) (l b i : Value) (wr : World) : Prop :=
  ∃ k : Nat, k ≤ y.length ∧ i = .int .i64 k ∧ b = .int .i64 (emp (laidL y y.length) k) ∧ ks.R 48 wr w.heap.size (fun _ => True) l (laidL y k) ∧ Below w.heap.size w wr
set_option maxRecDepth 100000 in
set_option maxHeartbeats 1600000 in
theorem VictimEmpty_any (l : List Seen) (A : Option Addr) (c : Nat) (w : World) (hr : Kd.C ks w A l.length l) (hc : l.length ≤ c) (hcm : c ≤ 9223372036854775807) :
    Calls Try.prog 10 #[.slice A l.length c] w fun e w' => e = .returned (.bool true) ∧ Below w.heap.size w w' := by
  have hr' := C_few hr
  have hyl : (l.take 40).length ≤ 40 := by rw [List.length_take]; omega
  have HF := Lib.hid (fun w => few_any l A c w hc hcm)
  go_enter Try.func10, Try.ntmps10
  go_wp2_with fail
  refine (HF.out _).mono ?_
  rintro e w1 ⟨rfl, rfl⟩
  clear HF
  generalize l.take 40 = y at hr' hyl ⊢
  go_wp2
  go_loopw [3, 4, 6] (fun l b i wr => EmptyRel y w l b i wr) (fun _ _ i _ => y.length - (intOf i).toNat)
  case atStart => exact ⟨0, Nat.zero_le _, rfl, rfl, R_empty w, below_alloc (Below.refl _ _) _⟩
  case round =>
    obtain ⟨k, hk, rfl, rfl, hR, hB⟩ := hrel
    have hrr := Kd.C_below hr' hB
    have hown := (Kd.R_mono (ok' := fun q => q < wr.heap.size) (Kd.R_bound hR) (fun _ h => h.2.2.1)).1
    have HB := Lib.hid hB
    have HR := Lib.hid hR
    clear hB hR
    by_cases hlt : k < y.length
    · obtain ⟨ad, e, h0, h1, h2, h3⟩ := at_ks hrr k (by omega) (by omega)
      cases e
      rw [Int.toNat_natCast] at h0 h1 h2 h3
      clear h0 h2
      go_upto_region 5 with fail
      go_region_held3 (fun w' => w'.cell? ⟨(ad.add (k * 4)).block, (ad.add (k * 4)).off + 1, none⟩ = some (.int .i64 (sn y k).live) ∧ w'.cell? ⟨(ad.add (k * 4)).block, (ad.add (k * 4)).off + 3, none⟩ = some (.int .i64 (sn y k).age)) (go_keep) (first | fail)
      have Hl := Lib.hid (laidL_len y k)
      have Hs := Lib.hid (laidL_succ y k)
      have He := Lib.hid (emp_succ (laidL y y.length) k)
      have Hn := Lib.hid (show (sn (laidL y y.length) k).live = bits .and .i64 (sn y k).live 7 by rw [laidL_sn y _ k hlt]; rfl)
      have hB1 := below_drew (below_alloc HB.out (.cells #[.int .i64 k, .int .i64 (bits .and .i64 (sn y k).live 7), .int .i64 8, .int .i64 (bits .and .i64 (sn y k).age 65535)] 48))
      have hR1 := Kd.R_drew (Kd.R_alloc HR.out (.cells #[.int .i64 k, .int .i64 (bits .and .i64 (sn y k).live 7), .int .i64 8, .int .i64 (bits .and .i64 (sn y k).age 65535)] 48))
      have c0 : (wr.alloc (.cells #[.int .i64 k, .int .i64 (bits .and .i64 (sn y k).live 7), .int .i64 8, .int .i64 (bits .and .i64 (sn y k).age 65535)] 48)).drew.cell? ⟨wr.heap.size, 0, none⟩ = some (.int .i64 k) := World.cell?_alloc_new wr _ 48 0
      have c1 : (wr.alloc (.cells #[.int .i64 k, .int .i64 (bits .and .i64 (sn y k).live 7), .int .i64 8, .int .i64 (bits .and .i64 (sn y k).age 65535)] 48)).drew.cell? ⟨wr.heap.size, 1, none⟩ = some (.int .i64 (bits .and .i64 (sn y k).live 7)) := World.cell?_alloc_new wr _ 48 1
      have c2 : (wr.alloc (.cells #[.int .i64 k, .int .i64 (bits .and .i64 (sn y k).live 7), .int .i64 8, .int .i64 (bits .and .i64 (sn y k).age 65535)] 48)).drew.cell? ⟨wr.heap.size, 2, none⟩ = some (.int .i64 8) := World.cell?_alloc_new wr _ 48 2
      have c3 : (wr.alloc (.cells #[.int .i64 k, .int .i64 (bits .and .i64 (sn y k).live 7), .int .i64 8, .int .i64 (bits .and .i64 (sn y k).age 65535)] 48)).drew.cell? ⟨wr.heap.size, 3, none⟩ = some (.int .i64 (bits .and .i64 (sn y k).age 65535)) := World.cell?_alloc_new wr _ 48 3
      generalize (wr.alloc (.cells #[.int .i64 k, .int .i64 (bits .and .i64 (sn y k).live 7), .int .i64 8, .int .i64 (bits .and .i64 (sn y k).age 65535)] 48)).drew = w5 at hB1 hR1 c0 c1 c2 c3 ⊢
      generalize wr.heap.size = g at c0 c1 c2 c3 hown ⊢
      have Hown := Lib.hid hown
      have HB1 := Lib.hid hB1
      have HR1 := Lib.hid hR1
      have hlt5 := World.block_lt_of_cell? w5 _ c1
      clear hB1 hR1 HB HR h1 h3 hown
      by_cases hneg : emp (laidL y y.length) k < 0
      · have hnb : decide (emp (laidL y y.length) k < 0) = true := decide_eq_true hneg
        cases hz : (bits .and .i64 (sn y k).live 7 == 0)
        · have Hz := Lib.hid hz
          go_wp2_with (first
            | (at_builtin; (refine Kd.R_append ks (w0 := w) w.heap.size rfl (.tmp 32) (.tmp 34) 45 48 (.agg #[.int .i64 0, .int .i64 0, .int .i64 0, .int .i64 0]) 32 rfl Try.underlying45 info48 rfl (by decide) (by decide) _ (laidL y k) (laidS y k) [.int .i64 k, .int .i64 (bits .and .i64 (sn y k).live 7), .int .i64 8, .int .i64 (bits .and .i64 (sn y k).age 65535)] (fun _ => True) (fun _ => False) rfl rfl ?p1 (fun _ hk => hk.elim) (fun _ _ => trivial) HR1.out HB1.out ?s1 ?l1 ?_); (case p1 => exact ks_mkM _ _ _ (laidS y k)); (case s1 => exact HB1.out.size); (case l1 => rw [Hl.out]; omega); intro v1 w2 hR2 hB2 hg hat; rw [← Hs.out] at hR2; have HR2 := Lib.hid hR2; have HB2 := Lib.hid hB2; have d1 := (cell_of_block (i := 1) (hg.block g hlt5 (fun h => Nat.lt_irrefl g (Hown.out g h.symm)))).trans c1; clear hR2 hB2 hg hat))
          go_roundw
          case rel => exact ⟨k + 1, by omega, by go_num, by rw [He.out, if_neg (fun h => by have h2 := Hz.out; rw [← Hn.out, h.2] at h2; simp at h2)], HR2.out, HB2.out⟩
          case measure => simp [intOf]; omega
        · have Hz := Lib.hid hz
          go_wp2_with (first
            | (at_builtin; (refine Kd.R_append ks (w0 := w) w.heap.size rfl (.tmp 32) (.tmp 34) 45 48 (.agg #[.int .i64 0, .int .i64 0, .int .i64 0, .int .i64 0]) 32 rfl Try.underlying45 info48 rfl (by decide) (by decide) _ (laidL y k) (laidS y k) [.int .i64 k, .int .i64 (bits .and .i64 (sn y k).live 7), .int .i64 8, .int .i64 (bits .and .i64 (sn y k).age 65535)] (fun _ => True) (fun _ => False) rfl rfl ?p1 (fun _ hk => hk.elim) (fun _ _ => trivial) HR1.out HB1.out ?s1 ?l1 ?_); (case p1 => exact ks_mkM _ _ _ (laidS y k)); (case s1 => exact HB1.out.size); (case l1 => rw [Hl.out]; omega); intro v1 w2 hR2 hB2 hg hat; rw [← Hs.out] at hR2; have HR2 := Lib.hid hR2; have HB2 := Lib.hid hB2; have d1 := (cell_of_block (i := 1) (hg.block g hlt5 (fun h => Nat.lt_irrefl g (Hown.out g h.symm)))).trans c1; clear hR2 hB2 hg hat))
          go_roundw
          case rel => exact ⟨k + 1, by omega, by go_num, by rw [He.out, if_pos ⟨hneg, by rw [Hn.out]; simpa using Hz.out⟩], HR2.out, HB2.out⟩
          case measure => simp [intOf]; omega
      · have hnb : decide (emp (laidL y y.length) k < 0) = false := decide_eq_false hneg
        go_wp2_with (first
          | (at_builtin; (refine Kd.R_append ks (w0 := w) w.heap.size rfl (.tmp 32) (.tmp 34) 45 48 (.agg #[.int .i64 0, .int .i64 0, .int .i64 0, .int .i64 0]) 32 rfl Try.underlying45 info48 rfl (by decide) (by decide) _ (laidL y k) (laidS y k) [.int .i64 k, .int .i64 (bits .and .i64 (sn y k).live 7), .int .i64 8, .int .i64 (bits .and .i64 (sn y k).age 65535)] (fun _ => True) (fun _ => False) rfl rfl ?p1 (fun _ hk => hk.elim) (fun _ _ => trivial) HR1.out HB1.out ?s1 ?l1 ?_); (case p1 => exact ks_mkM _ _ _ (laidS y k)); (case s1 => exact HB1.out.size); (case l1 => rw [Hl.out]; omega); intro v1 w2 hR2 hB2 hg hat; rw [← Hs.out] at hR2; have HR2 := Lib.hid hR2; have HB2 := Lib.hid hB2; have d1 := (cell_of_block (i := 1) (hg.block g hlt5 (fun h => Nat.lt_irrefl g (Hown.out g h.symm)))).trans c1; clear hR2 hB2 hg hat))
        go_roundw
        case rel => exact ⟨k + 1, by omega, by go_num, by rw [He.out, if_neg (fun h => hneg h.1)], HR2.out, HB2.out⟩
        case measure => simp [intOf]; omega
    · obtain rfl : k = y.length := by omega
      obtain ⟨A1, c1, e1, hc1, hC1⟩ := Kd.R_reads HR.out
      rw [laidL_len] at e1 hc1
      subst e1
      have hl := laidL_len y y.length
      have hp := laid_cho y y.length y.length (Nat.le_refl _)
      have HP := Lib.hid hp
      have hC2 : Kd.C ks wr A1 (laidL y y.length).length (laidL y y.length) := by rw [hl]; rw [hl] at hC1; exact hC1
      have HC := Lib.hid hC2
      have hchoose := choose_any (laidL y y.length) A1 c1 wr HC.out (by omega)
      rw [hl] at hchoose
      have HCh := Lib.hid hchoose
      clear hp hC1 hC2 hchoose
      go_wp2_with fail
      refine HCh.out.mono ?_
      rintro e w1 ⟨rfl, hb1⟩
      have HB1 := Lib.hid (HB.out.trans (hb1.mono HB.out.size))
      have HC1 := Lib.hid (Kd.C_below HC.out hb1)
      clear HCh
      go_wp2_with fail
      refine (awake12_any _).mono ?_
      rintro e w2 ⟨rfl, hb2⟩
      have HB2 := Lib.hid (HB1.out.trans (hb2.mono HB1.out.size))
      have hemp := empty_any (laidL y y.length) A1 c1 w2 (Kd.C_below HC1.out hb2) (by omega)
      rw [hl] at hemp
      have HEm := Lib.hid hemp
      clear hemp hb1 hb2
      go_wp2_with fail
      refine HEm.out.mono ?_
      rintro e w3 ⟨rfl, hb3⟩
      have HB3 := Lib.hid (HB2.out.trans (hb3.mono HB2.out.size))
      clear HEm hb3 hl
      have t1 : (emp (laidL y y.length) y.length == emp (laidL y y.length) y.length) = true := by simp
      have hcho := cho_in (laidL y y.length) y.length
      by_cases h0 : y.length = 0
      · have t2 : (((y.length : Nat) : Int) == 0) = true := by simp [h0]
        have hcn : cho (laidL y y.length) y.length = -1 := by omega
        have hen : emp (laidL y y.length) y.length < 0 := by
          have := HP.out.2.2.2
          omega
        have t3 : decide (cho (laidL y y.length) y.length < 0) = true := decide_eq_true (by omega)
        have t4 : decide (emp (laidL y y.length) y.length < 0) = true := decide_eq_true hen
        have Hx := Lib.hid h0
        clear h0 hcn
        go_wp2
        go_ret
        exact ⟨rfl, HB3.out⟩
      · have t2 : (((y.length : Nat) : Int) == 0) = false := by simp [h0]
        have hcp : 0 ≤ cho (laidL y y.length) y.length := HP.out.1 (by omega)
        have t3 : decide (cho (laidL y y.length) y.length < 0) = false := decide_eq_false (by omega)
        by_cases he : emp (laidL y y.length) y.length < 0
        · have t4 : decide (emp (laidL y y.length) y.length < 0) = true := decide_eq_true he
          go_wp2
          go_ret
          exact ⟨rfl, HB3.out⟩
        · have t4 : decide (emp (laidL y y.length) y.length < 0) = false := decide_eq_false he
          have t5 : (cho (laidL y y.length) y.length == emp (laidL y y.length) y.length) = true := by rw [(HP.out.2.1 (by omega)).1]; simp
          go_wp2
          go_ret
          exact ⟨rfl, HB3.out⟩
end Go.Proofs.Ytbbfngnfphmohaa.Fl
