/- Helper: the first empty block, and the three that keep the statements awake, walked. No condition. -/
import Derived.Test.YtbbfngnfphmohaaVb
import Derived.Test.YtbbfngnfphmohaaLater
namespace Go.Proofs.Ytbbfngnfphmohaa.Fl
open Go.RowKit Go.Proofs.YtbbfngnfphmohaaW.PrintWords Go.Proofs.Ytbbfngnfphmohaa.Later
theorem emp_succ (l : List Seen) (i : Nat) : emp l (i + 1) = if emp l i < 0 ∧ (sn l i).live = 0 then (i : Int) else emp l i := rfl
theorem emp_none (l : List Seen) (k : Nat) : ∀ n, k ≤ n → 0 ≤ emp l k → emp l n = emp l k
  | 0, h, h0 => by obtain rfl : k = 0 := by omega
                   rfl
  | n + 1, h, h0 => by
    by_cases e : k = n + 1
    · rw [e]
    · have ih := emp_none l k n (by omega) h0
      rw [emp_succ, ih, if_neg (by omega)]
set_option maxRecDepth 100000 in
set_option maxHeartbeats 800000 in
theorem empty_any (l : List Seen) (A : Option Addr) (c : Nat) (w : World) (hr : Kd.C ks w A l.length l) (hc : l.length ≤ 1000) :
    Calls Try.prog 27 #[.slice A l.length c] w fun e w' => e = .returned (.int .i64 (emp l l.length)) ∧ Below w.heap.size w w' := by
  go_enter Try.func27, Try.ntmps27
  go_wp2
  go_loopw [7] (fun i wr => ∃ k : Nat, k ≤ l.length ∧ i = .int .i64 k ∧ Hid (emp l k = -1) ∧ Hid (Below w.heap.size w wr)) (fun i _ => l.length - (intOf i).toNat)
  case atStart => exact ⟨0, Nat.zero_le _, rfl, Lib.hid rfl, Lib.hid (Below.refl _ _)⟩
  case round =>
    obtain ⟨k, hk, rfl, HE, HB⟩ := hrel
    by_cases hlt : k < l.length
    · obtain ⟨ad, e, h0, h1, h2, h3⟩ := at_ks (Kd.C_below hr HB.out) k (by omega) (by omega)
      cases e
      rw [Int.toNat_natCast] at h0 h1 h2 h3
      by_cases hz : (sn l k).live = 0
      · have hzb : ((sn l k).live == 0) = true := by simpa using hz
        have Hz := Lib.hid hz
        clear hz
        go_wp2
        go_ret
        refine ⟨?_, below_alloc HB.out _⟩
        rw [emp_none l (k + 1) l.length (by omega) (by rw [emp_succ, if_pos ⟨by rw [HE.out]; decide, Hz.out⟩]; omega), emp_succ, if_pos ⟨by rw [HE.out]; decide, Hz.out⟩]
        rfl
      · have hzb : ((sn l k).live == 0) = false := by simpa using hz
        have Hz := Lib.hid hz
        clear hz
        go_wp2
        go_roundw
        case rel => exact ⟨k + 1, by omega, by go_num, Lib.hid (by rw [emp_succ, if_neg (fun h => Hz.out h.2)]; exact HE.out), Lib.hid (below_alloc HB.out _)⟩
        case measure => simp [intOf]; omega
    · obtain rfl : k = l.length := by omega
      go_wp2
      go_ret
      exact ⟨by rw [HE.out]; rfl, HB.out⟩
/-- A row that was just laid. -/
theorem C_new {α : Type} {d : Kd α} (w : World) (e : TypeId) (cs : List Value) (xs : List α) (h : Reps (d.K (w.alloc (.cells cs.toArray e))) d.sz xs cs) (hl : xs.length ≤ 9223372036854775807) :
    d.C (w.alloc (.cells cs.toArray e)) (some ⟨w.heap.size, 0, none⟩) xs.length xs := by
  refine ⟨rfl, hl, fun _ => ⟨_, rfl, fun j p hj => ⟨(cs.drop (j * d.sz)).take d.sz, d.K_len (h.2 j p hj), h.2 j p hj, fun i u hu => ?_⟩⟩⟩
  have hi : i < d.sz := by
    have := (List.getElem?_eq_some_iff.1 hu).1
    rw [d.K_len (h.2 j p hj)] at this
    exact this
  rw [List.getElem?_take_of_lt hi, List.getElem?_drop] at hu
  rw [add_plain]
  have := World.cell?_alloc_new w cs.toArray e (j * d.sz + i)
  rw [this]
  simpa using hu
def wakes : List Seen := [⟨0, 8, 8, 0⟩, ⟨0, 6, 8, 1⟩, ⟨0, 2, 8, 1⟩]
theorem wakes_reps (w : World) : Reps (ks.K w) 4 wakes [.int .i64 0, .int .i64 8, .int .i64 8, .int .i64 0, .int .i64 0, .int .i64 6, .int .i64 8, .int .i64 1, .int .i64 0, .int .i64 2, .int .i64 8, .int .i64 1] := by
  refine ⟨rfl, fun j p hj => ?_⟩
  match j with
  | 0 => obtain rfl : _ = p := Option.some.inj hj
         exact Kd.K_of_M ks (ks_mkM w 0 (fun _ => True) _)
  | 1 => obtain rfl : _ = p := Option.some.inj hj
         exact Kd.K_of_M ks (ks_mkM w 0 (fun _ => True) _)
  | 2 => obtain rfl : _ = p := Option.some.inj hj
         exact Kd.K_of_M ks (ks_mkM w 0 (fun _ => True) _)
  | j + 3 => simp [wakes] at hj
theorem cho_wakes : cho wakes 3 = 2 := by decide +kernel
theorem cho_wakes1 : cho (wakes.take 1) 1 = -1 := by decide +kernel
theorem emp_wakes : emp wakes 3 = -1 := by decide +kernel
set_option maxRecDepth 100000 in
set_option maxHeartbeats 800000 in
theorem awake12_any (w : World) : Calls Try.prog 25 #[] w fun e w' => e = .returned (.bool true) ∧ Below w.heap.size w w' := by
  go_enter Try.func25, Try.ntmps25
  go_wp2_with fail
  have hC := C_new (d := ks) w 48 _ wakes (wakes_reps _) (by decide)
  have hB := below_alloc (Below.refl w.heap.size w) (.cells [.int .i64 0, .int .i64 8, .int .i64 8, .int .i64 0, .int .i64 0, .int .i64 6, .int .i64 8, .int .i64 1, .int .i64 0, .int .i64 2, .int .i64 8, .int .i64 1].toArray 48)
  refine (choose_any wakes _ 3 _ hC (by decide)).mono ?_
  rintro e w1 ⟨rfl, hb1⟩
  have hC1 := Kd.C_below hC hb1
  have hB1 := hB.trans (hb1.mono hB.size)
  clear hC hb1 hB
  have HC1 := Lib.hid hC1
  have HB1 := Lib.hid hB1
  clear hC1 hB1
  rw [show wakes.length = 3 from rfl, cho_wakes]
  go_wp2_with fail
  have hC2 : Kd.C ks w1 (some ⟨w.heap.size, 0, none⟩) (wakes.take 1).length (wakes.take 1) := Kd.C_take HC1.out (by decide)
  refine (choose_any (wakes.take 1) _ 3 _ hC2 (by decide)).mono ?_
  rintro e w2 ⟨rfl, hb2⟩
  have HC2 := Lib.hid (Kd.C_below HC1.out hb2)
  have HB2 := Lib.hid (HB1.out.trans (hb2.mono HB1.out.size))
  clear hb2 hC2
  rw [show (wakes.take 1).length = 1 from rfl, cho_wakes1]
  go_wp2_with fail
  refine (empty_any wakes _ 3 _ HC2.out (by decide)).mono ?_
  rintro e w3 ⟨rfl, hb3⟩
  rw [show wakes.length = 3 from rfl, emp_wakes]
  go_wp2
  go_ret
  exact ⟨rfl, HB2.out.trans (hb3.mono HB2.out.size)⟩
/-- The first ones alone. -/
theorem few_any (l : List Seen) (A : Option Addr) (c : Nat) (w : World) (hc : l.length ≤ c) (_hcm : c ≤ 9223372036854775807) :
    Calls Try.prog 24 #[.slice A l.length c] w fun e w' => e = .returned (.slice A (l.take 40).length c) ∧ w = w' := by
  go_enter Try.func24, Try.ntmps24
  by_cases h : 40 < l.length
  · have hcut := cut_to (P := Try.prog) 45 48 .i64 Try.underlying45 (i := (Try.prog.info? 48).get (by kernel_rfl)) (by kernel_rfl) A l.length c 40 (by omega) (by omega) hc
    go_wp2
    all_goals (go_ret; exact ⟨congrArg Ending.returned (slice_val (by rw [List.length_take]; omega)), rfl⟩)
  · have hcut := cut_to (P := Try.prog) 45 48 .i64 Try.underlying45 (i := (Try.prog.info? 48).get (by kernel_rfl)) (by kernel_rfl) A l.length c l.length (by omega) (by omega) hc
    go_wp2
    all_goals (go_ret; exact ⟨congrArg Ending.returned (slice_val (by rw [List.length_take]; omega)), rfl⟩)
theorem C_few {l : List Seen} {A : Option Addr} {w : World} (hr : Kd.C ks w A l.length l) : Kd.C ks w A (l.take 40).length (l.take 40) := by
  have hr' := Kd.C_take hr (m := min 40 l.length) (by omega)
  have hy : (l.take (min 40 l.length)) = l.take 40 := by rcases Nat.le_total 40 l.length with h | h <;> simp [Nat.min_eq_left, Nat.min_eq_right, h, List.take_of_length_le]
  rwa [hy] at hr'
theorem cho_gains (l : List Seen) : ∀ i, 0 ≤ cho l i → (sn l (cho l i).toNat).live < (sn l (cho l i).toNat).pages := by
  intro i h
  obtain ⟨v, hv⟩ := cho_cand l i h
  unfold cand at hv
  split at hv
  · assumption
  · cases hv
set_option maxRecDepth 100000 in
set_option maxHeartbeats 1600000 in
theorem VictimGains_any (l : List Seen) (A : Option Addr) (c : Nat) (w : World) (hr : Kd.C ks w A l.length l) (hc : l.length ≤ c) (hcm : c ≤ 9223372036854775807) :
    Calls Try.prog 11 #[.slice A l.length c] w fun e w' => e = .returned (.bool true) ∧ Below w.heap.size w w' := by
  have hr' := C_few hr
  have hyl : (l.take 40).length ≤ 40 := by rw [List.length_take]; omega
  have hfew := few_any l A c w hc hcm
  have HF := Lib.hid hfew
  clear hfew
  go_enter Try.func11, Try.ntmps11
  go_wp2_with fail
  refine HF.out.mono ?_
  rintro e w1 ⟨rfl, rfl⟩
  clear HF
  generalize l.take 40 = y at hr' hyl ⊢
  go_wp2_with fail
  refine (choose_any y A c _ hr' (by omega)).mono ?_
  rintro e w1 ⟨rfl, hb1⟩
  have hin := cho_in y y.length
  have hg := cho_gains y y.length
  have hr1 := Kd.C_below hr' hb1
  by_cases hneg : cho y y.length < 0
  · have hnb : decide (cho y y.length < 0) = true := decide_eq_true hneg
    have hge : decide (-1 ≤ cho y y.length) = true := decide_eq_true hin.1
    have hlt : decide (cho y y.length < (y.length : Int)) = true := decide_eq_true (by omega)
    go_upto_region 3 with fail
    refine wp_region_later (by kernel_rfl) (by kernel_rfl) ?_
    repeat (any_goals (first | go_big_quiet_step ((go_at_call 25; exact calls_later (fun w2 _ => awake12_any w2) _)) | quiet_step ((go_at_call 25; exact calls_later (fun w2 _ => awake12_any w2) _))))
    refine wpQuiet_nil ?_
    intro w2 hw2
    have hb2 := later_of hw2
    clear hw2
    go_wp2
    go_ret
    exact ⟨rfl, hb1.trans (hb2.mono hb1.size)⟩
  · have hnb : decide (cho y y.length < 0) = false := decide_eq_false hneg
    have hge : decide (-1 ≤ cho y y.length) = true := decide_eq_true hin.1
    have hlt : decide (cho y y.length < (y.length : Int)) = true := decide_eq_true (by omega)
    have h0' : 0 ≤ cho y y.length := by omega
    have hlt' : cho y y.length < (y.length : Int) := by omega
    obtain ⟨ad, e, k0, k1, k2, k3⟩ := at_ks hr1 (cho y y.length) h0' hlt'
    cases e
    have hgt := hg h0'
    have hgb : decide ((sn y (cho y y.length).toNat).live < (sn y (cho y y.length).toNat).pages) = true := decide_eq_true hgt
    have k1l := fun n => later_cell k1 n
    have k2l := fun n => later_cell k2 n
    go_upto_region 3 with fail
    refine wp_region_later (by kernel_rfl) (by kernel_rfl) ?_
    repeat (any_goals (first | go_big_quiet_step ((go_at_call 25; exact calls_later (fun w2 _ => awake12_any w2) _)) | quiet_step ((go_at_call 25; exact calls_later (fun w2 _ => awake12_any w2) _))))
    refine wpQuiet_nil ?_
    intro w2 hw2
    have hb2 := later_of hw2
    clear hw2
    go_wp2
    go_ret
    exact ⟨rfl, hb1.trans (hb2.mono hb1.size)⟩
end Go.Proofs.Ytbbfngnfphmohaa.Fl
