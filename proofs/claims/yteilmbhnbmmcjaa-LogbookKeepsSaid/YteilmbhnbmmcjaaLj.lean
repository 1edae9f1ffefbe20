/- Helper: all notes told; walked. No condition. -/
import Derived.Test.YteilmbhnbmmcjaaLi
namespace Go.Proofs.Yteilmbhnbmmcjaa.B
open Go.RowKit Go.Proofs.YteilmbhnbmmcjaaW.PrintWords Go.Proofs.Yteilmbhnbmmcjaa.Later
set_option maxRecDepth 100000
set_option maxHeartbeats 1600000
theorem ntK_KM {w w0 : World} {base : Nat} {ok : Nat → Prop} {x : Nt} {cs : List Value} (h : ntK.K w x cs) : ntK.M w0 base ok x cs := by
  obtain rfl := ntK_open h
  exact ntK_mkM _ _ _ x
theorem all_nil (w : World) : Calls Try.prog 19 #[.pointer none] w fun e w' => e = .returned (.tuple #[.slice none 0 0, .int .i64 1]) ∧ w = w' := by
  go_enter Try.func19, Try.ntmps19
  go_wp2
  go_ret2
  exact ⟨rfl, rfl⟩
/-- What the pages hold, from the eldest on. -/
def PgHold (pg : Int → Option ByteArray) (page : Nat) (chs : Nat → List Nt) : Prop :=
  ∀ i : Nat, i < 6 → ((pg (((page + i) % 6 + 1 : Nat) : Int) = none ∧ chs i = []) ∨ pg (((page + i) % 6 + 1 : Nat) : Int) = some (bs (ntsB (chs i)))) ∧ (∀ x ∈ chs i, x.ok) ∧ (chs i).length ≤ 1000
def AllRel (chs : Nat → List Nt) (w : World) (v c : Value) (wr : World) : Prop :=
  ∃ i : Nat, i ≤ 6 ∧ c = .int .i64 i ∧ ntK.R 45 wr w.heap.size (fun _ => True) v ((List.range i).flatMap chs) ∧ Below w.heap.size w wr
theorem chs_len (chs : Nat → List Nt) (h : ∀ i, i < 6 → (chs i).length ≤ 1000) : ∀ i, i ≤ 6 → ((List.range i).flatMap chs).length ≤ 1000 * i
  | 0, _ => by simp
  | i + 1, hi => by
    have := chs_len chs h i (by omega)
    have := h i (by omega)
    rw [List.range_succ, List.flatMap_append]
    simp at *
    omega
theorem range_app (chs : Nat → List Nt) (i : Nat) : (List.range (i + 1)).flatMap chs = (List.range i).flatMap chs ++ chs i := by
  rw [List.range_succ, List.flatMap_append]; simp
theorem all_ok (M : Md) (a g : Nat) (last : Int) (op : List UInt8) (page : Nat) (hp : 1 ≤ page ∧ page ≤ 6) (chs : Nat → List Nt) (hc : PgHold (fun p => page? M.see 4 p) page chs) (w : World) (hM : MdAt w a M) (hg : Blk w g (bookC a 4 64 last op page) 90) :
    Calls Try.prog 19 #[.pointer (some ⟨g, 0, none⟩)] w fun e w' => (∃ v, e = .returned (.tuple #[v, .int .i64 0]) ∧ ntK.R 45 w' w.heap.size (fun _ => True) v ((List.range 6).flatMap chs)) ∧ Below w.heap.size w w' := by
  have hq := nilEq27 g
  have q1 := methGet a
  have q3 := nilGet a
  have HM := Lib.hid hM
  have Hg := Lib.hid hg
  have Hc := Lib.hid hc
  clear hM hg hc
  go_enter Try.func19, Try.ntmps19
  go_wp2
  go_loopw [4, 12] (fun v c wr => AllRel chs w v c wr) (fun _ c _ => 6 - (intOf c).toNat)
  case atStart => exact ⟨0, by omega, rfl, Kd.R_nil _ _ _ _ _, Below.refl _ _⟩
  case round =>
    obtain ⟨i, hi, rfl, hR, hB⟩ := hrel
    have hlen := chs_len chs (fun j hj => (Hc.out j hj).2.2) i (by omega)
    obtain ⟨D, hD⟩ : ∃ D, D = (List.range i).flatMap chs := ⟨_, rfl⟩
    rw [← hD] at hR hlen
    have HD := Lib.hid hD
    clear hD
    obtain ⟨A, c, rfl⟩ := Kd.R_slice hR
    have HR := Lib.hid hR
    have HB := Lib.hid hB
    clear hR hB
    by_cases hlt : i < 6
    · have hgw := Hg.out.below HB.out
      have c0 : wr.cell? ⟨g, 0, none⟩ = some (.iface 23 (.pointer (some ⟨a, 0, none⟩))) := hgw.cell 0
      have c1 : wr.cell? ⟨g, 1, none⟩ = some (.int .i64 4) := hgw.cell 1
      have c5 : wr.cell? ⟨g, 5, none⟩ = some (.int .i64 page) := hgw.cell 5
      have HMw := Lib.hid (HM.out.below HB.out)
      have h15 : (page : Int) ≤ 6 := by omega
      have h16 : (1 : Int) ≤ page := by omega
      clear hgw
      go_upto_region 8 with fail
      have k0 := fun n => later_cell c0 n
      have k1 := fun n => later_cell c1 n
      have ep : (((page + i) % 6 + 1 : Nat) : Int) = ((page : Int) + (i : Int)) % 6 + 1 := by simp
      obtain ⟨hc1, hc2, hc3⟩ := Hc.out i hlt
      obtain ⟨o, ho⟩ : ∃ o, o = page? M.see 4 (((page : Int) + (i : Int)) % 6 + 1) := ⟨_, rfl⟩
      have hc1' : (o = none ∧ chs i = []) ∨ o = some (bs (ntsB (chs i))) := by
        rw [ho, ← ep]; exact hc1
      have m1 := calls_later (P := Try.prog) (f := 128) (w := wr) (v := .tuple #[.string (gotS o), .int .i64 (gotE o)]) (fun w2 hb2 => by rw [ho]; exact get_m M a w2 (HMw.out.below hb2) 4 (((page : Int) + (i : Int)) % 6 + 1) (by constructor <;> omega) (by constructor <;> omega))
      have Hc1 := Lib.hid hc1'
      have Hc2 := Lib.hid hc2
      clear ho hc1 hc1' hc2 ep
      refine wp_region_later (by kernel_rfl) (by kernel_rfl) ?_
      repeat (any_goals (first | go_big_quiet_step ((with_reducible exact m1 _)) | quiet_step ((with_reducible exact m1 _))))
      refine wpQuiet_nil ?_
      intro w2 hw2
      have hb2 := later_of hw2
      clear hw2 m1 k0 k1 c0 c1 c5
      have HB2 := Lib.hid (HB.out.trans (hb2.mono HB.out.size))
      have HR2 := Lib.hid (Kd.R_below HR.out hb2)
      clear hb2 HR HB HMw
      rcases Hc1.out with ⟨rfl, he⟩ | rfl
      · have He := Lib.hid he
        clear he Hc1
        rw [show gotE none = 181 from rfl]
        go_wp2
        go_roundw
        case rel => exact ⟨i + 1, by omega, by go_num, by rw [range_app, He.out, List.append_nil, ← HD.out]; exact HR2.out, HB2.out⟩
        case measure => simp [intOf]; omega
      · clear Hc1
        rw [show gotE (some (bs (ntsB (chs i)))) = 0 from rfl, show gotS (some (bs (ntsB (chs i)))) = bs (ntsB (chs i)) from rfl]
        go_wp2_with fail
        refine (read_ok (chs i) Hc2.out hc3 w2).mono ?_
        rintro e w3 ⟨⟨v, rfl, hr⟩, hb3⟩
        obtain ⟨A3, n3, rfl, hl3, hC3⟩ := Kd.R_reads hr
        have HB3 := Lib.hid (HB2.out.trans (hb3.mono HB2.out.size))
        have HR3 := Lib.hid (Kd.R_below HR2.out hb3)
        have HC3 := Lib.hid hC3
        clear hb3 hr hC3 HB2 HR2
        go_wp2_with (first
          | (at_builtin; (refine Kd.R_append_rows ntK (Rr := ntK.K w3) (w0 := w) w.heap.size rfl (.tmp 52) (.tmp 53) 39 45 _ 32 rfl Try.underlying39 info45 rfl (by decide) (by decide) (.slice A D.length c) D (chs i) A3 (chs i).length n3 (fun _ => True) (fun _ => False) rfl rfl HR3.out HC3.out (fun _ _ h => ntK_KM h) (fun _ hk => hk.elim) (fun _ _ => trivial) HB3.out HB3.out.size ?l1 ?_); (case l1 => omega); intro v1 w4 hR4 hB4 hg4 hat4; have HR4 := Lib.hid hR4; have HB4 := Lib.hid hB4; clear hR4 hB4 hg4 hat4))
        go_roundw
        case rel => exact ⟨i + 1, by omega, by go_num, by rw [range_app, ← HD.out]; exact HR4.out, HB4.out⟩
        case measure => simp [intOf]; omega
    · obtain rfl : i = 6 := by omega
      go_wp2
      go_ret2
      rw [← HD.out]
      exact ⟨⟨_, rfl, HR.out⟩, HB.out⟩
end Go.Proofs.Yteilmbhnbmmcjaa.B
