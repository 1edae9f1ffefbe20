/- Helper: a note told by its number; walked. No condition. -/
import Derived.Test.YteilmbhnbmmcjaaLj
namespace Go.Proofs.Yteilmbhnbmmcjaa.B
open Go.RowKit Go.Proofs.YteilmbhnbmmcjaaW.PrintWords Go.Proofs.Yteilmbhnbmmcjaa.Later
set_option maxRecDepth 100000
set_option maxHeartbeats 1600000
def ntZ : Value := .agg #[.int .i64 0, .int .i64 0, .string ⟨#[]⟩]
theorem note_nil (n : Int) (w : World) : Calls Try.prog 22 #[.pointer none, .int .i64 n] w fun e w' => e = .returned (.tuple #[ntZ, .int .i64 1]) ∧ Below w.heap.size w w' := by
  go_enter Try.func22, Try.ntmps22
  go_wp2_with fail
  refine (all_nil _).mono ?_
  rintro e w1 ⟨rfl, rfl⟩
  go_wp2
  have k := (Blk.new w #[.int .i64 0, .int .i64 0, .string ⟨#[]⟩] 45)
  exact bodyPost_ret (results_ct Try.results22 _ _ w.heap.size 45 _ (0, 0) _ rfl k Try.underlying45 rfl (by kernel_rfl)) rfl ⟨rfl, (Below.refl _ _).alloc (Nat.le_refl _) _⟩
def noteV (D : List Nt) (last n : Int) : Value × Int := match D.find? (fun x => decide ((x.n : Int) = n)) with
  | some x => (x.val, 0)
  | none => if 1 ≤ n ∧ n ≤ last then (ntZ, 400) else (ntZ, 181)
theorem noteV_at (D : List Nt) (last n : Int) (i : Nat) (hi : i < D.length) (h0 : ∀ j, j < i → ((ntA D j).n : Int) ≠ n) (h : ((ntA D i).n : Int) = n) : noteV D last n = ((ntA D i).val, 0) := by
  have e : D.find? (fun x => decide ((x.n : Int) = n)) = some (ntA D i) := by
    rw [List.find?_eq_some_iff_getElem]
    refine ⟨by simpa using h, i, hi, by simp [ntA, List.getD_eq_getElem?_getD, List.getElem?_eq_getElem hi], fun j hj => ?_⟩
    have := h0 j hj
    simpa [ntA, List.getD_eq_getElem?_getD, List.getElem?_eq_getElem (show j < D.length by omega)] using this
  simp [noteV, e]
theorem noteV_none (D : List Nt) (last n : Int) (h0 : ∀ j, j < D.length → ((ntA D j).n : Int) ≠ n) : noteV D last n = if 1 ≤ n ∧ n ≤ last then (ntZ, 400) else (ntZ, 181) := by
  have e : D.find? (fun x => decide ((x.n : Int) = n)) = none := by
    rw [List.find?_eq_none]
    intro x hx
    obtain ⟨j, hj, rfl⟩ := List.mem_iff_getElem.1 hx
    have := h0 j hj
    simpa [ntA, List.getD_eq_getElem?_getD, List.getElem?_eq_getElem hj] using this
  simp [noteV, e]
def NoteRel (D : List Nt) (n : Int) (w1 : World) (c : Value) (wr : World) : Prop :=
  ∃ i : Nat, i ≤ D.length ∧ c = .int .i64 i ∧ (∀ j, j < i → ((ntA D j).n : Int) ≠ n) ∧ Below w1.heap.size w1 wr
theorem note_ok (M : Md) (a g : Nat) (last : Int) (op : List UInt8) (page : Nat) (hp : 1 ≤ page ∧ page ≤ 6) (chs : Nat → List Nt) (hc : PgHold (fun p => page? M.see 4 p) page chs) (n : Int) (D : List Nt) (hD : D = (List.range 6).flatMap chs) (hDl : D.length ≤ 6000) (w : World) (hM : MdAt w a M) (hg : Blk w g (bookC a 4 64 last op page) 90) :
    Calls Try.prog 22 #[.pointer (some ⟨g, 0, none⟩), .int .i64 n] w fun e w' => e = .returned (.tuple #[(noteV D last n).1, .int .i64 (noteV D last n).2]) ∧ Below w.heap.size w w' := by
  have hk := Blk.new w #[.int .i64 0, .int .i64 0, .string ⟨#[]⟩] 45
  have hB0 : Below w.heap.size w (w.alloc (.cells #[.int .i64 0, .int .i64 0, .string ⟨#[]⟩] 45)) := (Below.refl _ _).alloc (Nat.le_refl _) _
  have ha := fun W h1 h2 => all_ok M a g last op page hp chs hc W h1 h2
  rw [← hD] at ha
  have Ha := Lib.hid ha
  have HM := Lib.hid hM
  have Hg := Lib.hid hg
  have HB0 := Lib.hid hB0
  have Hk := Lib.hid hk
  clear ha hM hg hB0 hk hc hD
  go_enter Try.func22, Try.ntmps22
  go_wp2_with fail
  obtain ⟨w0, hw0⟩ : ∃ w0, w0 = w.alloc (.cells #[.int .i64 0, .int .i64 0, .string ⟨#[]⟩] 45) := ⟨_, rfl⟩
  rw [← hw0] at HB0 Hk ⊢
  clear hw0
  refine (Ha.out w0 (HM.out.below HB0.out) (Hg.out.below HB0.out)).mono ?_
  rintro e w1 ⟨⟨v, rfl, hR⟩, hB1⟩
  obtain ⟨A, c, rfl, hl, hC⟩ := Kd.R_reads hR
  have HB1 := Lib.hid (HB0.out.trans (hB1.mono HB0.out.size))
  have Hk1 := Lib.hid (Hk.out.below hB1)
  have Hg1 := Lib.hid (Hg.out.below HB1.out)
  have HC := Lib.hid hC
  clear hR hB1 hC Ha Hg
  have hwl := Hk1.out.lt
  go_wp2
  go_loopw [21] (fun c wr => NoteRel D n w1 c wr) (fun c _ => D.length - (intOf c).toNat)
  case atStart => exact ⟨0, by omega, rfl, fun j hj => by omega, Below.refl _ _⟩
  case round =>
    obtain ⟨i, hi, rfl, h0, hB⟩ := hrel
    have HB := Lib.hid hB
    have H0 := Lib.hid h0
    clear hB h0
    by_cases hlt : i < D.length
    · obtain ⟨ad, e, d0, d1, d2⟩ := at_nt (Kd.C_below HC.out HB.out) (i : Int) (by omega) (by omega)
      cases e
      rw [Int.toNat_natCast] at d0 d1 d2
      by_cases heq : ((ntA D i).n : Int) = n
      · have hb : (((ntA D i).n : Int) == n) = true := beq_iff_eq.2 heq
        have Hv := Lib.hid (noteV_at D last n i hlt H0.out heq)
        clear heq
        have hwr := HB.out.size
        go_upto_region 8 with fail
        obtain ⟨w2, hw2⟩ : ∃ w2, w2 = wr.alloc (.cells #[.int .i64 (ntA D i).n, .int .i64 (ntA D i).k, .string (bs (ntA D i).t)] 45) := ⟨_, rfl⟩
        rw [← hw2]
        have hb2 : Below wr.heap.size wr w2 := by rw [hw2]; exact (Below.refl _ _).alloc (Nat.le_refl _) _
        have hx2 : Blk w2 wr.heap.size #[.int .i64 (ntA D i).n, .int .i64 (ntA D i).k, .string (bs (ntA D i).t)] 45 := by rw [hw2]; exact Blk.new wr _ 45
        have hkr := (Hk1.out.below HB.out).below hb2
        have x0 : w2.cell? ⟨wr.heap.size, 0, none⟩ = some (.int .i64 (ntA D i).n) := hx2.cell 0
        have x1 : w2.cell? ⟨wr.heap.size, 1, none⟩ = some (.int .i64 (ntA D i).k) := hx2.cell 1
        have x2 : w2.cell? ⟨wr.heap.size, 2, none⟩ = some (.string (bs (ntA D i).t)) := hx2.cell 2
        have e0 : w2.cell? ⟨w.heap.size, 0, none⟩ = some (.int .i64 0) := hkr.cell 0
        have e1 : w2.cell? ⟨w.heap.size, 1, none⟩ = some (.int .i64 0) := hkr.cell 1
        have e2 : w2.cell? ⟨w.heap.size, 2, none⟩ = some (.string ⟨#[]⟩) := hkr.cell 2
        have f0 := hkr.free 0
        have f1 := hkr.free 1
        have f2 := hkr.free 2
        have Hkr := Lib.hid hkr
        have HB2 := Lib.hid (HB1.out.trans ((HB.out.trans (hb2.mono HB.out.size)).mono HB1.out.size))
        clear hkr hw2 hb2 hx2 d0 d1 d2
        go_wp2
        have k := ((Hkr.out.set 0 (.int .i64 (ntA D i).n)).set 1 (.int .i64 (ntA D i).k)).set 2 (.string (bs (ntA D i).t))
        simp only [List.setIfInBounds_toArray] at k
        rw [Hv.out]
        exact bodyPost_ret (results_ct Try.results22 _ _ w.heap.size 45 _ (0, 0) _ rfl k Try.underlying45 rfl (by kernel_rfl)) rfl ⟨rfl, ((HB2.out.setCell (p := ⟨w.heap.size, 0, none⟩) (Nat.le_refl _) _).setCell (p := ⟨w.heap.size, 1, none⟩) (Nat.le_refl _) _).setCell (p := ⟨w.heap.size, 2, none⟩) (Nat.le_refl _) _⟩
      · have hb : (((ntA D i).n : Int) == n) = false := beq_eq_false_iff_ne.2 heq
        have Hne := Lib.hid heq
        clear heq
        go_wp2
        go_roundw
        case rel => exact ⟨i + 1, by omega, by go_num, fun j hj => (by rcases Nat.lt_succ_iff_lt_or_eq.1 hj with h | rfl; exact H0.out j h; exact Hne.out), HB.out.alloc HB.out.size _⟩
        case measure => simp [intOf]; omega
    · obtain rfl : i = D.length := by omega
      have Hv0 := Lib.hid (noteV_none D last n H0.out)
      have hkr := Hk1.out.below HB.out
      have hgr := Hg1.out.below HB.out
      have e0 : wr.cell? ⟨w.heap.size, 0, none⟩ = some (.int .i64 0) := hkr.cell 0
      have e1 : wr.cell? ⟨w.heap.size, 1, none⟩ = some (.int .i64 0) := hkr.cell 1
      have e2 : wr.cell? ⟨w.heap.size, 2, none⟩ = some (.string ⟨#[]⟩) := hkr.cell 2
      have c3 : wr.cell? ⟨g, 3, none⟩ = some (.int .i64 last) := hgr.cell 3
      have f0 := hkr.free 0
      have f1 := hkr.free 1
      have f2 := hkr.free 2
      have Hkr := Lib.hid hkr
      have HB2 := Lib.hid (HB1.out.trans (HB.out.mono HB1.out.size))
      clear hkr hgr
      by_cases h1 : 1 ≤ n
      · by_cases h2 : n ≤ last
        · have hb : decide (n ≤ last) = true := decide_eq_true h2
          have Hv := Lib.hid (Hv0.out.trans (if_pos ⟨h1, h2⟩))
          go_wp2
          have k := ((Hkr.out.set 0 (.int .i64 0)).set 1 (.int .i64 0)).set 2 (.string ⟨#[]⟩)
          simp only [List.setIfInBounds_toArray] at k
          rw [Hv.out]
          exact bodyPost_ret (results_ct Try.results22 _ _ w.heap.size 45 _ (0, 0) _ rfl k Try.underlying45 rfl (by kernel_rfl)) rfl ⟨rfl, ((HB2.out.setCell (p := ⟨w.heap.size, 0, none⟩) (Nat.le_refl _) _).setCell (p := ⟨w.heap.size, 1, none⟩) (Nat.le_refl _) _).setCell (p := ⟨w.heap.size, 2, none⟩) (Nat.le_refl _) _⟩
        · have hb : decide (n ≤ last) = false := decide_eq_false h2
          have Hv := Lib.hid (Hv0.out.trans (if_neg (fun h => h2 h.2)))
          go_wp2
          have k := ((Hkr.out.set 0 (.int .i64 0)).set 1 (.int .i64 0)).set 2 (.string ⟨#[]⟩)
          simp only [List.setIfInBounds_toArray] at k
          rw [Hv.out]
          exact bodyPost_ret (results_ct Try.results22 _ _ w.heap.size 45 _ (0, 0) _ rfl k Try.underlying45 rfl (by kernel_rfl)) rfl ⟨rfl, ((HB2.out.setCell (p := ⟨w.heap.size, 0, none⟩) (Nat.le_refl _) _).setCell (p := ⟨w.heap.size, 1, none⟩) (Nat.le_refl _) _).setCell (p := ⟨w.heap.size, 2, none⟩) (Nat.le_refl _) _⟩
      · have h1' : n < 1 := by omega
        have Hv := Lib.hid (Hv0.out.trans (if_neg (fun h => h1 h.1)))
        go_wp2
        have k := ((Hkr.out.set 0 (.int .i64 0)).set 1 (.int .i64 0)).set 2 (.string ⟨#[]⟩)
        simp only [List.setIfInBounds_toArray] at k
        rw [Hv.out]
        exact bodyPost_ret (results_ct Try.results22 _ _ w.heap.size 45 _ (0, 0) _ rfl k Try.underlying45 rfl (by kernel_rfl)) rfl ⟨rfl, ((HB2.out.setCell (p := ⟨w.heap.size, 0, none⟩) (Nat.le_refl _) _).setCell (p := ⟨w.heap.size, 1, none⟩) (Nat.le_refl _) _).setCell (p := ⟨w.heap.size, 2, none⟩) (Nat.le_refl _) _⟩
end Go.Proofs.Yteilmbhnbmmcjaa.B
