/- Helper: keys compared; where a key is, or would be; walked. No condition. -/
import Derived.Test.YteilmbhnbmmcjaaKc
namespace Go.Proofs.Yteilmbhnbmmcjaa.B
open Go.RowKit Go.Proofs.YteilmbhnbmmcjaaW.PrintWords Go.Proofs.Yteilmbhnbmmcjaa.Later
set_option maxRecDepth 100000
set_option maxHeartbeats 1600000
def kLt (a b : List UInt8) : Bool := Go.Op.bytesLess a b
theorem kLt_nil (a : List UInt8) : kLt a [] = false := by cases a <;> rfl
theorem kLt_cons (a b : UInt8) (x y : List UInt8) : kLt (a :: x) (b :: y) = (decide (a < b) || (a == b && kLt x y)) := rfl
theorem kLt_irr : ∀ a, kLt a a = false
  | [] => rfl
  | a :: x => by
    rw [kLt_cons, kLt_irr x]
    simp
theorem kLt_trans : ∀ a b c, kLt a b = true → kLt b c = true → kLt a c = true
  | _, [], _, h, _ => by rw [kLt_nil] at h; cases h
  | _, _ :: _, [], _, h => by rw [kLt_nil] at h; cases h
  | [], _ :: _, _ :: _, _, _ => rfl
  | a :: x, b :: y, c :: z, h1, h2 => by
    rw [kLt_cons] at h1 h2 ⊢
    simp only [Bool.or_eq_true, decide_eq_true_eq, Bool.and_eq_true, beq_iff_eq] at h1 h2 ⊢
    rcases h1 with h1 | ⟨rfl, h1⟩
    · rcases h2 with h2 | ⟨rfl, h2⟩
      · left; rw [UInt8.lt_iff_toNat_lt] at *; omega
      · left; exact h1
    · rcases h2 with h2 | ⟨rfl, h2⟩
      · left; exact h2
      · right; exact ⟨rfl, kLt_trans x y z h1 h2⟩
theorem kLt_tri : ∀ a b, kLt a b = false → kLt b a = false → a = b
  | [], [], _, _ => rfl
  | [], _ :: _, h, _ => by cases h
  | _ :: _, [], _, h => by cases h
  | a :: x, b :: y, h1, h2 => by
    rw [kLt_cons] at h1 h2
    simp only [Bool.or_eq_false_iff, decide_eq_false_iff_not, Bool.and_eq_false_iff, beq_eq_false_iff_ne] at h1 h2
    have e : a = b := by
      have g1 := h1.1
      have g2 := h2.1
      rw [UInt8.lt_iff_toNat_lt] at g1 g2
      apply UInt8.toNat_inj.1
      omega
    subst e
    rw [kLt_tri x y (by simpa using h1.2) (by simpa using h2.2)]
theorem kLt_asym (a b : List UInt8) (h : kLt a b = true) : kLt b a = false := by
  cases hb : kLt b a with
  | false => rfl
  | true => have := kLt_trans a b a h hb; rw [kLt_irr] at this; cases this
def kCmp (a b : List UInt8) : Int := if kLt a b then -1 else if a = b then 0 else 1
theorem bs_toList (l : List UInt8) : (bs l).toList = l := by
  rw [ByteArray.toList_eq, bs_list]
theorem kCmp_neg (a b : List UInt8) : decide (kCmp a b < 0) = kLt a b := by
  unfold kCmp
  cases h : kLt a b with
  | true => simp
  | false => simp; split <;> omega
theorem kCmp_zero (a b : List UInt8) : (kCmp a b == 0) = decide (a = b) := by
  unfold kCmp
  cases h : kLt a b with
  | true =>
    have : a ≠ b := fun e => by subst e; rw [kLt_irr] at h; cases h
    simp [this]
  | false => simp; split <;> simp_all
theorem nan_any (a : ByteArray) (w : World) : Calls Try.prog 83 #[.string a] w fun e w' => e = .returned (.bool false) ∧ w = w' := by
  go_enter Try.func83, Try.ntmps83
  go_wp2
  go_ret
  exact ⟨by simp, rfl⟩
theorem cmp_any (a b : List UInt8) (w : World) : Calls Try.prog 60 #[.string (bs a), .string (bs b)] w fun e w' => e = .returned (.int .i64 (kCmp a b)) ∧ w = w' := by
  have ha := bs_toList a
  have hb := bs_toList b
  go_enter Try.func60, Try.ntmps60
  go_wp2_with fail
  refine (nan_any _ w).mono ?_
  rintro e w1 ⟨rfl, rfl⟩
  go_wp2_with fail
  refine (nan_any _ w).mono ?_
  rintro e w1 ⟨rfl, rfl⟩
  go_wp2
  · have h : kLt a b = true := by assumption
    go_ret
    exact ⟨by rw [kCmp, if_pos h]; rfl, rfl⟩
  · have h : kLt a b = false := by assumption
    have h2 : (!a == b) = true := by assumption
    have h3 : a ≠ b := by simpa using h2
    go_ret
    exact ⟨by rw [kCmp, if_neg (by simp [h]), if_neg h3]; rfl, rfl⟩
  · have h : kLt a b = false := by assumption
    have h2 : (!a == b) = false := by assumption
    have h3 : a = b := by simpa using h2
    go_ret
    exact ⟨by rw [kCmp, if_neg (by simp [h]), if_pos h3]; rfl, rfl⟩
theorem fcmp_any (x : Pr) (key : List UInt8) (w : World) : Calls Try.prog 89 #[.agg #[.string (bs x.k), .string (bs x.v)], .string (bs key)] w fun e w' => e = .returned (.int .i64 (kCmp x.k key)) ∧ Below w.heap.size w w' := by
  go_enter Try.func89, Try.ntmps89
  go_wp2_with fail
  refine (cmp_any x.k key _).mono ?_
  rintro e w1 ⟨rfl, rfl⟩
  go_wp2
  go_ret
  exact ⟨rfl, (Below.refl _ _).alloc (Nat.le_refl _) _⟩
/-- Keys rise. -/
def Rises (l : List Pr) : Prop := ∀ i j, i < j → j < l.length → kLt (prA l i).k (prA l j).k = true
/-- Where a key is, or would be. -/
def IsAt (l : List Pr) (key : List UInt8) (n : Nat) : Prop := n ≤ l.length ∧ (∀ i, i < n → kLt (prA l i).k key = true) ∧ (∀ i, n ≤ i → i < l.length → kLt (prA l i).k key = false)
def hasKey (l : List Pr) (key : List UInt8) (n : Nat) : Bool := decide (n < l.length) && decide ((prA l n).k = key)
theorem IsAt.uniq {l : List Pr} {key : List UInt8} {n m : Nat} (h : IsAt l key n) (k : IsAt l key m) : n = m := by
  rcases Nat.lt_trichotomy n m with hlt | rfl | hlt
  · have h1 := k.2.1 n hlt
    have h2 := h.2.2 n (Nat.le_refl _) (by have := k.1; omega)
    rw [h1] at h2; cases h2
  · rfl
  · have h1 := h.2.1 m hlt
    have h2 := k.2.2 m (Nat.le_refl _) (by have := h.1; omega)
    rw [h1] at h2; cases h2
def SearchRel (l : List Pr) (key : List UInt8) (w : World) (x y : Value) (wr : World) : Prop :=
  ∃ i j : Nat, i ≤ j ∧ j ≤ l.length ∧ x = .int .i64 i ∧ y = .int .i64 j ∧ (∀ n, n < i → kLt (prA l n).k key = true) ∧ (∀ n, j ≤ n → n < l.length → kLt (prA l n).k key = false) ∧ Below w.heap.size w wr
theorem search_any (l : List Pr) (hR : Rises l) (hn : l.length ≤ 10000) (key : List UInt8) (A : Option Addr) (c : Nat) (w : World) (hC : Kd.C prK w A l.length l) :
    Calls Try.prog 88 #[.slice A l.length c, .string (bs key), .func (.func 89) #[] #[]] w fun e w' => (∃ n : Nat, e = .returned (.tuple #[.int .i64 n, .bool (hasKey l key n)]) ∧ IsAt l key n) ∧ Below w.heap.size w w' := by
  have HC := Lib.hid hC
  have HR := Lib.hid hR
  clear hC hR
  go_enter Try.func88, Try.ntmps88
  go_wp2
  go_loopw [9, 10] (fun x y wr => SearchRel l key w x y wr) (fun x y _ => (intOf y).toNat - (intOf x).toNat)
  case atStart => exact ⟨0, l.length, by omega, by omega, rfl, rfl, fun n h => by omega, fun n h h2 => by omega, Below.refl _ _⟩
  case round =>
    obtain ⟨i, j, hij, hj, rfl, rfl, h1, h2, hB⟩ := hrel
    have H1 := Lib.hid h1
    have H2 := Lib.hid h2
    have HB := Lib.hid hB
    clear h1 h2 hB
    by_cases hlt : i < j
    · go_upto_region 5 with fail
      obtain ⟨m, hm⟩ : ∃ m : Nat, m = (i + j) / 2 := ⟨_, rfl⟩
      have em : ((i : Int) + (j : Int)) / 2 = (m : Int) := by omega
      rw [em]
      have hm1 : i ≤ m := by omega
      have hm2 : m < j := by omega
      clear em hm
      obtain ⟨ad, e, d0, d1⟩ := at_pr (Kd.C_below HC.out HB.out) (m : Int) (by omega) (by omega)
      cases e
      rw [Int.toNat_natCast] at d0 d1
      have i0 : (0 : Int) ≤ (m : Int) := by omega
      have i1 : (m : Int) < (l.length : Int) := by omega
      have hk := kCmp_neg (prA l m).k key
      obtain ⟨q, hq⟩ : ∃ q, q = kCmp (prA l m).k key := ⟨_, rfl⟩
      rw [← hq] at hk
      have hf := fcmp_any (prA l m) key wr
      rw [← hq] at hf
      have Hf := Lib.hid hf
      have Hk := Lib.hid hk
      clear hf hk hq
      go_wp2_with fail
      refine Hf.out.mono ?_
      rintro e w2 ⟨rfl, hB2⟩
      have HB2 := Lib.hid (HB.out.trans (hB2.mono HB.out.size))
      clear hB2 d0 d1 Hf
      go_wp2
      · have hq : q < 0 := by assumption
        have hlt3 : kLt (prA l m).k key = true := by rw [← Hk.out]; exact decide_eq_true hq
        go_roundw
        case rel => exact ⟨m + 1, j, by omega, hj, by go_num, rfl, fun n h => (by
          by_cases e : n = m
          · rw [e]; exact hlt3
          · exact kLt_trans _ _ _ (HR.out n m (by omega) (by omega)) hlt3), H2.out, HB2.out⟩
        case measure => simp [intOf]; omega
      · have hq : 0 ≤ q := by assumption
        have hlt3 : kLt (prA l m).k key = false := by rw [← Hk.out]; exact decide_eq_false (by omega)
        go_roundw
        case rel => exact ⟨i, m, by omega, by omega, rfl, rfl, H1.out, fun n h h3 => (by
          by_cases e : n = m
          · rw [e]; exact hlt3
          · cases hb : kLt (prA l n).k key with
            | false => rfl
            | true =>
              have := kLt_trans _ _ _ (HR.out m n (by omega) h3) hb
              rw [this] at hlt3; cases hlt3), HB2.out⟩
        case measure => simp [intOf]; omega
    · obtain rfl : i = j := by omega
      by_cases hin : i < l.length
      · obtain ⟨ad, e, d0, d1⟩ := at_pr (Kd.C_below HC.out HB.out) (i : Int) (by omega) (by omega)
        cases e
        rw [Int.toNat_natCast] at d0 d1
        have i0 : (0 : Int) ≤ (i : Int) := by omega
        have i1 : (i : Int) < (l.length : Int) := by omega
        have hk := kCmp_zero (prA l i).k key
        obtain ⟨q, hq⟩ : ∃ q, q = kCmp (prA l i).k key := ⟨_, rfl⟩
        rw [← hq] at hk
        have hf := fcmp_any (prA l i) key wr
        rw [← hq] at hf
        have Hf := Lib.hid hf
        have Hk := Lib.hid hk
        clear hf hk hq
        go_wp2_with fail
        refine Hf.out.mono ?_
        rintro e w2 ⟨rfl, hB2⟩
        have HB2 := Lib.hid (HB.out.trans (hB2.mono HB.out.size))
        clear hB2 d0 d1 Hf
        go_wp2
        go_ret2
        exact ⟨⟨i, by rw [hasKey, decide_eq_true hin, Bool.true_and, ← Hk.out]; rfl, hj, H1.out, H2.out⟩, HB2.out⟩
      · obtain rfl : i = l.length := by omega
        go_wp2
        go_ret2
        exact ⟨⟨l.length, by rw [hasKey, decide_eq_false (by omega)]; rfl, hj, H1.out, H2.out⟩, HB.out⟩
theorem find_any (l : List Pr) (hR : Rises l) (hn : l.length ≤ 10000) (key : List UInt8) (A : Option Addr) (c : Nat) (w : World) (hC : Kd.C prK w A l.length l) :
    Calls Try.prog 63 #[.slice A l.length c, .string (bs key)] w fun e w' => (∃ n : Nat, e = .returned (.tuple #[.int .i64 n, .bool (hasKey l key n)]) ∧ IsAt l key n) ∧ Below w.heap.size w w' := by
  have hs := search_any l hR hn key A c w hC
  have Hs := Lib.hid hs
  clear hs hC hR
  go_enter Try.func63, Try.ntmps63
  go_wp2_with fail
  refine Hs.out.mono ?_
  rintro e w2 ⟨⟨n, rfl, hn2⟩, hB2⟩
  have Hn := Lib.hid hn2
  clear hn2
  go_wp2
  go_ret2
  exact ⟨⟨n, rfl, Hn.out⟩, hB2⟩
end Go.Proofs.Yteilmbhnbmmcjaa.B
