/- Helper: keys and what they have, as bytes; walked. keys compared; where a key is, or would be; walked. the pairs of a page, plainly. No condition. -/
import Derived.Test.YteilmbhnbmmcjaaKb
import Derived.Test.YteilmbhnbmmcjaaLg
import Derived.Test.YteilmbhnbmmcjaaLaterCall
namespace Go.Proofs.Yteilmbhnbmmcjaa.B
open Go.RowKit Go.Proofs.YteilmbhnbmmcjaaW.PrintWords Go.Proofs.Yteilmbhnbmmcjaa.Later
set_option maxRecDepth 100000
set_option maxHeartbeats 1600000
/-- A key, and what it has. -/
structure Pr where
  k : List UInt8
  v : List UInt8
instance : Inhabited Pr := ⟨⟨[], []⟩⟩
def Pr.small (x : Pr) : Prop := x.k.length ≤ 1000 ∧ x.v.length ≤ 1000
def prK : Kd Pr := Kd.iso (Kd.pair Kd.string Kd.string) (fun x => (bs x.k, bs x.v))
theorem prK_open {w : World} {x : Pr} {cs : List Value} (h : prK.K w x cs) : cs = [.string (bs x.k), .string (bs x.v)] := by
  obtain ⟨_, _, rfl, rfl, rfl⟩ := h
  rfl
theorem prK_mkM (w : World) (base : Nat) (ok : Nat → Prop) (x : Pr) : prK.M w base ok x [.string (bs x.k), .string (bs x.v)] := ⟨[.string (bs x.k)], [.string (bs x.v)], rfl, rfl, rfl⟩
theorem prK_KM {w w0 : World} {base : Nat} {ok : Nat → Prop} {x : Pr} {cs : List Value} (h : prK.K w x cs) : prK.M w0 base ok x cs := by
  obtain rfl := prK_open h
  exact prK_mkM _ _ _ x
def prA (l : List Pr) (i : Nat) : Pr := l.getD i default
theorem prA_get (l : List Pr) (i : Nat) (h : i < l.length) : prA l i = l[i] := by simp [prA, List.getD_eq_getElem?_getD, List.getElem?_eq_getElem h]
theorem at_pr {w : World} {A : Option Addr} {n : Nat} {xs : List Pr} (h : Kd.C prK w A n xs) (i : Int) (h0 : 0 ≤ i) (h1 : i < n) :
    ∃ ad, A = some ad ∧ w.cell? (ad.add (i.toNat * 2)) = some (.string (bs (prA xs i.toNat).k)) ∧ w.cell? ⟨(ad.add (i.toNat * 2)).block, (ad.add (i.toNat * 2)).off + 1, none⟩ = some (.string (bs (prA xs i.toNat).v)) := by
  obtain ⟨ad, c, e, _, hK, hc0⟩ := Kd.C_get h default i h0 h1
  have hc : ∀ j u, c[j]? = some u → w.cell? (ad.add (i.toNat * 2 + j)) = some u := hc0
  obtain rfl := prK_open hK
  exact ⟨ad, e, hc 0 _ rfl, by rw [← add_field _ _ 1 (by omega)]; exact hc 1 _ rfl⟩
def Pr.bytes (x : Pr) : List UInt8 := textL x.k ++ textL x.v
def prsB (l : List Pr) : List UInt8 := l.flatMap Pr.bytes
theorem prsB_snoc (l : List Pr) (x : Pr) : prsB (l ++ [x]) = prsB l ++ x.bytes := by simp [prsB]
theorem prsB_cons (x : Pr) (l : List Pr) : prsB (x :: l) = textL x.k ++ (textL x.v ++ prsB l) := by simp [prsB, Pr.bytes]
theorem textL_len (s : List UInt8) (h : s.length ≤ 1000) : (textL s).length ≤ 1009 := by
  have := numL_len (n := s.length) (by omega)
  simp [textL]; omega
theorem prsB_len : ∀ l : List Pr, (∀ x ∈ l, x.small) → (prsB l).length ≤ 2018 * l.length
  | [], _ => by simp [prsB]
  | x :: l, h => by
    have h1 := prsB_len l (fun y hy => h y (by simp [hy]))
    obtain ⟨h2, h3⟩ := h x (by simp)
    have h4 := textL_len x.k h2
    have h5 := textL_len x.v h3
    rw [prsB_cons]
    simp only [List.length_append, List.length_cons]
    omega
def TextRel (l : List Pr) (w : World) (s i : Value) (wr : World) : Prop :=
  ∃ k : Nat, k ≤ l.length ∧ i = .int .i64 k ∧ s = .string (bs (prsB (l.take k))) ∧ Below w.heap.size w wr
theorem text_any (l : List Pr) (hl : ∀ x ∈ l, x.small) (hn : l.length ≤ 10000) (A : Option Addr) (c : Nat) (w : World) (hC : Kd.C prK w A l.length l) :
    Calls Try.prog 86 #[.slice A l.length c] w fun e w' => e = .returned (.string (bs (prsB l))) ∧ Below w.heap.size w w' := by
  have HC := Lib.hid hC
  have Hs := Lib.hid hl
  clear hC hl
  go_enter Try.func86, Try.ntmps86
  go_wp2
  go_loopw [3, 8] (fun s i wr => TextRel l w s i wr) (fun _ i _ => l.length - (intOf i).toNat)
  case atStart => exact ⟨0, by omega, rfl, rfl, Below.refl _ _⟩
  case round =>
    obtain ⟨k, hk, rfl, rfl, hB⟩ := hrel
    have HB := Lib.hid hB
    clear hB
    by_cases hlt : k < l.length
    · obtain ⟨ad, e, d0, d1⟩ := at_pr (Kd.C_below HC.out HB.out) (k : Int) (by omega) (by omega)
      cases e
      rw [Int.toNat_natCast] at d0 d1
      obtain ⟨x, hx⟩ : ∃ x, x = prA l k := ⟨_, rfl⟩
      rw [← hx] at d0 d1
      have hxs : x.small := by rw [hx, prA_get l k hlt]; exact Hs.out _ (by simp)
      have hst : prsB (l.take (k + 1)) = prsB (l.take k) ++ x.bytes := by rw [List.take_succ_eq_append_getElem hlt, prsB_snoc, hx, prA_get l k hlt]
      have hlen := prsB_len (l.take k) (fun y hy => Hs.out y (List.mem_of_mem_take hy))
      have htk : (l.take k).length = k := by rw [List.length_take]; omega
      rw [htk] at hlen
      obtain ⟨S, hS⟩ : ∃ S, S = prsB (l.take k) := ⟨_, rfl⟩
      rw [← hS] at hst hlen ⊢
      have Hst := Lib.hid hst
      clear hst hS hx htk
      have z := bs_size S
      go_upto_region 5 with fail
      obtain ⟨w1, hw1⟩ : ∃ w1, w1 = wr.alloc (.cells #[.string (bs x.k), .string (bs x.v)] 63) := ⟨_, rfl⟩
      rw [← hw1]
      have hB1 : Below w.heap.size w w1 := by rw [hw1]; exact HB.out.alloc HB.out.size _
      have hb1 : Blk w1 wr.heap.size #[.string (bs x.k), .string (bs x.v)] 63 := by rw [hw1]; exact Blk.new wr _ 63
      have c0 : w1.cell? ⟨wr.heap.size, 0, none⟩ = some (.string (bs x.k)) := hb1.cell 0
      have c1 : w1.cell? ⟨wr.heap.size, 1, none⟩ = some (.string (bs x.v)) := hb1.cell 1
      have HB1 := Lib.hid hB1
      have k0 := fun n => later_cell c0 n
      have k1 := fun n => later_cell c1 n
      obtain ⟨h2, h3⟩ := hxs
      obtain ⟨P1, hP1⟩ : ∃ P, P = textL x.k := ⟨_, rfl⟩
      obtain ⟨P2, hP2⟩ : ∃ P, P = textL x.v := ⟨_, rfl⟩
      have z1 := bs_size P1
      have z2 := bs_size P2
      have l1 : P1.length ≤ 1009 := by rw [hP1]; exact textL_len _ h2
      have l2 : P2.length ≤ 1009 := by rw [hP2]; exact textL_len _ h3
      have m1 := calls_later (P := Try.prog) (f := 76) (w := w1) (v := .string (bs P1)) (fun w2 _ => by rw [hP1]; exact ctext_any x.k (by omega) w2)
      have m2 := calls_later (P := Try.prog) (f := 76) (w := w1) (v := .string (bs P2)) (fun w2 _ => by rw [hP2]; exact ctext_any x.v (by omega) w2)
      have Hby := Lib.hid (show x.bytes = P1 ++ P2 by rw [hP1, hP2]; rfl)
      clear hw1 hB1 hb1 c0 c1 d0 d1 hP1 hP2
      refine wp_region_later (by kernel_rfl) (by kernel_rfl) ?_
      repeat go_big_quiet_step (fail)
      go_big_quiet_step (with_reducible exact m1 _)
      repeat go_big_quiet_step (fail)
      go_big_quiet_step (with_reducible exact m2 _)
      repeat go_big_quiet_step (fail)
      refine wpQuiet_nil ?_
      intro w2 hw2
      have HB2 := Lib.hid (HB1.out.trans ((later_of hw2).mono HB1.out.size))
      clear hw2 m1 m2 k0 k1
      go_wp2
      go_roundw
      case rel => exact ⟨k + 1, by omega, by go_num, by rw [Hst.out, Hby.out, bs_app, bs_app], HB2.out⟩
      case measure => simp [intOf]; omega
    · obtain rfl : k = l.length := by omega
      rw [List.take_length]
      go_wp2
      go_ret
      exact ⟨rfl, HB.out⟩
end Go.Proofs.Yteilmbhnbmmcjaa.B
namespace Go.Proofs.Yteilmbhnbmmcjaa.B
open Go.RowKit Go.Proofs.YteilmbhnbmmcjaaW.PrintWords Go.Proofs.Yteilmbhnbmmcjaa.Later
set_option maxRecDepth 100000
set_option maxHeartbeats 1600000
def kLt (a b : List UInt8) : Bool := Go.Op.bytesLess a b
theorem kLt_nil (a : List UInt8) : kLt a [] = false := by cases a <;> rfl
theorem kLt_cons (a b : UInt8) (x y : List UInt8) : kLt (a :: x) (b :: y) = (decide (a < b) || (a == b && kLt x y)) := rfl
theorem kLt_irr : ∀ a, kLt a a = false
  | [] => rfl
  | a :: x => by
    rw [kLt_cons, kLt_irr x]
    simp
theorem kLt_trans : ∀ a b c, kLt a b = true → kLt b c = true → kLt a c = true
  | _, [], _, h, _ => by rw [kLt_nil] at h; cases h
  | _, _ :: _, [], _, h => by rw [kLt_nil] at h; cases h
  | [], _ :: _, _ :: _, _, _ => rfl
  | a :: x, b :: y, c :: z, h1, h2 => by
    rw [kLt_cons] at h1 h2 ⊢
    simp only [Bool.or_eq_true, decide_eq_true_eq, Bool.and_eq_true, beq_iff_eq] at h1 h2 ⊢
    rcases h1 with h1 | ⟨rfl, h1⟩
    · rcases h2 with h2 | ⟨rfl, h2⟩
      · left; rw [UInt8.lt_iff_toNat_lt] at *; omega
      · left; exact h1
    · rcases h2 with h2 | ⟨rfl, h2⟩
      · left; exact h2
      · right; exact ⟨rfl, kLt_trans x y z h1 h2⟩
theorem kLt_tri : ∀ a b, kLt a b = false → kLt b a = false → a = b
  | [], [], _, _ => rfl
  | [], _ :: _, h, _ => by cases h
  | _ :: _, [], _, h => by cases h
  | a :: x, b :: y, h1, h2 => by
    rw [kLt_cons] at h1 h2
    simp only [Bool.or_eq_false_iff, decide_eq_false_iff_not, Bool.and_eq_false_iff, beq_eq_false_iff_ne] at h1 h2
    have e : a = b := by
      have g1 := h1.1
      have g2 := h2.1
      rw [UInt8.lt_iff_toNat_lt] at g1 g2
      apply UInt8.toNat_inj.1
      omega
    subst e
    rw [kLt_tri x y (by simpa using h1.2) (by simpa using h2.2)]
theorem kLt_asym (a b : List UInt8) (h : kLt a b = true) : kLt b a = false := by
  cases hb : kLt b a with
  | false => rfl
  | true => have := kLt_trans a b a h hb; rw [kLt_irr] at this; cases this
def kCmp (a b : List UInt8) : Int := if kLt a b then -1 else if a = b then 0 else 1
theorem bs_toList (l : List UInt8) : (bs l).toList = l := by
  rw [ByteArray.toList_eq, bs_list]
theorem kCmp_neg (a b : List UInt8) : decide (kCmp a b < 0) = kLt a b := by
  unfold kCmp
  cases h : kLt a b with
  | true => simp
  | false => simp; split <;> omega
theorem kCmp_zero (a b : List UInt8) : (kCmp a b == 0) = decide (a = b) := by
  unfold kCmp
  cases h : kLt a b with
  | true =>
    have : a ≠ b := fun e => by subst e; rw [kLt_irr] at h; cases h
    simp [this]
  | false => simp; split <;> simp_all
theorem nan_any (a : ByteArray) (w : World) : Calls Try.prog 83 #[.string a] w fun e w' => e = .returned (.bool false) ∧ w = w' := by
  go_enter Try.func83, Try.ntmps83
  go_wp2
  go_ret
  exact ⟨by simp, rfl⟩
theorem cmp_any (a b : List UInt8) (w : World) : Calls Try.prog 60 #[.string (bs a), .string (bs b)] w fun e w' => e = .returned (.int .i64 (kCmp a b)) ∧ w = w' := by
  have ha := bs_toList a
  have hb := bs_toList b
  go_enter Try.func60, Try.ntmps60
  go_wp2_with fail
  refine (nan_any _ w).mono ?_
  rintro e w1 ⟨rfl, rfl⟩
  go_wp2_with fail
  refine (nan_any _ w).mono ?_
  rintro e w1 ⟨rfl, rfl⟩
  go_wp2
  · have h : kLt a b = true := by assumption
    go_ret
    exact ⟨by rw [kCmp, if_pos h]; rfl, rfl⟩
  · have h : kLt a b = false := by assumption
    have h2 : (!a == b) = true := by assumption
    have h3 : a ≠ b := by simpa using h2
    go_ret
    exact ⟨by rw [kCmp, if_neg (by simp [h]), if_neg h3]; rfl, rfl⟩
  · have h : kLt a b = false := by assumption
    have h2 : (!a == b) = false := by assumption
    have h3 : a = b := by simpa using h2
    go_ret
    exact ⟨by rw [kCmp, if_neg (by simp [h]), if_pos h3]; rfl, rfl⟩
theorem fcmp_any (x : Pr) (key : List UInt8) (w : World) : Calls Try.prog 89 #[.agg #[.string (bs x.k), .string (bs x.v)], .string (bs key)] w fun e w' => e = .returned (.int .i64 (kCmp x.k key)) ∧ Below w.heap.size w w' := by
  go_enter Try.func89, Try.ntmps89
  go_wp2_with fail
  refine (cmp_any x.k key _).mono ?_
  rintro e w1 ⟨rfl, rfl⟩
  go_wp2
  go_ret
  exact ⟨rfl, (Below.refl _ _).alloc (Nat.le_refl _) _⟩
/-- Keys rise. -/
def Rises (l : List Pr) : Prop := ∀ i j, i < j → j < l.length → kLt (prA l i).k (prA l j).k = true
/-- Where a key is, or would be. -/
def IsAt (l : List Pr) (key : List UInt8) (n : Nat) : Prop := n ≤ l.length ∧ (∀ i, i < n → kLt (prA l i).k key = true) ∧ (∀ i, n ≤ i → i < l.length → kLt (prA l i).k key = false)
def hasKey (l : List Pr) (key : List UInt8) (n : Nat) : Bool := decide (n < l.length) && decide ((prA l n).k = key)
theorem IsAt.uniq {l : List Pr} {key : List UInt8} {n m : Nat} (h : IsAt l key n) (k : IsAt l key m) : n = m := by
  rcases Nat.lt_trichotomy n m with hlt | rfl | hlt
  · have h1 := k.2.1 n hlt
    have h2 := h.2.2 n (Nat.le_refl _) (by have := k.1; omega)
    rw [h1] at h2; cases h2
  · rfl
  · have h1 := h.2.1 m hlt
    have h2 := k.2.2 m (Nat.le_refl _) (by have := h.1; omega)
    rw [h1] at h2; cases h2
def SearchRel (l : List Pr) (key : List UInt8) (w : World) (x y : Value) (wr : World) : Prop :=
  ∃ i j : Nat, i ≤ j ∧ j ≤ l.length ∧ x = .int .i64 i ∧ y = .int .i64 j ∧ (∀ n, n < i → kLt (prA l n).k key = true) ∧ (∀ n, j ≤ n → n < l.length → kLt (prA l n).k key = false) ∧ Below w.heap.size w wr
theorem search_any (l : List Pr) (hR : Rises l) (hn : l.length ≤ 10000) (key : List UInt8) (A : Option Addr) (c : Nat) (w : World) (hC : Kd.C prK w A l.length l) :
    Calls Try.prog 88 #[.slice A l.length c, .string (bs key), .func (.func 89) #[] #[]] w fun e w' => (∃ n : Nat, e = .returned (.tuple #[.int .i64 n, .bool (hasKey l key n)]) ∧ IsAt l key n) ∧ Below w.heap.size w w' := by
  have HC := Lib.hid hC
  have HR := Lib.hid hR
  clear hC hR
  go_enter Try.func88, Try.ntmps88
  go_wp2
  go_loopw [9, 10] (fun x y wr => SearchRel l key w x y wr) (fun x y _ => (intOf y).toNat - (intOf x).toNat)
  case atStart => exact ⟨0, l.length, by omega, by omega, rfl, rfl, fun n h => by omega, fun n h h2 => by omega, Below.refl _ _⟩
  case round =>
    obtain ⟨i, j, hij, hj, rfl, rfl, h1, h2, hB⟩ := hrel
    have H1 := Lib.hid h1
    have H2 := Lib.hid h2
    have HB := Lib.hid hB
    clear h1 h2 hB
    by_cases hlt : i < j
    · go_upto_region 5 with fail
      obtain ⟨m, hm⟩ : ∃ m : Nat, m = (i + j) / 2 := ⟨_, rfl⟩
      have em : ((i : Int) + (j : Int)) / 2 = (m : Int) := by omega
      rw [em]
      have hm1 : i ≤ m := by omega
      have hm2 : m < j := by omega
      clear em hm
      obtain ⟨ad, e, d0, d1⟩ := at_pr (Kd.C_below HC.out HB.out) (m : Int) (by omega) (by omega)
      cases e
      rw [Int.toNat_natCast] at d0 d1
      have i0 : (0 : Int) ≤ (m : Int) := by omega
      have i1 : (m : Int) < (l.length : Int) := by omega
      have hk := kCmp_neg (prA l m).k key
      obtain ⟨q, hq⟩ : ∃ q, q = kCmp (prA l m).k key := ⟨_, rfl⟩
      rw [← hq] at hk
      have hf := fcmp_any (prA l m) key wr
      rw [← hq] at hf
      have Hf := Lib.hid hf
      have Hk := Lib.hid hk
      clear hf hk hq
      go_wp2_with fail
      refine Hf.out.mono ?_
      rintro e w2 ⟨rfl, hB2⟩
      have HB2 := Lib.hid (HB.out.trans (hB2.mono HB.out.size))
      clear hB2 d0 d1 Hf
      go_wp2
      · have hq : q < 0 := by assumption
        have hlt3 : kLt (prA l m).k key = true := by rw [← Hk.out]; exact decide_eq_true hq
        go_roundw
        case rel => exact ⟨m + 1, j, by omega, hj, by go_num, rfl, fun n h => (by
          by_cases e : n = m
          · rw [e]; exact hlt3
          · exact kLt_trans _ _ _ (HR.out n m (by omega) (by omega)) hlt3), H2.out, HB2.out⟩
        case measure => simp [intOf]; omega
      · have hq : 0 ≤ q := by assumption
        have hlt3 : kLt (prA l m).k key = false := by rw [← Hk.out]; exact decide_eq_false (by omega)
        go_roundw
        case rel => exact ⟨i, m, by omega, by omega, rfl, rfl, H1.out, fun n h h3 => (by
          by_cases e : n = m
          · rw [e]; exact hlt3
          · cases hb : kLt (prA l n).k key with
            | false => rfl
            | true =>
              have := kLt_trans _ _ _ (HR.out m n (by omega) h3) hb
              rw [this] at hlt3; cases hlt3), HB2.out⟩
        case measure => simp [intOf]; omega
    · obtain rfl : i = j := by omega
      by_cases hin : i < l.length
      · obtain ⟨ad, e, d0, d1⟩ := at_pr (Kd.C_below HC.out HB.out) (i : Int) (by omega) (by omega)
        cases e
        rw [Int.toNat_natCast] at d0 d1
        have i0 : (0 : Int) ≤ (i : Int) := by omega
        have i1 : (i : Int) < (l.length : Int) := by omega
        have hk := kCmp_zero (prA l i).k key
        obtain ⟨q, hq⟩ : ∃ q, q = kCmp (prA l i).k key := ⟨_, rfl⟩
        rw [← hq] at hk
        have hf := fcmp_any (prA l i) key wr
        rw [← hq] at hf
        have Hf := Lib.hid hf
        have Hk := Lib.hid hk
        clear hf hk hq
        go_wp2_with fail
        refine Hf.out.mono ?_
        rintro e w2 ⟨rfl, hB2⟩
        have HB2 := Lib.hid (HB.out.trans (hB2.mono HB.out.size))
        clear hB2 d0 d1 Hf
        go_wp2
        go_ret2
        exact ⟨⟨i, by rw [hasKey, decide_eq_true hin, Bool.true_and, ← Hk.out]; rfl, hj, H1.out, H2.out⟩, HB2.out⟩
      · obtain rfl : i = l.length := by omega
        go_wp2
        go_ret2
        exact ⟨⟨l.length, by rw [hasKey, decide_eq_false (by omega)]; rfl, hj, H1.out, H2.out⟩, HB.out⟩
theorem find_any (l : List Pr) (hR : Rises l) (hn : l.length ≤ 10000) (key : List UInt8) (A : Option Addr) (c : Nat) (w : World) (hC : Kd.C prK w A l.length l) :
    Calls Try.prog 63 #[.slice A l.length c, .string (bs key)] w fun e w' => (∃ n : Nat, e = .returned (.tuple #[.int .i64 n, .bool (hasKey l key n)]) ∧ IsAt l key n) ∧ Below w.heap.size w w' := by
  have hs := search_any l hR hn key A c w hC
  have Hs := Lib.hid hs
  clear hs hC hR
  go_enter Try.func63, Try.ntmps63
  go_wp2_with fail
  refine Hs.out.mono ?_
  rintro e w2 ⟨⟨n, rfl, hn2⟩, hB2⟩
  have Hn := Lib.hid hn2
  clear hn2
  go_wp2
  go_ret2
  exact ⟨⟨n, rfl, Hn.out⟩, hB2⟩
end Go.Proofs.Yteilmbhnbmmcjaa.B
namespace Go.Proofs.Yteilmbhnbmmcjaa.B
open Go.RowKit Go.Proofs.YteilmbhnbmmcjaaW.PrintWords
theorem bytes_shrink (r : Rdr) (n : Int) : (r.bytes n).2.l.length ≤ r.l.length := by
  unfold Rdr.bytes
  split
  · exact Nat.le_refl _
  · split
    · simp
    · simp
theorem bytes_err (r : Rdr) (n : Int) (h : (r.bytes n).2.e = 0) : r.e = 0 := by
  unfold Rdr.bytes at h
  split at h
  · rename_i he; exact absurd h he
  · rename_i he; simpa using he
theorem bytes_one (r : Rdr) (h : (r.bytes 1).2.e = 0) : (r.bytes 1).2.l.length < r.l.length := by
  have he := bytes_err r 1 h
  unfold Rdr.bytes at h ⊢
  rw [if_neg (by simp [he])] at h ⊢
  split at h
  · simp at h
  · rename_i hb
    rw [if_neg hb]
    simp at hb ⊢
    omega
theorem bytes_got (r : Rdr) (n : Nat) : (r.bytes n).1.length ≤ n := by
  unfold Rdr.bytes
  split
  · simp
  · split
    · simp
    · simp; omega
theorem fail_err (r : Rdr) (x : Int) (hx : x ≠ 0) : (r.fail x).e ≠ 0 := by
  unfold Rdr.fail
  split
  · exact hx
  · assumption
theorem num_shrink (r : Rdr) (most : Nat) (h : (r.num most).2.e = 0) : (r.num most).2.l.length < r.l.length ∧ r.e = 0 := by
  unfold Rdr.num at h ⊢
  simp only at h ⊢
  by_cases h1 : (r.bytes 1).1 = []
  · rw [if_pos h1] at h ⊢
    exact ⟨bytes_one r h, bytes_err r 1 h⟩
  · rw [if_neg h1] at h ⊢
    by_cases h2 : 8 < hd0 (r.bytes 1).1
    · rw [if_pos h2] at h
      exact absurd h (fail_err _ _ (by decide))
    · rw [if_neg h2] at h ⊢
      by_cases h3 : ((r.bytes 1).2.bytes (hd0 (r.bytes 1).1)).2.e ≠ 0
      · rw [if_pos h3] at h
        exact absurd h h3
      · rw [if_neg h3] at h ⊢
        have h4 := bytes_err _ _ (by simpa using h3)
        have h5 := bytes_one r h4
        have h6 := bytes_err r 1 h4
        have h7 := bytes_shrink (r.bytes 1).2 (hd0 (r.bytes 1).1)
        split
        · rename_i h8
          rw [if_pos h8] at h
          exact absurd h (fail_err _ _ (by decide))
        · rename_i h8
          rw [if_neg h8] at h
          split
          · rename_i h9
            rw [if_pos h9] at h
            exact absurd h (fail_err _ _ (by decide))
          · refine ⟨?_, h6⟩
            show ((r.bytes 1).2.bytes (hd0 (r.bytes 1).1)).2.l.length < _
            omega
theorem text_shrink (r : Rdr) (most : Nat) (h : (r.text most).2.e = 0) : (r.text most).2.l.length < r.l.length := by
  unfold Rdr.text at h ⊢
  have h1 := bytes_err _ _ h
  have h2 := (num_shrink r most h1).1
  have h3 := bytes_shrink (r.num most).2 (r.num most).1
  omega
theorem text_len (r : Rdr) (most : Nat) : (r.text most).1.length ≤ most := by
  unfold Rdr.text
  have h1 := bytes_got (r.num most).2 (r.num most).1
  have h2 := num_le r most
  omega
theorem text_err (r : Rdr) (most : Nat) (h : (r.text most).2.e = 0) : r.e = 0 := by
  unfold Rdr.text at h
  exact (num_shrink r most (bytes_err _ _ h)).2
/-- The pairs of a page's bytes: the error, or they. -/
def badPair (at' : Nat) (out : List Pr) (k : List UInt8) : Bool := decide (k = []) || decide (bucket k ≠ at') || (decide (0 < out.length) && !kLt (prA out (out.length - 1)).k k)
def prsF (at' : Nat) : Nat → List UInt8 → List Pr → Int × List Pr
  | 0, _, out => (0, out)
  | f + 1, l, out =>
    if l = [] then (0, out)
    else
      let a := (Rdr.mk l 0).text 16
      let b := a.2.text 30
      if b.2.e ≠ 0 then (b.2.e, [])
      else if badPair at' out a.1 then (3, [])
      else prsF at' f b.2.l (out ++ [⟨a.1, b.1⟩])
def Good (at' : Nat) (l : List Pr) : Prop := Rises l ∧ ∀ x ∈ l, x.k ≠ [] ∧ bucket x.k = at' ∧ x.k.length ≤ 16 ∧ x.v.length ≤ 30
theorem good_nil (at' : Nat) : Good at' [] := ⟨fun i j _ h => by simp at h, fun x h => by cases h⟩
theorem prA_left (l : List Pr) (x : Pr) (i : Nat) (h : i < l.length) : prA (l ++ [x]) i = prA l i := by simp [prA, List.getD_eq_getElem?_getD, List.getElem?_append_left h]
theorem prA_last (l : List Pr) (x : Pr) : prA (l ++ [x]) l.length = x := by simp [prA, List.getD_eq_getElem?_getD]
theorem Rises.snoc {l : List Pr} {x : Pr} (h : Rises l) (hx : l.length = 0 ∨ kLt (prA l (l.length - 1)).k x.k = true) : Rises (l ++ [x]) := by
  intro i j hij hj
  simp at hj
  by_cases e : j < l.length
  · rw [prA_left l x i (by omega), prA_left l x j e]; exact h i j hij e
  · obtain rfl : j = l.length := by omega
    rw [prA_last, prA_left l x i hij]
    rcases hx with hx | hx
    · omega
    · by_cases e2 : i = l.length - 1
      · rw [e2]; exact hx
      · exact kLt_trans _ _ _ (h i (l.length - 1) (by omega) (by omega)) hx
theorem good_snoc {at' : Nat} {out : List Pr} {k v : List UInt8} (h : Good at' out) (hb : badPair at' out k = false) (hk : k.length ≤ 16) (hv : v.length ≤ 30) : Good at' (out ++ [⟨k, v⟩]) := by
  simp only [badPair, Bool.or_eq_false_iff, decide_eq_false_iff_not, Bool.and_eq_false_iff, Bool.not_eq_false', ne_eq, Decidable.not_not] at hb
  obtain ⟨⟨h1, h2⟩, h3⟩ := hb
  refine ⟨h.1.snoc (x := ⟨k, v⟩) ?_, fun x hx => ?_⟩
  · rcases h3 with h3 | h3
    · left; omega
    · right; exact h3
  · rcases List.mem_append.1 hx with hx | hx
    · exact h.2 x hx
    · obtain rfl := List.mem_singleton.1 hx
      exact ⟨h1, h2, hk, hv⟩
theorem prsF_good (at' : Nat) : ∀ (f : Nat) (l : List UInt8) (out : List Pr), Good at' out → (prsF at' f l out).1 = 0 → Good at' (prsF at' f l out).2
  | 0, _, _, h, _ => h
  | f + 1, l, out, h, he => by
    unfold prsF at he ⊢
    by_cases h1 : l = []
    · rw [if_pos h1]; exact h
    · rw [if_neg h1] at he ⊢
      simp only at he ⊢
      split
      · rename_i h2; rw [if_pos h2] at he; exact absurd he h2
      · rename_i h2
        rw [if_neg h2] at he
        split
        · rename_i h3; rw [if_pos h3] at he; cases he
        · rename_i h3
          rw [if_neg h3] at he
          exact prsF_good at' f _ _ (good_snoc h (by simpa using h3) (text_len _ _) (text_len _ _)) he
end Go.Proofs.Yteilmbhnbmmcjaa.B
