/- Helper: of blocks of as many pages, written as long ago, the one of which fewer live is worth more, as plain numbers. No condition. -/
import Derived.Test.YtbbfngnfphmohaaFz
namespace Go.Proofs.Ytbbfngnfphmohaa.Fl
open Go.RowKit
theorem final {A Gx Gy Cx Cy Rx Ry Ux Uy a b c : Nat} (hA : 0 < A) (hb : 0 < b) (x1 : A * Gx * b ≤ Ux * c) (x2 : Ux * b ≤ Rx * Cx * c) (y1 : Ry * Cy * a ≤ Uy * b) (y2 : Uy * a ≤ A * Gy * b) (k : Gy * Cx * (c * c) < Gx * Cy * (a * a)) : Ry < Rx := by
  have X : A * Gx * (b * b) ≤ Rx * Cx * (c * c) := by
    have s1 := Nat.mul_le_mul_right b x1
    have s2 := Nat.mul_le_mul_right c x2
    rw [Nat.mul_assoc] at s1
    rw [Nat.mul_right_comm] at s2
    rw [Nat.mul_assoc (Rx * Cx)] at s2
    exact Nat.le_trans s1 s2
  have Y : Ry * Cy * (a * a) ≤ A * Gy * (b * b) := by
    have s1 := Nat.mul_le_mul_right a y1
    have s2 := Nat.mul_le_mul_right b y2
    rw [Nat.mul_assoc] at s1
    rw [Nat.mul_right_comm] at s2
    rw [Nat.mul_assoc (A * Gy)] at s2
    exact Nat.le_trans s1 s2
  refine Nat.lt_of_not_le fun h => ?_
  have l1 := Nat.mul_le_mul_right (Cy * (a * a)) X
  have l2 : Rx * Cx * (c * c) * (Cy * (a * a)) ≤ Ry * Cx * (c * c) * (Cy * (a * a)) := Nat.mul_le_mul_right _ (Nat.mul_le_mul_right _ (Nat.mul_le_mul_right _ h))
  have l3 := Nat.mul_le_mul_right (Cx * (c * c)) Y
  have l4 : A * (b * b) * (Gy * Cx * (c * c)) < A * (b * b) * (Gx * Cy * (a * a)) := Nat.mul_lt_mul_of_pos_left k (Nat.mul_pos hA (Nat.mul_pos hb hb))
  have e1 : A * Gx * (b * b) * (Cy * (a * a)) = A * (b * b) * (Gx * Cy * (a * a)) := by ac_rfl
  have e2 : Ry * Cx * (c * c) * (Cy * (a * a)) = Ry * Cy * (a * a) * (Cx * (c * c)) := by ac_rfl
  have e3 : A * Gy * (b * b) * (Cx * (c * c)) = A * (b * b) * (Gy * Cx * (c * c)) := by ac_rfl
  omega
def fullB (n x : Nat) : Option Nat := floatBits .quo .f64 (flI (x : Int)) (flI (n : Int))
def gB (n x : Nat) : Nat := ((fullB n x).bind fun u => floatBits .sub .f64 one u).getD 0
def cB (n x : Nat) : Nat := ((fullB n x).bind fun u => floatBits .mul .f64 two u).getD 0
def okW (w : Nat) : Bool := decide (901 ≤ w / 2 ^ 52) && decide (w / 2 ^ 52 ≤ 1101)
def mW (w : Nat) : Nat := 2 ^ 52 + w % 2 ^ 52
def eW (w : Nat) : Nat := w / 2 ^ 52 - 1
def vW (w : Nat) : Nat := mW w * 2 ^ eW w
theorem okW_nrm {w : Nat} (h : okW w = true) : Nrm w (mW w) (eW w) ∧ 900 ≤ eW w ∧ eW w ≤ 1100 := by
  unfold okW at h
  simp only [Bool.and_eq_true, decide_eq_true_eq] at h
  unfold mW eW
  exact ⟨⟨by omega, by omega, by omega⟩, by omega, by omega⟩
def chk (n x : Nat) : Bool := (fullB n x).isSome && ((fullB n x).bind fun u => floatBits .sub .f64 one u).isSome && ((fullB n x).bind fun u => floatBits .mul .f64 two u).isSome && okW (gB n x) && okW (cB n x)
theorem chk_all : ∀ n, n < 33 → ∀ x, x < n → 1 ≤ x → chk n x = true := by decide +kernel
def apartB (n x y : Nat) : Bool := decide (vW (gB n y) * vW (cB n x) * ((kA + 2) * (kA + 2)) < vW (gB n x) * vW (cB n y) * (kA * kA))
theorem apart_all : ∀ n, n < 33 → ∀ y, y < n → ∀ x, x < y → 1 ≤ x → apartB n x y = true := by decide +kernel
theorem ends_all : ∀ n, n < 33 → 1 ≤ n → fullB n 0 = some 0 ∧ fullB n n = some one := by decide +kernel
theorem worth_mid {n x : Nat} (hn : n < 33) (hx : x < n) (h1 : 1 ≤ x) (t : Nat) (ht : t ≤ 65535) :
    ∃ a ma ea r m e U, floatBits .add .f64 (flI (t : Int)) one = some a ∧ ofO x n t = some r ∧ Nrm a ma ea ∧ Nrm r m e ∧ e ≤ 1600 ∧ 0 < ma * 2 ^ ea ∧ 
      (ma * 2 ^ ea) * vW (gB n x) * (kA + 1) ≤ U * (kA + 2) ∧ U * (kA + 1) ≤ (m * 2 ^ e) * vW (cB n x) * (kA + 2) ∧ (m * 2 ^ e) * vW (cB n x) * kA ≤ U * (kA + 1) ∧ U * kA ≤ (ma * 2 ^ ea) * vW (gB n x) * (kA + 1) := by
  obtain ⟨a, ma, ea, ha, hna, a1, a2⟩ := add_one t ht
  have hc := chk_all n hn x hx h1
  unfold chk at hc
  simp only [Bool.and_eq_true] at hc
  obtain ⟨⟨⟨⟨c1, c2⟩, c3⟩, c4⟩, c5⟩ := hc
  obtain ⟨hg, g1, g2⟩ := okW_nrm c4
  obtain ⟨hcn, k1, k2⟩ := okW_nrm c5
  obtain ⟨u, hu⟩ := Option.isSome_iff_exists.1 c1
  rw [hu] at c2 c3
  obtain ⟨g, hgv⟩ := Option.isSome_iff_exists.1 c2
  obtain ⟨c, hcv⟩ := Option.isSome_iff_exists.1 c3
  have eg : gB n x = g := by unfold gB; rw [hu, hgv]; rfl
  have ec : cB n x = c := by unfold cB; rw [hu, hcv]; rfl
  obtain ⟨p, mp, ep, hp, hnp, p1, p2, p3, p4⟩ := mul_spec hna hg (by omega) a2 g1 g2
  obtain ⟨r, m, e, hr, hnr, r1, r2, r3, r4⟩ := quo_spec hnp hcn p1 p2 k1 k2
  refine ⟨a, ma, ea, r, m, e, mp * 2 ^ ep * bigU, ha, ?_, hna, hnr, r2, Nat.mul_pos (by have := hna.lo; omega) (Nat.two_pow_pos _), p4, r4, r3, p3⟩
  unfold ofO
  rw [if_neg (by omega)]
  have hfull : floatBits .quo .f64 (flI (x : Int)) (flI (n : Int)) = some u := hu
  simp only [hfull]
  rw [show ar .sub (some 4607182418800017408) (some u) = some g from hgv, show ar .mul (some 4611686018427387904) (some u) = some c from hcv]
  rw [show ar .add (some (flI (t : Int))) (some 4607182418800017408) = some a from ha]
  rw [eg] at hp
  rw [ec] at hr
  rw [show ar .mul (some a) (some g) = some p from hp]
  exact hr
theorem worth_zero {n : Nat} (hn : n < 33) (h1 : 1 ≤ n) (t : Nat) (ht : t ≤ 65535) : ofO 0 n t = some inf := by
  obtain ⟨a, ma, ea, ha, hna, a1, a2⟩ := add_one t ht
  have hu : floatBits .quo .f64 (flI 0) (flI (n : Int)) = some 0 := (ends_all n hn h1).1
  have hg : floatBits .sub .f64 4607182418800017408 0 = some one := by decide +kernel
  have hc : floatBits .mul .f64 4611686018427387904 0 = some 0 := by decide +kernel
  have hone : Nrm one (2 ^ 52) 1022 := ⟨by decide, by decide, by decide⟩
  obtain ⟨p, mp, ep, hp, hnp, p1, p2, _, _⟩ := mul_spec hna hone (by omega) a2 (by omega) (by omega)
  obtain ⟨m', e', hr, _, x1, _, _, _⟩ := read_spec mp ep hnp.lo hnp.hi (by omega)
  rw [← hnp.w_eq] at hr
  have hz : Ieee.double.read 0 = .number false 0 (-1074) := by decide +kernel
  unfold ofO
  rw [if_neg (by omega)]
  simp only [hu]
  rw [show ar .sub (some 4607182418800017408) (some 0) = some one from hg, show ar .mul (some 4611686018427387904) (some 0) = some 0 from hc]
  rw [show ar .add (some (flI (t : Int))) (some 4607182418800017408) = some a from ha]
  rw [show ar .mul (some a) (some one) = some p from hp]
  show Ieee.double.div p 0 = _
  unfold Ieee.Format.div
  rw [hr, hz]
  simp only [Ieee.Datum.quotient]
  rw [if_pos True.intro, if_neg (by omega)]
  decide +kernel
theorem worth_all {n : Nat} (hn : n < 33) (h1 : 1 ≤ n) (t : Nat) (ht : t ≤ 65535) : ofO n n t = some 0 := by
  obtain ⟨a, ma, ea, ha, hna, a1, a2⟩ := add_one t ht
  have hu : floatBits .quo .f64 (flI (n : Int)) (flI (n : Int)) = some one := (ends_all n hn h1).2
  have hg : floatBits .sub .f64 4607182418800017408 one = some 0 := by decide +kernel
  have hc : floatBits .mul .f64 4611686018427387904 one = some two := by decide +kernel
  obtain ⟨m', e', hr, _, x1, _, _, _⟩ := read_spec ma ea hna.lo hna.hi (by omega)
  rw [← hna.w_eq] at hr
  have hz : Ieee.double.read 0 = .number false 0 (-1074) := by decide +kernel
  have hp : floatBits .mul .f64 a 0 = some 0 := by
    show Ieee.double.mul a 0 = _
    unfold Ieee.Format.mul
    rw [hr, hz]
    simp only [Ieee.Datum.product, Nat.mul_zero]
    rfl
  unfold ofO
  rw [if_neg (by omega)]
  simp only [hu]
  rw [show ar .sub (some 4607182418800017408) (some one) = some 0 from hg, show ar .mul (some 4611686018427387904) (some one) = some two from hc]
  rw [show ar .add (some (flI (t : Int))) (some 4607182418800017408) = some a from ha]
  rw [show ar .mul (some a) (some 0) = some 0 from hp]
  show floatBits .quo .f64 0 two = some 0
  decide +kernel
theorem rank_pos {b : Nat} (h : nanB b = false) (hb : b < 2 ^ 63) : rankB b = b := by
  unfold rankB
  rw [if_neg (by rw [h]; decide)]
  have : wrap64 (b : Int) = b := by unfold wrap64; omega
  rw [this, if_neg (by omega)]
theorem ord_gt {a b : Nat} (ha : nanB a = false) (hb : nanB b = false) (h1 : a < 2 ^ 63) (h2 : b < a) : 0 < ordB a b := by
  unfold ordB
  rw [rank_pos ha h1, rank_pos hb (by omega), if_neg (by omega), if_pos (by omega)]
  decide
theorem ord_same (a : Nat) : ordB a a = 0 := by
  unfold ordB
  rw [if_neg (by omega), if_neg (by omega)]
theorem nrm_fits {w m e : Nat} (h : Nrm w m e) (he : e ≤ 1600) : 0 < w ∧ w < inf := by
  have := h.w_eq
  have := h.lo
  have := h.hi
  unfold inf
  omega
theorem better_all {n x y t : Nat} (hn : n < 33) (h1 : 1 ≤ n) (ht : t ≤ 65535) (hxy : x < y) (hy : y ≤ n) : ∃ p q, ofO x n t = some p ∧ ofO y n t = some q ∧ 0 < ordB p q := by
  have fin : ∀ p q, ofO x n t = some p → ofO y n t = some q → q < p → p ≤ inf → ∃ p q, ofO x n t = some p ∧ ofO y n t = some q ∧ 0 < ordB p q :=
    fun p q hp hq h1 h2 => ⟨p, q, hp, hq, ord_gt (ofO_not_nan hp) (ofO_not_nan hq) (by unfold inf at h2; omega) h1⟩
  by_cases hx : x = 0
  · subst hx
    by_cases hyn : y = n
    · subst hyn
      exact fin _ _ (worth_zero hn h1 t ht) (worth_all hn h1 t ht) (by decide) (Nat.le_refl _)
    · obtain ⟨a, ma, ea, r, m, e, U, _, hr, _, hnr, he, _⟩ := worth_mid hn (show y < n by omega) (by omega) t ht
      exact fin _ _ (worth_zero hn h1 t ht) hr (nrm_fits hnr he).2 (Nat.le_refl _)
  · obtain ⟨a, ma, ea, r, m, e, U, ha, hr, hna, hnr, he, hpos, u1, u2, _, _⟩ := worth_mid hn (show x < n by omega) (by omega) t ht
    by_cases hyn : y = n
    · subst hyn
      exact fin _ _ hr (worth_all hn h1 t ht) (nrm_fits hnr he).1 (Nat.le_of_lt (nrm_fits hnr he).2)
    · obtain ⟨a', ma', ea', r', m', e', U', ha', hr', hna', hnr', he', _, _, _, v1, v2⟩ := worth_mid hn (show y < n by omega) (by omega) t ht
      have hk := apart_all n hn y (by omega) x hxy (by omega)
      unfold apartB at hk
      rw [decide_eq_true_eq] at hk
      obtain rfl : a = a' := by rw [ha] at ha'; exact Option.some.inj ha'
      have hsame : ma' * 2 ^ ea' = ma * 2 ^ ea := by
        rcases Nat.lt_trichotomy (ma' * 2 ^ ea') (ma * 2 ^ ea) with h | h | h
        · have := word_lt_of hna'.lo hna'.hi hna.lo hna.hi h
          have := hna.w_eq
          have := hna'.w_eq
          omega
        · exact h
        · have := word_lt_of hna.lo hna.hi hna'.lo hna'.hi h
          have := hna.w_eq
          have := hna'.w_eq
          omega
      rw [hsame] at v2
      have hlt := final hpos (by unfold kA; omega) u1 u2 v1 v2 hk
      have hw := word_lt_of hnr'.lo hnr'.hi hnr.lo hnr.hi hlt
      rw [← hnr'.w_eq, ← hnr.w_eq] at hw
      exact fin _ _ hr hr' hw (Nat.le_of_lt (nrm_fits hnr he).2)
end Go.Proofs.Ytbbfngnfphmohaa.Fl
