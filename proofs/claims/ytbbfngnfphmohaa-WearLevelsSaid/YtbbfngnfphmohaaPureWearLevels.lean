/- Blocks that are always taken by the least count are apart by one at most, however often, for every number of blocks and of times. No condition. -/
import Derived.Test.YtbbfngnfphmohaaPWearLevelsx2
import Derived.Laws.Bits128
namespace Go.Proofs.Ytbbfngnfphmohaa.Pure
open Go.RowKit Go.Proofs.Ytbbfngnfphmohaa.PWearLevels Go.Proofs.YtbbfngnfphmohaaW.PrintWords Go.Proofs.YtbbfngnfphmohaaW.PrintLast Go.Proofs.YtbbfngnfphmohaaW.PrintMore

theorem and_pow (m : Nat) (hm : m < 63) (c n : Int) (hc : c = (2 ^ m - 1 : Nat)) : Go.bits .and .i64 n c = n % (2 ^ m : Nat) := by
  have h1 : 2 ^ m ≤ 2 ^ 62 := Nat.pow_le_pow_right (by decide) (by omega)
  have hp : 0 < 2 ^ m := Nat.two_pow_pos m
  have h127 : (BitVec.ofInt 64 c).toNat = 2 ^ m - 1 := by
    rw [BitVec.toNat_ofInt, hc, show ((2 : Nat) ^ 64) = 18446744073709551616 from by decide]
    have : ((2 ^ m - 1 : Nat) : Int) % ((18446744073709551616 : Nat) : Int) = ((2 ^ m - 1 : Nat) : Int) := Int.emod_eq_of_lt (by omega) (by omega)
    rw [this]; rfl
  have key : (BitVec.ofInt 64 n &&& BitVec.ofInt 64 c).toNat = (n % ((2 ^ 64 : Nat) : Int)).toNat % 2 ^ m := by
    rw [BitVec.toNat_and, BitVec.toNat_ofInt, h127, Nat.and_two_pow_sub_one_eq_mod]
  show Go.IntKind.i64.wrap ((BitVec.ofInt 64 n &&& BitVec.ofInt 64 c).toNat : Nat) = _
  rw [key, Go.IntKind.wrap_i64]
  have h3 : ((((n % ((2 ^ 64 : Nat) : Int)).toNat % 2 ^ m : Nat)) : Int) = n % ((2 ^ m : Nat) : Int) := by
    rw [Int.natCast_emod, Int.toNat_of_nonneg (Int.emod_nonneg _ (by decide))]
    refine Int.emod_emod_of_dvd n ?_
    exact Int.natCast_dvd_natCast.2 (Nat.pow_dvd_pow 2 (by omega))
  rw [h3]
  have h4 := Int.emod_nonneg n (b := ((2 ^ m : Nat) : Int)) (by omega)
  have h5 := Int.emod_lt_of_pos n (b := ((2 ^ m : Nat) : Int)) (by omega)
  omega
theorem wrap_next {i : Int} (h0 : 0 ≤ i) (h : i < 9223372036854775807) : wrap64 (i + 1) = i + 1 := by unfold wrap64; omega

def N (l : List S25) (i : Nat) : Int := (rd_T25 l (i : Int)).f1
theorem N_rd (l : List S25) (i : Int) (h : 0 ≤ i) : (rd_T25 l i).f1 = N l i.toNat := by unfold N; rw [Int.toNat_of_nonneg h]
/-- The place of the least one of the first ones. -/
def lst (l : List S25) : Nat → Int
  | 0 => -1
  | i + 1 => if lst l i < 0 then (i : Int) else if N l i < N l (lst l i).toNat then (i : Int) else lst l i
theorem lst_succ (l : List S25) (i : Nat) : lst l (i + 1) = if lst l i < 0 then (i : Int) else if N l i < N l (lst l i).toNat then (i : Int) else lst l i := rfl
theorem lst_in (l : List S25) : ∀ i, 0 < i → 0 ≤ lst l i ∧ lst l i < i
  | 0, h => by omega
  | i + 1, _ => by
    have ih := lst_in l i
    unfold lst
    split
    · omega
    · split
      · omega
      · by_cases hi : 0 < i
        · have := ih hi; omega
        · have : i = 0 := by omega
          subst this
          simp [lst] at *
theorem lst_least (l : List S25) : ∀ i j, j < i → N l (lst l i).toNat ≤ N l j
  | 0, j, h => by omega
  | i + 1, j, h => by
    by_cases hi : 0 < i
    · have h1 := lst_in l i hi
      have ih := lst_least l i
      unfold lst
      rw [if_neg (by omega)]
      split
      · by_cases hj : j = i
        · subst hj; simp
        · have := ih j (by omega); simp; omega
      · by_cases hj : j = i
        · subst hj; omega
        · exact ih j (by omega)
    · have : i = 0 := by omega
      subst this
      have : j = 0 := by omega
      subst this
      simp [lst]

theorem least_loop (l : List S25) (hl : (l.length : Int) ≤ 9223372036854775807) : ∀ (d k i : Nat), i + d = l.length → d < k →
    wear_Least.l0 k l (lst l i) l (l.length : Int) (i : Int) = some (lst l l.length) := by
  intro d
  induction d with
  | zero =>
    intro k i h hk
    obtain ⟨k, rfl⟩ : ∃ m, k = m + 1 := ⟨k - 1, by omega⟩
    simp only [wear_Least.l0]
    rw [if_neg (by omega), show i = l.length by omega]
  | succ d ih =>
    intro k i h hk
    obtain ⟨k, rfl⟩ : ∃ m, k = m + 1 := ⟨k - 1, by omega⟩
    have hn := ih k (i + 1) (by omega) (by omega)
    simp only [wear_Least.l0]
    rw [if_pos (by omega), if_pos (by omega), if_pos (by omega), wrap_next (by omega) (by omega)]
    rw [Int.natCast_add, Int.natCast_one] at hn
    rw [lst_succ] at hn
    by_cases h0 : lst l i < 0
    · rw [if_pos h0] at hn ⊢
      exact hn
    · have hi : 0 < i := by
        rcases Nat.eq_zero_or_pos i with h | h
        · subst h; simp [lst] at h0
        · exact h
      have h1 := lst_in l i hi
      rw [if_neg h0] at hn ⊢
      rw [if_pos (by omega), if_pos (by omega), N_rd l i (by omega), N_rd l (lst l i) (by omega), Int.toNat_natCast]
      by_cases h2 : N l i < N l (lst l i).toNat
      · rw [if_pos h2] at hn ⊢; exact hn
      · rw [if_neg h2] at hn ⊢; exact hn
theorem least_f (l : List S25) (hl : (l.length : Int) ≤ 9223372036854775807) (k : Nat) (hk : l.length < k) : wear_Least.f k l = some (lst l l.length) :=
  least_loop l hl l.length k 0 (by omega) hk

/-- The least, and the greatest, of the first ones. -/
def low (l : List S25) : Nat → Int
  | 0 => N l 0
  | i + 1 => mn (low l i) (N l i)
def high (l : List S25) : Nat → Int
  | 0 => N l 0
  | i + 1 => mx (high l i) (N l i)
theorem spread_loop (l : List S25) (hl : (l.length : Int) ≤ 9223372036854775807) : ∀ (d k i : Nat), i + d = l.length → d < k →
    wear_Spread.l0 k (low l i) (high l i) l (l.length : Int) (i : Int) = some (wrap64 (high l l.length - low l l.length)) := by
  intro d
  induction d with
  | zero =>
    intro k i h hk
    obtain ⟨k, rfl⟩ : ∃ m, k = m + 1 := ⟨k - 1, by omega⟩
    simp only [wear_Spread.l0]
    rw [if_neg (by omega), show i = l.length by omega]
  | succ d ih =>
    intro k i h hk
    obtain ⟨k, rfl⟩ : ∃ m, k = m + 1 := ⟨k - 1, by omega⟩
    have hn := ih k (i + 1) (by omega) (by omega)
    simp only [wear_Spread.l0]
    rw [if_pos (by omega), if_pos (by omega), if_pos (by omega), wrap_next (by omega) (by omega), N_rd l i (by omega), Int.toNat_natCast]
    rw [Int.natCast_add, Int.natCast_one] at hn
    exact hn
def spr (l : List S25) : Int := if l.length = 0 then 0 else wrap64 (high l l.length - low l l.length)
theorem spread_f (l : List S25) (hl : (l.length : Int) ≤ 9223372036854775807) (k : Nat) (hk : l.length < k) : wear_Spread.f k l = some (spr l) := by
  unfold wear_Spread.f spr
  by_cases h : l.length = 0
  · rw [if_pos (by omega), if_pos h]
  · rw [if_neg (by omega), if_pos (by omega), if_neg h]
    exact spread_loop l hl l.length k 0 (by omega) hk

theorem cold_loop (a l : List S25) (lim m : Int) (ha : (a.length : Int) ≤ 9223372036854775807) (hm : 0 ≤ m) (hm2 : m < l.length) : ∀ (d k i : Nat), i + d = a.length → d < k →
    (∀ j, j < i → ¬ wrap64 (N a j - N l m.toNat) > lim) →
    wear_Cold.l0 k l lim m a (a.length : Int) (i : Int) = some (if ∃ j, j < a.length ∧ wrap64 (N a j - N l m.toNat) > lim then m else -1) := by
  intro d
  induction d with
  | zero =>
    intro k i h hk hno
    obtain ⟨k, rfl⟩ : ∃ m, k = m + 1 := ⟨k - 1, by omega⟩
    simp only [wear_Cold.l0]
    rw [if_neg (by omega), if_neg]
    rintro ⟨j, h1, h2⟩
    exact hno j (by omega) h2
  | succ d ih =>
    intro k i h hk hno
    obtain ⟨k, rfl⟩ : ∃ m, k = m + 1 := ⟨k - 1, by omega⟩
    have hn := ih k (i + 1) (by omega) (by omega)
    simp only [wear_Cold.l0]
    rw [if_pos (by omega), if_pos (by omega), if_pos (by omega), if_pos hm, if_pos hm2, wrap_next (by omega) (by omega), N_rd a i (by omega), N_rd l m hm, Int.toNat_natCast]
    by_cases hc : wrap64 (N a i - N l m.toNat) > lim
    · rw [if_pos hc, if_pos ⟨i, by omega, hc⟩]
    · rw [if_neg hc]
      rw [Int.natCast_add, Int.natCast_one] at hn
      apply hn
      intro j hj
      by_cases e : j = i
      · subst e; exact hc
      · exact hno j (by omega)
def cld (a l : List S25) (lim : Int) : Int := if lst l l.length < 0 then -1 else if ∃ j, j < a.length ∧ wrap64 (N a j - N l (lst l l.length).toNat) > lim then lst l l.length else -1
theorem cold_f (a l : List S25) (lim : Int) (ha : (a.length : Int) ≤ 9223372036854775807) (hl : (l.length : Int) ≤ 9223372036854775807) (k : Nat) (hk : l.length < k) (hk2 : a.length < k) :
    wear_Cold.f k a l lim = some (cld a l lim) := by
  unfold wear_Cold.f cld
  rw [least_f l hl k hk]
  simp only [Option.bind_some]
  by_cases h : lst l l.length < 0
  · rw [if_pos h, if_pos h]
  · rw [if_neg h, if_neg h]
    have hp : 0 < l.length := by
      rcases Nat.eq_zero_or_pos l.length with h0 | h0
      · rw [h0] at h; simp [lst] at h
      · exact h0
    have h1 := lst_in l l.length hp
    exact cold_loop a l lim _ ha (by omega) (by omega) a.length k 0 (by omega) hk2 (fun j hj => by omega)

theorem awake_f (k : Nat) (hk : 3 < k) : tinderboxlaw11_awake.f k = some true := at_rounds tinderboxlaw11_awake.mono (k := 4) (by omega) (by decide +kernel)


theorem low_at (l : List S25) (h : 0 < l.length) : ∀ i, i ≤ l.length → ∃ j, j < l.length ∧ low l i = N l j
  | 0, _ => ⟨0, h, rfl⟩
  | i + 1, hi => by
    obtain ⟨j, hj, e⟩ := low_at l h i (by omega)
    unfold low mn
    split
    · exact ⟨i, by omega, rfl⟩
    · exact ⟨j, hj, e⟩
theorem high_at (l : List S25) (h : 0 < l.length) : ∀ i, i ≤ l.length → ∃ j, j < l.length ∧ high l i = N l j
  | 0, _ => ⟨0, h, rfl⟩
  | i + 1, hi => by
    obtain ⟨j, hj, e⟩ := high_at l h i (by omega)
    unfold high mx
    split
    · exact ⟨i, by omega, rfl⟩
    · exact ⟨j, hj, e⟩
theorem spr_even (l : List S25) (h : 0 < l.length) (hN : ∀ j, j < l.length → 0 ≤ N l j ∧ N l j < 1000000) (he : ∀ i j, i < l.length → j < l.length → N l i - N l j ≤ 1) : ¬ spr l > 1 := by
  unfold spr
  rw [if_neg (by omega)]
  obtain ⟨i, hi, e1⟩ := low_at l h l.length (by omega)
  obtain ⟨j, hj, e2⟩ := high_at l h l.length (by omega)
  rw [e1, e2]
  have := hN i hi
  have := hN j hj
  have := he j i hj hi
  unfold wrap64
  omega
theorem N_set (l : List S25) (i : Nat) (x : S25) (h : i < l.length) (j : Nat) : N (l.set i x) j = if j = i then x.f1 else N l j := by
  unfold N rd_T25
  rw [Int.toNat_natCast, List.getD_eq_getElem?_getD, List.getD_eq_getElem?_getD, List.getElem?_set]
  by_cases e : i = j
  · subst e; rw [if_pos rfl, if_pos h, if_pos rfl]; rfl
  · rw [if_neg e, if_neg (fun hh => e hh.symm)]
theorem levels_loop (x1 : Int) : ∀ (d k i : Nat) (l : List S25), i + d = 256 → 2 * d + 3 * l.length + 20 < k → 0 < l.length → l.length < 1000 →
    (∀ j, j < l.length → 0 ≤ N l j ∧ N l j ≤ i) → (∀ i j, i < l.length → j < l.length → N l i - N l j ≤ 1) →
    tinderboxlaw11_WearLevels.l1 k x1 l (i : Int) = some true := by
  have hm : Go.bits .and .i64 x1 255 < 256 := by rw [and_pow 8 (by decide) 255 _ (by decide)]; omega
  intro d
  induction d with
  | zero =>
    intro k i l h hk h0 hl hN he
    obtain ⟨k, rfl⟩ : ∃ m, k = m + 1 := ⟨k - 1, by omega⟩
    simp only [tinderboxlaw11_WearLevels.l1]
    rw [if_neg (by omega), awake_f k (by omega)]
    rfl
  | succ d ih =>
    intro k i l h hk h0 hl hN he
    obtain ⟨k, rfl⟩ : ∃ m, k = m + 2 := ⟨k - 2, by omega⟩
    simp only [tinderboxlaw11_WearLevels.l1]
    by_cases hc : (i : Int) < Go.bits .and .i64 x1 255
    · rw [if_pos hc, least_f l (by omega) (k + 1) (by omega)]
      simp only [Option.bind_some]
      have h1 := lst_in l l.length h0
      obtain ⟨m, hmm⟩ : ∃ m : Nat, lst l l.length = m := ⟨(lst l l.length).toNat, by omega⟩
      have hle := fun j hj => lst_least l l.length j hj
      rw [hmm] at h1 hle ⊢
      rw [Int.toNat_natCast] at hle
      rw [if_neg (by omega), decide_eq_false (by omega)]
      simp only [tinderboxlaw11_WearLevels.j2]
      rw [if_neg (by decide), if_pos (by omega), if_pos (by omega), N_rd l m (by omega), Int.toNat_natCast, wrap_next (i := (i : Int)) (by omega) (by omega)]
      simp only [Option.bind_some]
      have hNm := hN m (by omega)
      have hw : wrap64 (N l m + 1) = N l m + 1 := by unfold wrap64; omega
      rw [hw]
      generalize hx : (⟨(rd_T25 l (m : Int)).f0, N l m + 1⟩ : S25) = x
      have hx1 : x.f1 = N l m + 1 := by rw [← hx]
      have hN' : ∀ j, j < (l.set m x).length → 0 ≤ N (l.set m x) j ∧ N (l.set m x) j ≤ (i : Int) + 1 := by
        intro j hj
        rw [List.length_set] at hj
        rw [N_set l m x (by omega) j, hx1]
        have := hN j hj
        split <;> omega
      have he' : ∀ i j, i < (l.set m x).length → j < (l.set m x).length → N (l.set m x) i - N (l.set m x) j ≤ 1 := by
        intro a b ha hb
        rw [List.length_set] at ha hb
        rw [N_set l m x (by omega) a, N_set l m x (by omega) b, hx1]
        have h2 := he a b ha hb
        have h3 := hle b hb
        have h4 := he a m ha (by omega)
        have h5 := hle a ha
        split <;> split <;> omega
      have hlen : (l.set m x).length = l.length := List.length_set
      rw [spread_f (l.set m x) (by omega) k (by omega)]
      simp only [Option.bind_some]
      rw [if_neg (spr_even _ (by omega) (fun j hj => by have := hN' j hj; omega) he')]
      have := ih k (i + 1) (l.set m x) (by omega) (by omega) (by omega) (by omega) hN' he'
      rw [Int.natCast_add, Int.natCast_one] at this
      exact this
    · rw [if_neg hc, awake_f (k + 1) (by omega)]
      rfl
theorem levels_first (x1 : Int) : ∀ (d k i : Nat) (l : List S25), i + d = l.length → 4 * l.length + d + 600 < k → 0 < l.length → l.length < 1000 → (∀ j, j < l.length → N l j = 0) →
    tinderboxlaw11_WearLevels.l0 k x1 l (i : Int) = some true := by
  intro d
  induction d with
  | zero =>
    intro k i l h hk h0 hl hN
    obtain ⟨k, rfl⟩ : ∃ m, k = m + 1 := ⟨k - 1, by omega⟩
    simp only [tinderboxlaw11_WearLevels.l0]
    rw [if_neg (by omega)]
    exact levels_loop x1 256 k 0 l (by omega) (by omega) h0 hl (fun j hj => by have := hN j hj; omega) (fun i j hi hj => by have := hN j hj; have := hN i hi; omega)
  | succ d ih =>
    intro k i l h hk h0 hl hN
    obtain ⟨k, rfl⟩ : ∃ m, k = m + 1 := ⟨k - 1, by omega⟩
    simp only [tinderboxlaw11_WearLevels.l0]
    rw [if_pos (by omega), if_pos (by omega), wrap_next (i := (i : Int)) (by omega) (by omega), Int.toNat_natCast]
    have hlen : (l.set i ⟨(i : Int), (rd_T25 l (i : Int)).f1⟩).length = l.length := List.length_set
    have := ih k (i + 1) (l.set i ⟨(i : Int), (rd_T25 l (i : Int)).f1⟩) (by omega) (by omega) (by omega) (by omega) (fun j hj => by
      rw [N_set l i _ (by omega) j]
      split
      · exact hN i (by omega)
      · exact hN j (by omega))
    rw [Int.natCast_add, Int.natCast_one] at this
    exact this
theorem WearLevels : tinderboxlaw11_WearLevels.Pure := by
  intro a0 a1 _ _
  have hm := and_pow 4 (by decide) 15 a0 (by decide)
  obtain ⟨n, hn, hn0, hn1⟩ : ∃ n : Nat, wrap64 (1 + (Go.bits .and .i64 a0 15)) = n ∧ 0 < n ∧ n < 100 := by
    refine ⟨(wrap64 (1 + (Go.bits .and .i64 a0 15))).toNat, ?_, ?_, ?_⟩ <;> rw [hm] <;> unfold wrap64 <;> omega
  obtain ⟨K, hK⟩ : ∃ K : Nat, 5000 ≤ K := ⟨5000, by omega⟩
  refine ⟨K, ?_⟩
  unfold tinderboxlaw11_WearLevels.f
  rw [hn, if_pos (by omega), Int.toNat_natCast, if_pos (by omega)]
  have hlen : (List.replicate n z25).length = n := List.length_replicate
  refine levels_first a1 n K 0 _ (by omega) (by omega) (by omega) (by omega) ?_
  intro j hj
  unfold N rd_T25
  rw [Int.toNat_natCast, List.getD_eq_getElem?_getD, List.getElem?_replicate]
  split <;> rfl
end Go.Proofs.Ytbbfngnfphmohaa.Pure
