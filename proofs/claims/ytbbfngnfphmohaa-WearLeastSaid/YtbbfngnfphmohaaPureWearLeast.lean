/- The plain law: of every list the least one's place is found. No condition. -/
import Derived.Test.YtbbfngnfphmohaaPWearLeastx2
import Derived.Laws.Bits128
namespace Go.Proofs.Ytbbfngnfphmohaa.Pure
open Go.RowKit Go.Proofs.Ytbbfngnfphmohaa.PWearLeast Go.Proofs.YtbbfngnfphmohaaW.PrintWords Go.Proofs.YtbbfngnfphmohaaW.PrintLast Go.Proofs.YtbbfngnfphmohaaW.PrintMore

theorem and_pow (m : Nat) (hm : m < 63) (c n : Int) (hc : c = (2 ^ m - 1 : Nat)) : Go.bits .and .i64 n c = n % (2 ^ m : Nat) := by
  have h1 : 2 ^ m ≤ 2 ^ 62 := Nat.pow_le_pow_right (by decide) (by omega)
  have hp : 0 < 2 ^ m := Nat.two_pow_pos m
  have h127 : (BitVec.ofInt 64 c).toNat = 2 ^ m - 1 := by
    rw [BitVec.toNat_ofInt, hc, show ((2 : Nat) ^ 64) = 18446744073709551616 from by decide]
    have : ((2 ^ m - 1 : Nat) : Int) % ((18446744073709551616 : Nat) : Int) = ((2 ^ m - 1 : Nat) : Int) := Int.emod_eq_of_lt (by omega) (by omega)
    rw [this]; rfl
  have key : (BitVec.ofInt 64 n &&& BitVec.ofInt 64 c).toNat = (n % ((2 ^ 64 : Nat) : Int)).toNat % 2 ^ m := by
    rw [BitVec.toNat_and, BitVec.toNat_ofInt, h127, Nat.and_two_pow_sub_one_eq_mod]
  show Go.IntKind.i64.wrap ((BitVec.ofInt 64 n &&& BitVec.ofInt 64 c).toNat : Nat) = _
  rw [key, Go.IntKind.wrap_i64]
  have h3 : ((((n % ((2 ^ 64 : Nat) : Int)).toNat % 2 ^ m : Nat)) : Int) = n % ((2 ^ m : Nat) : Int) := by
    rw [Int.natCast_emod, Int.toNat_of_nonneg (Int.emod_nonneg _ (by decide))]
    refine Int.emod_emod_of_dvd n ?_
    exact Int.natCast_dvd_natCast.2 (Nat.pow_dvd_pow 2 (by omega))
  rw [h3]
  have h4 := Int.emod_nonneg n (b := ((2 ^ m : Nat) : Int)) (by omega)
  have h5 := Int.emod_lt_of_pos n (b := ((2 ^ m : Nat) : Int)) (by omega)
  omega
theorem wrap_next {i : Int} (h0 : 0 ≤ i) (h : i < 9223372036854775807) : wrap64 (i + 1) = i + 1 := by unfold wrap64; omega

def N (l : List S25) (i : Nat) : Int := (rd_T25 l (i : Int)).f1
theorem N_rd (l : List S25) (i : Int) (h : 0 ≤ i) : (rd_T25 l i).f1 = N l i.toNat := by unfold N; rw [Int.toNat_of_nonneg h]
/-- The place of the least one of the first ones. -/
def lst (l : List S25) : Nat → Int
  | 0 => -1
  | i + 1 => if lst l i < 0 then (i : Int) else if N l i < N l (lst l i).toNat then (i : Int) else lst l i
theorem lst_succ (l : List S25) (i : Nat) : lst l (i + 1) = if lst l i < 0 then (i : Int) else if N l i < N l (lst l i).toNat then (i : Int) else lst l i := rfl
theorem lst_in (l : List S25) : ∀ i, 0 < i → 0 ≤ lst l i ∧ lst l i < i
  | 0, h => by omega
  | i + 1, _ => by
    have ih := lst_in l i
    unfold lst
    split
    · omega
    · split
      · omega
      · by_cases hi : 0 < i
        · have := ih hi; omega
        · have : i = 0 := by omega
          subst this
          simp [lst] at *
theorem lst_least (l : List S25) : ∀ i j, j < i → N l (lst l i).toNat ≤ N l j
  | 0, j, h => by omega
  | i + 1, j, h => by
    by_cases hi : 0 < i
    · have h1 := lst_in l i hi
      have ih := lst_least l i
      unfold lst
      rw [if_neg (by omega)]
      split
      · by_cases hj : j = i
        · subst hj; simp
        · have := ih j (by omega); simp; omega
      · by_cases hj : j = i
        · subst hj; omega
        · exact ih j (by omega)
    · have : i = 0 := by omega
      subst this
      have : j = 0 := by omega
      subst this
      simp [lst]

theorem least_loop (l : List S25) (hl : (l.length : Int) ≤ 9223372036854775807) : ∀ (d k i : Nat), i + d = l.length → d < k →
    wear_Least.l0 k l (lst l i) l (l.length : Int) (i : Int) = some (lst l l.length) := by
  intro d
  induction d with
  | zero =>
    intro k i h hk
    obtain ⟨k, rfl⟩ : ∃ m, k = m + 1 := ⟨k - 1, by omega⟩
    simp only [wear_Least.l0]
    rw [if_neg (by omega), show i = l.length by omega]
  | succ d ih =>
    intro k i h hk
    obtain ⟨k, rfl⟩ : ∃ m, k = m + 1 := ⟨k - 1, by omega⟩
    have hn := ih k (i + 1) (by omega) (by omega)
    simp only [wear_Least.l0]
    rw [if_pos (by omega), if_pos (by omega), if_pos (by omega), wrap_next (by omega) (by omega)]
    rw [Int.natCast_add, Int.natCast_one] at hn
    rw [lst_succ] at hn
    by_cases h0 : lst l i < 0
    · rw [if_pos h0] at hn ⊢
      exact hn
    · have hi : 0 < i := by
        rcases Nat.eq_zero_or_pos i with h | h
        · subst h; simp [lst] at h0
        · exact h
      have h1 := lst_in l i hi
      rw [if_neg h0] at hn ⊢
      rw [if_pos (by omega), if_pos (by omega), N_rd l i (by omega), N_rd l (lst l i) (by omega), Int.toNat_natCast]
      by_cases h2 : N l i < N l (lst l i).toNat
      · rw [if_pos h2] at hn ⊢; exact hn
      · rw [if_neg h2] at hn ⊢; exact hn
theorem least_f (l : List S25) (hl : (l.length : Int) ≤ 9223372036854775807) (k : Nat) (hk : l.length < k) : wear_Least.f k l = some (lst l l.length) :=
  least_loop l hl l.length k 0 (by omega) hk

/-- The least, and the greatest, of the first ones. -/
def low (l : List S25) : Nat → Int
  | 0 => N l 0
  | i + 1 => mn (low l i) (N l i)
def high (l : List S25) : Nat → Int
  | 0 => N l 0
  | i + 1 => mx (high l i) (N l i)
theorem spread_loop (l : List S25) (hl : (l.length : Int) ≤ 9223372036854775807) : ∀ (d k i : Nat), i + d = l.length → d < k →
    wear_Spread.l0 k (low l i) (high l i) l (l.length : Int) (i : Int) = some (wrap64 (high l l.length - low l l.length)) := by
  intro d
  induction d with
  | zero =>
    intro k i h hk
    obtain ⟨k, rfl⟩ : ∃ m, k = m + 1 := ⟨k - 1, by omega⟩
    simp only [wear_Spread.l0]
    rw [if_neg (by omega), show i = l.length by omega]
  | succ d ih =>
    intro k i h hk
    obtain ⟨k, rfl⟩ : ∃ m, k = m + 1 := ⟨k - 1, by omega⟩
    have hn := ih k (i + 1) (by omega) (by omega)
    simp only [wear_Spread.l0]
    rw [if_pos (by omega), if_pos (by omega), if_pos (by omega), wrap_next (by omega) (by omega), N_rd l i (by omega), Int.toNat_natCast]
    rw [Int.natCast_add, Int.natCast_one] at hn
    exact hn
def spr (l : List S25) : Int := if l.length = 0 then 0 else wrap64 (high l l.length - low l l.length)
theorem spread_f (l : List S25) (hl : (l.length : Int) ≤ 9223372036854775807) (k : Nat) (hk : l.length < k) : wear_Spread.f k l = some (spr l) := by
  unfold wear_Spread.f spr
  by_cases h : l.length = 0
  · rw [if_pos (by omega), if_pos h]
  · rw [if_neg (by omega), if_pos (by omega), if_neg h]
    exact spread_loop l hl l.length k 0 (by omega) hk

theorem cold_loop (a l : List S25) (lim m : Int) (ha : (a.length : Int) ≤ 9223372036854775807) (hm : 0 ≤ m) (hm2 : m < l.length) : ∀ (d k i : Nat), i + d = a.length → d < k →
    (∀ j, j < i → ¬ wrap64 (N a j - N l m.toNat) > lim) →
    wear_Cold.l0 k l lim m a (a.length : Int) (i : Int) = some (if ∃ j, j < a.length ∧ wrap64 (N a j - N l m.toNat) > lim then m else -1) := by
  intro d
  induction d with
  | zero =>
    intro k i h hk hno
    obtain ⟨k, rfl⟩ : ∃ m, k = m + 1 := ⟨k - 1, by omega⟩
    simp only [wear_Cold.l0]
    rw [if_neg (by omega), if_neg]
    rintro ⟨j, h1, h2⟩
    exact hno j (by omega) h2
  | succ d ih =>
    intro k i h hk hno
    obtain ⟨k, rfl⟩ : ∃ m, k = m + 1 := ⟨k - 1, by omega⟩
    have hn := ih k (i + 1) (by omega) (by omega)
    simp only [wear_Cold.l0]
    rw [if_pos (by omega), if_pos (by omega), if_pos (by omega), if_pos hm, if_pos hm2, wrap_next (by omega) (by omega), N_rd a i (by omega), N_rd l m hm, Int.toNat_natCast]
    by_cases hc : wrap64 (N a i - N l m.toNat) > lim
    · rw [if_pos hc, if_pos ⟨i, by omega, hc⟩]
    · rw [if_neg hc]
      rw [Int.natCast_add, Int.natCast_one] at hn
      apply hn
      intro j hj
      by_cases e : j = i
      · subst e; exact hc
      · exact hno j (by omega)
def cld (a l : List S25) (lim : Int) : Int := if lst l l.length < 0 then -1 else if ∃ j, j < a.length ∧ wrap64 (N a j - N l (lst l l.length).toNat) > lim then lst l l.length else -1
theorem cold_f (a l : List S25) (lim : Int) (ha : (a.length : Int) ≤ 9223372036854775807) (hl : (l.length : Int) ≤ 9223372036854775807) (k : Nat) (hk : l.length < k) (hk2 : a.length < k) :
    wear_Cold.f k a l lim = some (cld a l lim) := by
  unfold wear_Cold.f cld
  rw [least_f l hl k hk]
  simp only [Option.bind_some]
  by_cases h : lst l l.length < 0
  · rw [if_pos h, if_pos h]
  · rw [if_neg h, if_neg h]
    have hp : 0 < l.length := by
      rcases Nat.eq_zero_or_pos l.length with h0 | h0
      · rw [h0] at h; simp [lst] at h
      · exact h0
    have h1 := lst_in l l.length hp
    exact cold_loop a l lim _ ha (by omega) (by omega) a.length k 0 (by omega) hk2 (fun j hj => by omega)

theorem awake_f (k : Nat) (hk : 3 < k) : tinderboxlaw11_awake.f k = some true := at_rounds tinderboxlaw11_awake.mono (k := 4) (by omega) (by decide +kernel)

def mask (x : S25) : S25 := ⟨x.f0, Go.bits .and .i64 x.f1 65535⟩
theorem rd_get (l : List S25) (i : Nat) (h : i < l.length) : rd_T25 l (i : Int) = l[i] := by
  unfold rd_T25; rw [Int.toNat_natCast]; simp [h]
theorem few_loop (l : List S25) (_hl : (l.length : Int) ≤ 9223372036854775807) : ∀ (d k i : Nat), i + d = 41 → d < k → i ≤ l.length → i ≤ 40 →
    tinderboxlaw11_few.l0 k l ((l.take i).map mask) (i : Int) = some ((l.take 40).map mask) := by
  intro d
  induction d with
  | zero => intro k i h; omega
  | succ d ih =>
    intro k i h hk h1 h2
    obtain ⟨k, rfl⟩ : ∃ m, k = m + 1 := ⟨k - 1, by omega⟩
    simp only [tinderboxlaw11_few.l0]
    by_cases c1 : i < l.length
    · rw [if_pos (by omega)]
      by_cases c2 : i < 40
      · have hn := ih k (i + 1) (by omega) (by omega) (by omega) (by omega)
        rw [if_pos (by omega), if_pos (by omega), if_pos (by rw [List.length_map, List.length_take]; omega), wrap_next (by omega) (by omega)]
        rw [List.take_succ_eq_append_getElem c1, List.map_append, Int.natCast_add, Int.natCast_one] at hn
        rw [rd_get l i c1]
        exact hn
      · rw [if_neg (by omega), show i = 40 by omega]
    · rw [if_neg (by omega), List.take_of_length_le (by omega), List.take_of_length_le (by omega)]
theorem few_f (l : List S25) (_hl : (l.length : Int) ≤ 9223372036854775807) (k : Nat) (hk : 41 < k) : tinderboxlaw11_few.f k l = some ((l.take 40).map mask) :=
  few_loop l _hl 41 k 0 (by omega) hk (by omega) (by omega)
theorem mask_N (l : List S25) (j : Nat) : 0 ≤ N ((l.take 40).map mask) j ∧ N ((l.take 40).map mask) j < 65536 := by
  unfold N rd_T25
  rw [Int.toNat_natCast]
  by_cases h : j < ((l.take 40).map mask).length
  · rw [List.getD_eq_getElem?_getD, List.getElem?_eq_getElem h, Option.getD_some, List.getElem_map]
    unfold mask
    simp only
    rw [and_pow 16 (by decide) 65535 _ (by decide)]
    omega
  · rw [List.getD_eq_getElem?_getD, List.getElem?_eq_none (by omega)]
    simp [z25]

/-- The law's own reckoning. -/
def lowB (l : List S25) (i : Nat) : Int := if i = 0 then 0 else low l i
def highB (l : List S25) (i : Nat) : Int := if i = 0 then 0 else high l i
theorem mx_self (a : Int) : mx a a = a := by unfold mx; split <;> rfl
theorem mn_self (a : Int) : mn a a = a := by unfold mn; split <;> rfl
theorem law_loop (l : List S25) (hl : (l.length : Int) < 1000000) : ∀ (d k i : Nat), i + d = l.length → 4 * d + l.length + 10 < k →
    tinderboxlaw11_WearLeast.l0 k l (lst l i) (lowB l i) (highB l i) (i : Int) = some true := by
  intro d
  induction d with
  | zero =>
    intro k i h hk
    obtain ⟨k, rfl⟩ : ∃ m, k = m + 1 := ⟨k - 1, by omega⟩
    simp only [tinderboxlaw11_WearLeast.l0]
    rw [if_neg (by omega), awake_f k (by omega)]
    simp only [Option.bind_some, if_true]
    rw [least_f l (by omega) k (by omega)]
    simp only [Option.bind_some]
    rw [show i = l.length by omega, if_pos rfl, spread_f l (by omega) k (by omega)]
    simp only [Option.bind_some]
    unfold spr lowB highB
    by_cases h0 : l.length = 0
    · rw [if_pos h0, if_pos h0, if_pos h0]; simp [wrap64]
    · rw [if_neg h0, if_neg h0, if_neg h0]; simp
  | succ d ih =>
    intro k i h hk
    obtain ⟨k, rfl⟩ : ∃ m, k = m + 4 := ⟨k - 4, by omega⟩
    have hn := ih k (i + 1) (by omega) (by omega)
    rw [Int.natCast_add, Int.natCast_one, lst_succ] at hn
    have hj3 : ∀ w b, tinderboxlaw11_WearLeast.l0 k l w (lowB l (i + 1)) (highB l (i + 1)) ((i : Int) + 1) = some true → (b = true ↔ (i = 0 ∨ N l i < low l i)) →
        tinderboxlaw11_WearLeast.j3 (k + 1) l w (lowB l i) (highB l i) (i : Int) b = some true := by
      intro w b hw hb
      simp only [tinderboxlaw11_WearLeast.j3]
      rw [wrap_next (by omega) (by omega), N_rd l i (by omega), Int.toNat_natCast]
      simp only [show (0 : Int) ≤ i from by omega, show (i : Int) < l.length from by omega, if_true]
      unfold lowB highB at *
      rw [if_neg (by omega), if_neg (by omega)] at hw
      by_cases h0 : i = 0
      · subst h0
        have hb' : b = true := hb.2 (Or.inl rfl)
        subst hb'
        simp only [if_true, Int.natCast_zero] at hw ⊢
        simp only [low, high, mx_self, mn_self] at hw
        exact hw
      · rw [if_neg h0, if_neg h0, if_neg (show ¬ ((i : Int) = 0) from by omega), if_neg (show ¬ ((i : Int) = 0) from by omega)]
        simp only [low, high] at hw
        unfold mn mx at hw
        cases b with
        | true =>
          have : N l i < low l i := by
            rcases hb.1 rfl with h | h
            · exact absurd h h0
            · exact h
          rw [if_pos this] at hw
          simp only [if_true]
          by_cases h2 : high l i < N l i
          · rw [if_pos h2] at hw; rw [if_pos h2]; exact hw
          · rw [if_neg h2] at hw; rw [if_neg h2]; exact hw
        | false =>
          have : ¬ N l i < low l i := fun hh => by have := hb.2 (Or.inr hh); cases this
          rw [if_neg this] at hw
          rw [if_neg (by decide)]
          by_cases h2 : high l i < N l i
          · rw [if_pos h2] at hw; rw [if_pos h2]; exact hw
          · rw [if_neg h2] at hw; rw [if_neg h2]; exact hw
    have hj2 : ∀ w, tinderboxlaw11_WearLeast.l0 k l w (lowB l (i + 1)) (highB l (i + 1)) ((i : Int) + 1) = some true →
        tinderboxlaw11_WearLeast.j2 (k + 2) l w (lowB l i) (highB l i) (i : Int) = some true := by
      intro w hw
      simp only [tinderboxlaw11_WearLeast.j2]
      by_cases h0 : i = 0
      · rw [if_pos (by omega)]
        exact hj3 w true hw (by simp [h0])
      · rw [if_neg (by omega), if_pos (by omega), if_pos (by omega)]
        refine hj3 w _ hw ?_
        rw [N_rd l i (by omega), Int.toNat_natCast]
        unfold lowB
        rw [if_neg h0]
        simp [h0]
    simp only [tinderboxlaw11_WearLeast.l0]
    rw [if_pos (by omega)]
    by_cases h0 : lst l i < 0
    · rw [if_pos h0] at hn ⊢
      simp only [tinderboxlaw11_WearLeast.j1, if_true]
      exact hj2 _ hn
    · have hi : 0 < i := by
        rcases Nat.eq_zero_or_pos i with h | h
        · subst h; simp [lst] at h0
        · exact h
      have h1 := lst_in l i hi
      rw [if_neg h0] at hn ⊢
      rw [if_pos (by omega), if_pos (by omega), if_pos (by omega), N_rd l i (by omega), N_rd l (lst l i) (by omega), Int.toNat_natCast]
      simp only [tinderboxlaw11_WearLeast.j1]
      by_cases h2 : N l i < N l (lst l i).toNat
      · rw [if_pos h2] at hn; rw [if_pos (by simpa using h2)]; exact hj2 _ hn
      · rw [if_neg h2] at hn; rw [if_neg (by simpa using h2)]; exact hj2 _ hn
theorem WearLeast_f (l : List S25) (hl : (l.length : Int) ≤ 9223372036854775807) : ∃ k, tinderboxlaw11_WearLeast.f k l = some true := by
  obtain ⟨K, hK⟩ : ∃ K : Nat, 1000 ≤ K := ⟨1000, by omega⟩
  refine ⟨K, ?_⟩
  unfold tinderboxlaw11_WearLeast.f
  rw [few_f l hl K (by omega)]
  simp only [Option.bind_some]
  have h40 : ((l.take 40).map mask).length ≤ 40 := by rw [List.length_map, List.length_take]; omega
  exact law_loop _ (by omega) ((l.take 40).map mask).length K 0 (by omega) (by omega)
end Go.Proofs.Ytbbfngnfphmohaa.Pure
