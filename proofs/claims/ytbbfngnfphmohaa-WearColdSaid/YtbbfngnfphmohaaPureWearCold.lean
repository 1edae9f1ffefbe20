/- The plain law: a full block is cold just if some block was erased oftener by more than the limit. No condition. -/
import Derived.Test.YtbbfngnfphmohaaPWearColdx2
import Derived.Laws.Bits128
namespace Go.Proofs.Ytbbfngnfphmohaa.Pure
open Go.RowKit Go.Proofs.Ytbbfngnfphmohaa.PWearCold Go.Proofs.YtbbfngnfphmohaaW.PrintWords Go.Proofs.YtbbfngnfphmohaaW.PrintLast Go.Proofs.YtbbfngnfphmohaaW.PrintMore

theorem and_pow (m : Nat) (hm : m < 63) (c n : Int) (hc : c = (2 ^ m - 1 : Nat)) : Go.bits .and .i64 n c = n % (2 ^ m : Nat) := by
  have h1 : 2 ^ m ≤ 2 ^ 62 := Nat.pow_le_pow_right (by decide) (by omega)
  have hp : 0 < 2 ^ m := Nat.two_pow_pos m
  have h127 : (BitVec.ofInt 64 c).toNat = 2 ^ m - 1 := by
    rw [BitVec.toNat_ofInt, hc, show ((2 : Nat) ^ 64) = 18446744073709551616 from by decide]
    have : ((2 ^ m - 1 : Nat) : Int) % ((18446744073709551616 : Nat) : Int) = ((2 ^ m - 1 : Nat) : Int) := Int.emod_eq_of_lt (by omega) (by omega)
    rw [this]; rfl
  have key : (BitVec.ofInt 64 n &&& BitVec.ofInt 64 c).toNat = (n % ((2 ^ 64 : Nat) : Int)).toNat % 2 ^ m := by
    rw [BitVec.toNat_and, BitVec.toNat_ofInt, h127, Nat.and_two_pow_sub_one_eq_mod]
  show Go.IntKind.i64.wrap ((BitVec.ofInt 64 n &&& BitVec.ofInt 64 c).toNat : Nat) = _
  rw [key, Go.IntKind.wrap_i64]
  have h3 : ((((n % ((2 ^ 64 : Nat) : Int)).toNat % 2 ^ m : Nat)) : Int) = n % ((2 ^ m : Nat) : Int) := by
    rw [Int.natCast_emod, Int.toNat_of_nonneg (Int.emod_nonneg _ (by decide))]
    refine Int.emod_emod_of_dvd n ?_
    exact Int.natCast_dvd_natCast.2 (Nat.pow_dvd_pow 2 (by omega))
  rw [h3]
  have h4 := Int.emod_nonneg n (b := ((2 ^ m : Nat) : Int)) (by omega)
  have h5 := Int.emod_lt_of_pos n (b := ((2 ^ m : Nat) : Int)) (by omega)
  omega
theorem wrap_next {i : Int} (h0 : 0 ≤ i) (h : i < 9223372036854775807) : wrap64 (i + 1) = i + 1 := by unfold wrap64; omega

def N (l : List S25) (i : Nat) : Int := (rd_T25 l (i : Int)).f1
theorem N_rd (l : List S25) (i : Int) (h : 0 ≤ i) : (rd_T25 l i).f1 = N l i.toNat := by unfold N; rw [Int.toNat_of_nonneg h]
/-- The place of the least one of the first ones. -/
def lst (l : List S25) : Nat → Int
  | 0 => -1
  | i + 1 => if lst l i < 0 then (i : Int) else if N l i < N l (lst l i).toNat then (i : Int) else lst l i
theorem lst_succ (l : List S25) (i : Nat) : lst l (i + 1) = if lst l i < 0 then (i : Int) else if N l i < N l (lst l i).toNat then (i : Int) else lst l i := rfl
theorem lst_in (l : List S25) : ∀ i, 0 < i → 0 ≤ lst l i ∧ lst l i < i
  | 0, h => by omega
  | i + 1, _ => by
    have ih := lst_in l i
    unfold lst
    split
    · omega
    · split
      · omega
      · by_cases hi : 0 < i
        · have := ih hi; omega
        · have : i = 0 := by omega
          subst this
          simp [lst] at *
theorem lst_least (l : List S25) : ∀ i j, j < i → N l (lst l i).toNat ≤ N l j
  | 0, j, h => by omega
  | i + 1, j, h => by
    by_cases hi : 0 < i
    · have h1 := lst_in l i hi
      have ih := lst_least l i
      unfold lst
      rw [if_neg (by omega)]
      split
      · by_cases hj : j = i
        · subst hj; simp
        · have := ih j (by omega); simp; omega
      · by_cases hj : j = i
        · subst hj; omega
        · exact ih j (by omega)
    · have : i = 0 := by omega
      subst this
      have : j = 0 := by omega
      subst this
      simp [lst]

theorem least_loop (l : List S25) (hl : (l.length : Int) ≤ 9223372036854775807) : ∀ (d k i : Nat), i + d = l.length → d < k →
    wear_Least.l0 k l (lst l i) l (l.length : Int) (i : Int) = some (lst l l.length) := by
  intro d
  induction d with
  | zero =>
    intro k i h hk
    obtain ⟨k, rfl⟩ : ∃ m, k = m + 1 := ⟨k - 1, by omega⟩
    simp only [wear_Least.l0]
    rw [if_neg (by omega), show i = l.length by omega]
  | succ d ih =>
    intro k i h hk
    obtain ⟨k, rfl⟩ : ∃ m, k = m + 1 := ⟨k - 1, by omega⟩
    have hn := ih k (i + 1) (by omega) (by omega)
    simp only [wear_Least.l0]
    rw [if_pos (by omega), if_pos (by omega), if_pos (by omega), wrap_next (by omega) (by omega)]
    rw [Int.natCast_add, Int.natCast_one] at hn
    rw [lst_succ] at hn
    by_cases h0 : lst l i < 0
    · rw [if_pos h0] at hn ⊢
      exact hn
    · have hi : 0 < i := by
        rcases Nat.eq_zero_or_pos i with h | h
        · subst h; simp [lst] at h0
        · exact h
      have h1 := lst_in l i hi
      rw [if_neg h0] at hn ⊢
      rw [if_pos (by omega), if_pos (by omega), N_rd l i (by omega), N_rd l (lst l i) (by omega), Int.toNat_natCast]
      by_cases h2 : N l i < N l (lst l i).toNat
      · rw [if_pos h2] at hn ⊢; exact hn
      · rw [if_neg h2] at hn ⊢; exact hn
theorem least_f (l : List S25) (hl : (l.length : Int) ≤ 9223372036854775807) (k : Nat) (hk : l.length < k) : wear_Least.f k l = some (lst l l.length) :=
  least_loop l hl l.length k 0 (by omega) hk

/-- The least, and the greatest, of the first ones. -/
def low (l : List S25) : Nat → Int
  | 0 => N l 0
  | i + 1 => mn (low l i) (N l i)
def high (l : List S25) : Nat → Int
  | 0 => N l 0
  | i + 1 => mx (high l i) (N l i)
theorem spread_loop (l : List S25) (hl : (l.length : Int) ≤ 9223372036854775807) : ∀ (d k i : Nat), i + d = l.length → d < k →
    wear_Spread.l0 k (low l i) (high l i) l (l.length : Int) (i : Int) = some (wrap64 (high l l.length - low l l.length)) := by
  intro d
  induction d with
  | zero =>
    intro k i h hk
    obtain ⟨k, rfl⟩ : ∃ m, k = m + 1 := ⟨k - 1, by omega⟩
    simp only [wear_Spread.l0]
    rw [if_neg (by omega), show i = l.length by omega]
  | succ d ih =>
    intro k i h hk
    obtain ⟨k, rfl⟩ : ∃ m, k = m + 1 := ⟨k - 1, by omega⟩
    have hn := ih k (i + 1) (by omega) (by omega)
    simp only [wear_Spread.l0]
    rw [if_pos (by omega), if_pos (by omega), if_pos (by omega), wrap_next (by omega) (by omega), N_rd l i (by omega), Int.toNat_natCast]
    rw [Int.natCast_add, Int.natCast_one] at hn
    exact hn
def spr (l : List S25) : Int := if l.length = 0 then 0 else wrap64 (high l l.length - low l l.length)
theorem spread_f (l : List S25) (hl : (l.length : Int) ≤ 9223372036854775807) (k : Nat) (hk : l.length < k) : wear_Spread.f k l = some (spr l) := by
  unfold wear_Spread.f spr
  by_cases h : l.length = 0
  · rw [if_pos (by omega), if_pos h]
  · rw [if_neg (by omega), if_pos (by omega), if_neg h]
    exact spread_loop l hl l.length k 0 (by omega) hk

theorem cold_loop (a l : List S25) (lim m : Int) (ha : (a.length : Int) ≤ 9223372036854775807) (hm : 0 ≤ m) (hm2 : m < l.length) : ∀ (d k i : Nat), i + d = a.length → d < k →
    (∀ j, j < i → ¬ wrap64 (N a j - N l m.toNat) > lim) →
    wear_Cold.l0 k l lim m a (a.length : Int) (i : Int) = some (if ∃ j, j < a.length ∧ wrap64 (N a j - N l m.toNat) > lim then m else -1) := by
  intro d
  induction d with
  | zero =>
    intro k i h hk hno
    obtain ⟨k, rfl⟩ : ∃ m, k = m + 1 := ⟨k - 1, by omega⟩
    simp only [wear_Cold.l0]
    rw [if_neg (by omega), if_neg]
    rintro ⟨j, h1, h2⟩
    exact hno j (by omega) h2
  | succ d ih =>
    intro k i h hk hno
    obtain ⟨k, rfl⟩ : ∃ m, k = m + 1 := ⟨k - 1, by omega⟩
    have hn := ih k (i + 1) (by omega) (by omega)
    simp only [wear_Cold.l0]
    rw [if_pos (by omega), if_pos (by omega), if_pos (by omega), if_pos hm, if_pos hm2, wrap_next (by omega) (by omega), N_rd a i (by omega), N_rd l m hm, Int.toNat_natCast]
    by_cases hc : wrap64 (N a i - N l m.toNat) > lim
    · rw [if_pos hc, if_pos ⟨i, by omega, hc⟩]
    · rw [if_neg hc]
      rw [Int.natCast_add, Int.natCast_one] at hn
      apply hn
      intro j hj
      by_cases e : j = i
      · subst e; exact hc
      · exact hno j (by omega)
def cld (a l : List S25) (lim : Int) : Int := if lst l l.length < 0 then -1 else if ∃ j, j < a.length ∧ wrap64 (N a j - N l (lst l l.length).toNat) > lim then lst l l.length else -1
theorem cold_f (a l : List S25) (lim : Int) (ha : (a.length : Int) ≤ 9223372036854775807) (hl : (l.length : Int) ≤ 9223372036854775807) (k : Nat) (hk : l.length < k) (hk2 : a.length < k) :
    wear_Cold.f k a l lim = some (cld a l lim) := by
  unfold wear_Cold.f cld
  rw [least_f l hl k hk]
  simp only [Option.bind_some]
  by_cases h : lst l l.length < 0
  · rw [if_pos h, if_pos h]
  · rw [if_neg h, if_neg h]
    have hp : 0 < l.length := by
      rcases Nat.eq_zero_or_pos l.length with h0 | h0
      · rw [h0] at h; simp [lst] at h
      · exact h0
    have h1 := lst_in l l.length hp
    exact cold_loop a l lim _ ha (by omega) (by omega) a.length k 0 (by omega) hk2 (fun j hj => by omega)

theorem awake_f (k : Nat) (hk : 3 < k) : tinderboxlaw11_awake.f k = some true := at_rounds tinderboxlaw11_awake.mono (k := 4) (by omega) (by decide +kernel)

def mask (x : S25) : S25 := ⟨x.f0, Go.bits .and .i64 x.f1 65535⟩
theorem rd_get (l : List S25) (i : Nat) (h : i < l.length) : rd_T25 l (i : Int) = l[i] := by
  unfold rd_T25; rw [Int.toNat_natCast]; simp [h]
theorem few_loop (l : List S25) (_hl : (l.length : Int) ≤ 9223372036854775807) : ∀ (d k i : Nat), i + d = 41 → d < k → i ≤ l.length → i ≤ 40 →
    tinderboxlaw11_few.l0 k l ((l.take i).map mask) (i : Int) = some ((l.take 40).map mask) := by
  intro d
  induction d with
  | zero => intro k i h; omega
  | succ d ih =>
    intro k i h hk h1 h2
    obtain ⟨k, rfl⟩ : ∃ m, k = m + 1 := ⟨k - 1, by omega⟩
    simp only [tinderboxlaw11_few.l0]
    by_cases c1 : i < l.length
    · rw [if_pos (by omega)]
      by_cases c2 : i < 40
      · have hn := ih k (i + 1) (by omega) (by omega) (by omega) (by omega)
        rw [if_pos (by omega), if_pos (by omega), if_pos (by rw [List.length_map, List.length_take]; omega), wrap_next (by omega) (by omega)]
        rw [List.take_succ_eq_append_getElem c1, List.map_append, Int.natCast_add, Int.natCast_one] at hn
        rw [rd_get l i c1]
        exact hn
      · rw [if_neg (by omega), show i = 40 by omega]
    · rw [if_neg (by omega), List.take_of_length_le (by omega), List.take_of_length_le (by omega)]
theorem few_f (l : List S25) (_hl : (l.length : Int) ≤ 9223372036854775807) (k : Nat) (hk : 41 < k) : tinderboxlaw11_few.f k l = some ((l.take 40).map mask) :=
  few_loop l _hl 41 k 0 (by omega) hk (by omega) (by omega)
theorem mask_N (l : List S25) (j : Nat) : 0 ≤ N ((l.take 40).map mask) j ∧ N ((l.take 40).map mask) j < 65536 := by
  unfold N rd_T25
  rw [Int.toNat_natCast]
  by_cases h : j < ((l.take 40).map mask).length
  · rw [List.getD_eq_getElem?_getD, List.getElem?_eq_getElem h, Option.getD_some, List.getElem_map]
    unfold mask
    simp only
    rw [and_pow 16 (by decide) 65535 _ (by decide)]
    omega
  · rw [List.getD_eq_getElem?_getD, List.getElem?_eq_none (by omega)]
    simp [z25]


theorem coldlaw_end (a l : List S25) (lim : Int) (ha : (a.length : Int) < 1000000) (hl : (l.length : Int) < 1000000) (b : Bool) (hb : 0 ≤ lst l l.length → (b = true ↔ ∃ j, j < a.length ∧ wrap64 (N a j - N l (lst l l.length).toNat) > lim))
    (hb' : lst l l.length < 0 → b = false) (k : Nat) (hk : a.length + l.length + 10 < k) : tinderboxlaw11_WearCold.j1 k a l lim (lst l l.length) b = some true := by
  obtain ⟨k, rfl⟩ : ∃ m, k = m + 1 := ⟨k - 1, by omega⟩
  simp only [tinderboxlaw11_WearCold.j1]
  rw [awake_f k (by omega), cold_f a l lim (by omega) (by omega) k (by omega) (by omega)]
  simp only [Option.bind_some, if_true]
  unfold cld
  by_cases h : lst l l.length < 0
  · rw [if_pos h, hb' h]; simp
  · rw [if_neg h]
    have hb2 := hb (by omega)
    cases b with
    | true => rw [if_pos (hb2.1 rfl)]; simp
    | false =>
      have hno : ¬ ∃ j, j < a.length ∧ wrap64 (N a j - N l (lst l l.length).toNat) > lim := fun hh => by have := hb2.2 hh; cases this
      rw [if_neg (show ¬ (false = true) by decide), if_neg hno]; simp
theorem coldlaw_loop (a l : List S25) (lim : Int) (ha : (a.length : Int) < 1000000) (hl : (l.length : Int) < 1000000) (hlim : 0 ≤ lim) (hNa : ∀ j, 0 ≤ N a j ∧ N a j < 65536) (hNl : ∀ j, 0 ≤ N l j ∧ N l j < 65536) :
    ∀ (d k i : Nat) (b : Bool), i + d = a.length → d + a.length + l.length + 20 < k →
    (0 ≤ lst l l.length → (b = true ↔ ∃ j, j < i ∧ wrap64 (N a j - N l (lst l l.length).toNat) > lim)) → (lst l l.length < 0 → b = false) →
    tinderboxlaw11_WearCold.l0 k a l lim (lst l l.length) b (i : Int) = some true := by
  intro d
  induction d with
  | zero =>
    intro k i b h hk hb hb'
    obtain ⟨k, rfl⟩ : ∃ m, k = m + 1 := ⟨k - 1, by omega⟩
    simp only [tinderboxlaw11_WearCold.l0]
    rw [if_neg (by omega)]
    rw [show i = a.length by omega] at hb
    exact coldlaw_end a l lim ha hl b hb hb' k (by omega)
  | succ d ih =>
    intro k i b h hk hb hb'
    obtain ⟨k, rfl⟩ : ∃ m, k = m + 1 := ⟨k - 1, by omega⟩
    simp only [tinderboxlaw11_WearCold.l0]
    rw [if_pos (by omega)]
    by_cases h0 : lst l l.length < 0
    · rw [if_neg (by omega)]
      exact coldlaw_end a l lim ha hl b (fun hh => by omega) hb' k (by omega)
    · have hn := fun b => ih k (i + 1) b (by omega) (by omega)
      rw [Int.natCast_add, Int.natCast_one] at hn
      rw [if_pos (by omega), wrap_next (by omega) (by omega)]
      have hp : 0 < l.length := by
        rcases Nat.eq_zero_or_pos l.length with h1 | h1
        · rw [h1] at h0; simp [lst] at h0
        · exact h1
      have h1 := lst_in l l.length hp
      have hb2 := hb (by omega)
      have n1 := hNa i
      have n2 := hNl (lst l l.length).toNat
      cases b with
      | true =>
        rw [if_pos rfl]
        refine hn true (fun _ => ?_) (fun hh => by omega)
        obtain ⟨j, hj, hj2⟩ := hb2.1 rfl
        exact ⟨fun _ => ⟨j, by omega, hj2⟩, fun _ => rfl⟩
      | false =>
        have hno : ∀ j, j < i → ¬ wrap64 (N a j - N l (lst l l.length).toNat) > lim := fun j hj hh => by have := hb2.2 ⟨j, hj, hh⟩; cases this
        rw [if_neg (by decide), if_pos (by omega), if_pos (by omega), if_pos (by omega), N_rd a i (by omega), N_rd l (lst l l.length) (by omega), Int.toNat_natCast]
        have hw : wrap64 (N a i - N l (lst l l.length).toNat) = N a i - N l (lst l l.length).toNat := by unfold wrap64; omega
        by_cases hc : N a i > N l (lst l l.length).toNat
        · rw [if_pos hc]
          refine hn _ (fun _ => ?_) (fun hh => by omega)
          rw [decide_eq_true_iff]
          constructor
          · intro hh; exact ⟨i, by omega, hh⟩
          · rintro ⟨j, hj, hj2⟩
            by_cases e : j = i
            · subst e; exact hj2
            · exact absurd hj2 (hno j (by omega))
        · rw [if_neg hc]
          refine hn _ (fun _ => ?_) (fun hh => by omega)
          constructor
          · intro hh; cases hh
          · rintro ⟨j, hj, hj2⟩
            by_cases e : j = i
            · subst e; omega
            · exact absurd hj2 (hno j (by omega))
theorem WearCold_f (x y : List S25) (a2 : Int) (hx : (x.length : Int) ≤ 9223372036854775807) (hy : (y.length : Int) ≤ 9223372036854775807) : ∃ k, tinderboxlaw11_WearCold.f k x y a2 = some true := by
  obtain ⟨K, hK⟩ : ∃ K : Nat, 1000 ≤ K := ⟨1000, by omega⟩
  refine ⟨K, ?_⟩
  unfold tinderboxlaw11_WearCold.f
  rw [few_f x hx K (by omega), few_f y hy K (by omega)]
  simp only [Option.bind_some]
  have h1 : ((x.take 40).map mask).length ≤ 40 := by rw [List.length_map, List.length_take]; omega
  have h2 : ((y.take 40).map mask).length ≤ 40 := by rw [List.length_map, List.length_take]; omega
  rw [least_f _ (by omega) K (by omega)]
  simp only [Option.bind_some]
  have hm : 0 ≤ Go.bits .and .i64 a2 255 := by rw [and_pow 8 (by decide) 255 _ (by decide)]; omega
  refine coldlaw_loop _ _ _ (by omega) (by omega) hm (mask_N x) (mask_N y) ((x.take 40).map mask).length K 0 false (by omega) (by omega) (fun _ => ?_) (fun _ => rfl)
  constructor
  · intro hh; cases hh
  · rintro ⟨j, hj, _⟩; omega
end Go.Proofs.Ytbbfngnfphmohaa.Pure
