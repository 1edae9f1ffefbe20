/- Helper: the check of bytes, by shifting right and by dividing, plainly. No condition. -/
namespace Go.Proofs.Yteilmbhnbmmcjaa.B
def stepP (c : BitVec 32) : BitVec 32 := if c.getLsbD 0 then (c >>> 1) ^^^ 0x82f63b78#32 else c >>> 1
def stepR (r : BitVec 32) : BitVec 32 := if r.getLsbD 31 then (r <<< 1) ^^^ 0x1edc6f41#32 else r <<< 1
theorem rev_xor (a b : BitVec 32) : (a ^^^ b).reverse = a.reverse ^^^ b.reverse := by
  apply BitVec.eq_of_getLsbD_eq
  intro i hi
  simp only [BitVec.getLsbD_reverse, BitVec.getLsbD_xor, BitVec.getMsbD_xor]
theorem rev_shr (a : BitVec 32) : (a >>> 1).reverse = a.reverse <<< 1 := by
  apply BitVec.eq_of_getLsbD_eq
  intro i hi
  simp only [BitVec.getLsbD_reverse, BitVec.getLsbD_shiftLeft, BitVec.getMsbD, BitVec.getLsbD_ushiftRight]
  by_cases h : i < 1
  · obtain rfl : i = 0 := by omega
    simp
  · simp [h, hi]
    rw [show i - 1 < 32 by omega |> decide_eq_true]
    simp
    congr 1
    omega
theorem rev_poly : (0x82f63b78#32).reverse = 0x1edc6f41#32 := by decide +kernel
theorem rev_step (c : BitVec 32) : (stepP c).reverse = stepR c.reverse := by
  unfold stepP stepR
  have : c.reverse.getLsbD 31 = c.getLsbD 0 := by rw [BitVec.getLsbD_reverse]; simp [BitVec.getMsbD]
  rw [this]
  split
  · rw [rev_xor, rev_shr, rev_poly]
  · rw [rev_shr]
def iter8 {α : Type} (f : α → α) (k : Nat) (x : α) : α := match k with
  | 0 => x
  | k + 1 => f (iter8 f k x)
theorem rev_iter (k : Nat) (c : BitVec 32) : (iter8 stepP k c).reverse = iter8 stepR k c.reverse := by
  induction k with
  | zero => rfl
  | succ k ih => simp only [iter8]; rw [rev_step, ih]
def byteP (c : BitVec 32) (b : UInt8) : BitVec 32 := iter8 stepP 8 (c ^^^ BitVec.ofNat 32 b.toNat)
def byteR (c : BitVec 32) (b : UInt8) : BitVec 32 := iter8 stepR 8 (c ^^^ (BitVec.ofNat 32 b.toNat).reverse)
def crcP (c : BitVec 32) (l : List UInt8) : BitVec 32 := l.foldl byteP c
def crcR (c : BitVec 32) (l : List UInt8) : BitVec 32 := l.foldl byteR c
theorem rev_crc (l : List UInt8) : ∀ c, (crcP c l).reverse = crcR c.reverse l := by
  induction l with
  | nil => intro c; rfl
  | cons b l ih =>
    intro c
    show (crcP (byteP c b) l).reverse = crcR (byteR c.reverse b) l
    rw [ih]
    congr 1
    unfold byteP byteR
    rw [rev_iter, rev_xor]
/-- Bits turned round, one by one. -/
def turn (n : Nat) : Nat → Nat
  | 0 => 0
  | k + 1 => 2 * turn n k + (n >>> k) % 2
theorem turn_lt (n : Nat) : ∀ k, turn n k < 2 ^ k
  | 0 => by simp [turn]
  | k + 1 => by
    have := turn_lt n k
    simp only [turn, Nat.pow_succ]; omega
theorem turn_bit (n : Nat) : ∀ k i, (turn n k).testBit i = (decide (i < k) && n.testBit (k - 1 - i))
  | 0, i => by simp [turn]
  | k + 1, 0 => by
    simp [turn, Nat.testBit_eq_decide_div_mod_eq, Nat.shiftRight_eq_div_pow]
  | k + 1, i + 1 => by
    have ih := turn_bit n k i
    simp only [turn]
    rw [Nat.testBit_succ]
    have : (2 * turn n k + (n >>> k) % 2) / 2 = turn n k := by omega
    rw [this, ih]
    congr 1
    · simp
    · congr 1; omega
theorem turn_rev32 (c : BitVec 32) : BitVec.ofNat 32 (turn c.toNat 32) = c.reverse := by
  apply BitVec.eq_of_getLsbD_eq
  intro i hi
  rw [BitVec.getLsbD_ofNat, turn_bit, BitVec.getLsbD_reverse, BitVec.getMsbD]
  simp [hi, BitVec.getLsbD]
theorem turn_rev8 (b : Nat) (hb : b < 256) : BitVec.ofNat 32 (turn b 8 * 16777216) = (BitVec.ofNat 32 b).reverse := by
  apply BitVec.eq_of_getLsbD_eq
  intro i hi
  rw [BitVec.getLsbD_ofNat, BitVec.getLsbD_reverse, BitVec.getMsbD, BitVec.getLsbD_ofNat]
  rw [show 16777216 = 2 ^ 24 by decide, Nat.testBit_mul_two_pow, turn_bit]
  simp [hi]
  by_cases h : 24 ≤ i
  · simp [h]
    rw [show decide (i - 24 < 8) = true from decide_eq_true (by omega)]
    simp
    rw [show 7 - (i - 24) = 31 - i by omega]
    simp
    intro; omega
  · simp [h]
    have : b.testBit (31 - i) = false := Nat.testBit_lt_two_pow (Nat.lt_of_lt_of_le hb (by rw [show 256 = 2 ^ 8 by decide]; exact Nat.pow_le_pow_right (by decide) (by omega)))
    rw [this]; simp
end Go.Proofs.Yteilmbhnbmmcjaa.B
