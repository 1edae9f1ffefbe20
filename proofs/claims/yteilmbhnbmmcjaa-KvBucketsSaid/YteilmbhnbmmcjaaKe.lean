/- Helper: the pairs of a page, plainly. No condition. -/
import Derived.Test.YteilmbhnbmmcjaaKd
namespace Go.Proofs.Yteilmbhnbmmcjaa.B
open Go.RowKit Go.Proofs.YteilmbhnbmmcjaaW.PrintWords
theorem bytes_shrink (r : Rdr) (n : Int) : (r.bytes n).2.l.length ≤ r.l.length := by
  unfold Rdr.bytes
  split
  · exact Nat.le_refl _
  · split
    · simp
    · simp
theorem bytes_err (r : Rdr) (n : Int) (h : (r.bytes n).2.e = 0) : r.e = 0 := by
  unfold Rdr.bytes at h
  split at h
  · rename_i he; exact absurd h he
  · rename_i he; simpa using he
theorem bytes_one (r : Rdr) (h : (r.bytes 1).2.e = 0) : (r.bytes 1).2.l.length < r.l.length := by
  have he := bytes_err r 1 h
  unfold Rdr.bytes at h ⊢
  rw [if_neg (by simp [he])] at h ⊢
  split at h
  · simp at h
  · rename_i hb
    rw [if_neg hb]
    simp at hb ⊢
    omega
theorem bytes_got (r : Rdr) (n : Nat) : (r.bytes n).1.length ≤ n := by
  unfold Rdr.bytes
  split
  · simp
  · split
    · simp
    · simp; omega
theorem fail_err (r : Rdr) (x : Int) (hx : x ≠ 0) : (r.fail x).e ≠ 0 := by
  unfold Rdr.fail
  split
  · exact hx
  · assumption
theorem num_shrink (r : Rdr) (most : Nat) (h : (r.num most).2.e = 0) : (r.num most).2.l.length < r.l.length ∧ r.e = 0 := by
  unfold Rdr.num at h ⊢
  simp only at h ⊢
  by_cases h1 : (r.bytes 1).1 = []
  · rw [if_pos h1] at h ⊢
    exact ⟨bytes_one r h, bytes_err r 1 h⟩
  · rw [if_neg h1] at h ⊢
    by_cases h2 : 8 < hd0 (r.bytes 1).1
    · rw [if_pos h2] at h
      exact absurd h (fail_err _ _ (by decide))
    · rw [if_neg h2] at h ⊢
      by_cases h3 : ((r.bytes 1).2.bytes (hd0 (r.bytes 1).1)).2.e ≠ 0
      · rw [if_pos h3] at h
        exact absurd h h3
      · rw [if_neg h3] at h ⊢
        have h4 := bytes_err _ _ (by simpa using h3)
        have h5 := bytes_one r h4
        have h6 := bytes_err r 1 h4
        have h7 := bytes_shrink (r.bytes 1).2 (hd0 (r.bytes 1).1)
        split
        · rename_i h8
          rw [if_pos h8] at h
          exact absurd h (fail_err _ _ (by decide))
        · rename_i h8
          rw [if_neg h8] at h
          split
          · rename_i h9
            rw [if_pos h9] at h
            exact absurd h (fail_err _ _ (by decide))
          · refine ⟨?_, h6⟩
            show ((r.bytes 1).2.bytes (hd0 (r.bytes 1).1)).2.l.length < _
            omega
theorem text_shrink (r : Rdr) (most : Nat) (h : (r.text most).2.e = 0) : (r.text most).2.l.length < r.l.length := by
  unfold Rdr.text at h ⊢
  have h1 := bytes_err _ _ h
  have h2 := (num_shrink r most h1).1
  have h3 := bytes_shrink (r.num most).2 (r.num most).1
  omega
theorem text_len (r : Rdr) (most : Nat) : (r.text most).1.length ≤ most := by
  unfold Rdr.text
  have h1 := bytes_got (r.num most).2 (r.num most).1
  have h2 := num_le r most
  omega
theorem text_err (r : Rdr) (most : Nat) (h : (r.text most).2.e = 0) : r.e = 0 := by
  unfold Rdr.text at h
  exact (num_shrink r most (bytes_err _ _ h)).2
/-- The pairs of a page's bytes: the error, or they. -/
def badPair (at' : Nat) (out : List Pr) (k : List UInt8) : Bool := decide (k = []) || decide (bucket k ≠ at') || (decide (0 < out.length) && !kLt (prA out (out.length - 1)).k k)
def prsF (at' : Nat) : Nat → List UInt8 → List Pr → Int × List Pr
  | 0, _, out => (0, out)
  | f + 1, l, out =>
    if l = [] then (0, out)
    else
      let a := (Rdr.mk l 0).text 16
      let b := a.2.text 30
      if b.2.e ≠ 0 then (b.2.e, [])
      else if badPair at' out a.1 then (3, [])
      else prsF at' f b.2.l (out ++ [⟨a.1, b.1⟩])
def Good (at' : Nat) (l : List Pr) : Prop := Rises l ∧ ∀ x ∈ l, x.k ≠ [] ∧ bucket x.k = at' ∧ x.k.length ≤ 16 ∧ x.v.length ≤ 30
theorem good_nil (at' : Nat) : Good at' [] := ⟨fun i j _ h => by simp at h, fun x h => by cases h⟩
theorem prA_left (l : List Pr) (x : Pr) (i : Nat) (h : i < l.length) : prA (l ++ [x]) i = prA l i := by simp [prA, List.getD_eq_getElem?_getD, List.getElem?_append_left h]
theorem prA_last (l : List Pr) (x : Pr) : prA (l ++ [x]) l.length = x := by simp [prA, List.getD_eq_getElem?_getD]
theorem Rises.snoc {l : List Pr} {x : Pr} (h : Rises l) (hx : l.length = 0 ∨ kLt (prA l (l.length - 1)).k x.k = true) : Rises (l ++ [x]) := by
  intro i j hij hj
  simp at hj
  by_cases e : j < l.length
  · rw [prA_left l x i (by omega), prA_left l x j e]; exact h i j hij e
  · obtain rfl : j = l.length := by omega
    rw [prA_last, prA_left l x i hij]
    rcases hx with hx | hx
    · omega
    · by_cases e2 : i = l.length - 1
      · rw [e2]; exact hx
      · exact kLt_trans _ _ _ (h i (l.length - 1) (by omega) (by omega)) hx
theorem good_snoc {at' : Nat} {out : List Pr} {k v : List UInt8} (h : Good at' out) (hb : badPair at' out k = false) (hk : k.length ≤ 16) (hv : v.length ≤ 30) : Good at' (out ++ [⟨k, v⟩]) := by
  simp only [badPair, Bool.or_eq_false_iff, decide_eq_false_iff_not, Bool.and_eq_false_iff, Bool.not_eq_false', ne_eq, Decidable.not_not] at hb
  obtain ⟨⟨h1, h2⟩, h3⟩ := hb
  refine ⟨h.1.snoc (x := ⟨k, v⟩) ?_, fun x hx => ?_⟩
  · rcases h3 with h3 | h3
    · left; omega
    · right; exact h3
  · rcases List.mem_append.1 hx with hx | hx
    · exact h.2 x hx
    · obtain rfl := List.mem_singleton.1 hx
      exact ⟨h1, h2, hk, hv⟩
theorem prsF_good (at' : Nat) : ∀ (f : Nat) (l : List UInt8) (out : List Pr), Good at' out → (prsF at' f l out).1 = 0 → Good at' (prsF at' f l out).2
  | 0, _, _, h, _ => h
  | f + 1, l, out, h, he => by
    unfold prsF at he ⊢
    by_cases h1 : l = []
    · rw [if_pos h1]; exact h
    · rw [if_neg h1] at he ⊢
      simp only at he ⊢
      split
      · rename_i h2; rw [if_pos h2] at he; exact absurd he h2
      · rename_i h2
        rw [if_neg h2] at he
        split
        · rename_i h3; rw [if_pos h3] at he; cases he
        · rename_i h3
          rw [if_neg h3] at he
          exact prsF_good at' f _ _ (good_snoc h (by simpa using h3) (text_len _ _) (text_len _ _)) he
end Go.Proofs.Yteilmbhnbmmcjaa.B
