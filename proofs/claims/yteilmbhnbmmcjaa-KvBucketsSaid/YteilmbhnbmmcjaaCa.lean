/- Helper: numbers and texts as bytes, walked. No condition. -/
import Derived.Test.YteilmbhnbmmcjaaBa
namespace Go.Proofs.Yteilmbhnbmmcjaa.B
open Go.RowKit Go.Proofs.YteilmbhnbmmcjaaW.PrintWords
theorem info5 : (Try.prog.info? 5).map (fun i => (i.zero, i.size, i.bytes)) = some (some (.int .u8 0), 1, 1) := by kernel_rfl
/-- A number's bytes, the lowest first, without those behind the last that is not 0. -/
def leL (n : Nat) : List UInt8 := if h : n = 0 then [] else UInt8.ofNat n :: leL (n / 256)
termination_by n
decreasing_by omega
theorem leL_zero : leL 0 = [] := by rw [leL]; rfl
theorem leL_pos {n : Nat} (h : 0 < n) : leL n = UInt8.ofNat n :: leL (n / 256) := by rw [leL, dif_neg (by omega)]
theorem leL_len : ∀ k n : Nat, n < 256 ^ k → (leL n).length ≤ k
  | 0, n, h => by
    have : n = 0 := by simpa using h
    subst this; rw [leL_zero]; simp
  | k + 1, n, h => by
    by_cases h0 : n = 0
    · subst h0; rw [leL_zero]; simp
    · rw [leL_pos (by omega)]
      have := leL_len k (n / 256) (Nat.div_lt_of_lt_mul (by rw [Nat.pow_succ] at h; omega))
      simp; omega
/-- A number: how many bytes it has, then these. -/
def numL (n : Nat) : List UInt8 := UInt8.ofNat (leL n).length :: leL n
def textL (s : List UInt8) : List UInt8 := numL s.length ++ s
def encB (b : UInt8) : Value := .int .u8 (b.toNat : Int)
theorem encB_one (b : UInt8) : (encB b).oneCell' = true := rfl
/-- A row of bytes that the call itself owns. -/
def Row (w : World) (base : Nat) (v : Value) (xs : List UInt8) : Prop := w.ownsRow base 5 1 v xs.length (encs encB xs)
theorem Row.form {w : World} {base : Nat} {v : Value} {xs : List UInt8} (h : Row w base v xs) (h0 : 0 < xs.length) : ∃ g cap, v = .slice (some ⟨g, 0, none⟩) xs.length cap ∧ base ≤ g ∧ g < w.heap.size := World.ownsRow.form h h0
theorem Row.cell {w : World} {base g cap : Nat} {xs : List UInt8} (h : Row w base (.slice (some ⟨g, 0, none⟩) xs.length cap) xs) (i : Nat) (hi : i < xs.length) : w.cell? ⟨g, i, none⟩ = some (encB xs[i]) ∧ w.frozen? ⟨g, i, none⟩ = false := by
  have := own_at_of (enc := encB) (d := 0) h (i : Int) (by omega) (by omega)
  have e : rdOf 0 xs (i : Int) = xs[i] := by simp [rdOf, List.getD_eq_getElem?_getD, List.getElem?_eq_getElem hi]
  rw [e] at this
  simpa using this
theorem Row.store {w : World} {base g cap : Nat} {xs : List UInt8} (h : Row w base (.slice (some ⟨g, 0, none⟩) xs.length cap) xs) (i : Nat) (x : UInt8) : Row (w.setCell ⟨g, i, none⟩ (encB x)) base (.slice (some ⟨g, 0, none⟩) xs.length cap) (xs.set i x) := by
  have := (own_store_of (enc := encB) h (i : Int) x).1
  unfold Row
  simpa using this
theorem Row.string {w : World} {base g cap : Nat} {xs : List UInt8} (h : Row w base (.slice (some ⟨g, 0, none⟩) xs.length cap) xs) (src : TypeId) (hs : Try.prog.underlying src = some (.slice 5)) : (convert src 9 (.slice (some ⟨g, 0, none⟩) xs.length cap)).run Try.prog w = .ok (.string (bs xs)) w := by
  refine run_convert_bytes_back w src 9 5 _ cap xs hs (by kernel_rfl) (by kernel_rfl) ?_
  intro j hj
  have := (h.cell j hj).1
  simp only [encB] at this
  by_cases h0 : j = 0
  · subst h0; simpa [Addr.add] using this
  · simpa [Addr.add, h0] using this
theorem Row.lit (w : World) (base : Nat) (xs : List UInt8) (hb : base ≤ w.heap.size) (hm : xs.length ≤ 9223372036854775807) : Row (w.alloc (.cells (encs encB xs).toArray 5)) base (.slice (some ⟨w.heap.size, 0, none⟩) xs.length xs.length) xs := own_lit_of w base 5 xs hb hm
def NumRel (n : Nat) (w : World) (x v : Value) (wr : World) : Prop :=
  ∃ (done : List UInt8) (rest : Nat), leL n = done ++ leL rest ∧ rest ≤ n ∧ x = .int .u64 rest ∧ Row wr w.heap.size v (UInt8.ofNat done.length :: done) ∧ Below w.heap.size w wr
set_option maxRecDepth 100000 in
set_option maxHeartbeats 800000 in
theorem num_any (n : Nat) (hn : n < 18446744073709551616) (w : World) : Calls Try.prog 38 #[.int .u64 (n : Int)] w fun e w' => e = .returned (.string (bs (numL n))) ∧ Below w.heap.size w w' := by
  go_enter Try.func38, Try.ntmps38
  go_wp2
  go_loopw [0, 3] (fun x v wr => NumRel n w x v wr) (fun x _ _ => (intOf x).toNat)
  case atStart => exact ⟨[], n, rfl, Nat.le_refl _, rfl, Row.lit w w.heap.size [0] (Nat.le_refl _) (by decide), (Below.refl _ _).alloc (Nat.le_refl _) _⟩
  case round =>
    obtain ⟨done, rest, he, hle, rfl, hR, hB⟩ := hrel
    have HR := Lib.hid hR
    have HB := Lib.hid hB
    have HE := Lib.hid he
    have hl := leL_len 8 n (by omega)
    have hdl : done.length + (leL rest).length = (leL n).length := by rw [he]; simp
    clear hR hB he
    by_cases hp : 0 < rest
    · have Hp := Lib.hid (leL_pos hp)
      have hpl : (leL rest).length = (leL (rest / 256)).length + 1 := by rw [leL_pos hp]; simp
      have hxb : (Value.int .u8 ((rest : Int) % 256)) = encB (UInt8.ofNat rest) := by simp [encB]
      have Hxb := Lib.hid hxb
      clear hxb
      go_wp2_with (first
        | (at_builtin; (refine print_append_of (w0 := w) encB w.heap.size rfl (.tmp 9) (.tmp 12) 126 5 (.int .u8 0) 1 rfl Try.underlying126 info5 rfl (by decide) _ (UInt8.ofNat done.length :: done) (UInt8.ofNat rest) rfl rfl rfl HR.out HB.out ?s1 ?l1 ?_); (case s1 => exact HB.out.size); (case l1 => simp; omega); intro v1 w2 hR2 hB2 hg hat; have HR2 := Lib.hid (show Row w2 w.heap.size v1 (UInt8.ofNat done.length :: (done ++ [UInt8.ofNat rest])) from hR2); have HB2 := Lib.hid hB2; clear hR2 hB2 hg hat; (obtain ⟨g, cap, rfl, hgb, hgl⟩ := HR2.out.form (by simp)); have HC := HR2.out.cell 0 (by simp); simp only [List.getElem_cons_zero, encB] at HC; obtain ⟨HC1, HC2⟩ := HC)
        )
      refine ⟨⟨done ++ [UInt8.ofNat rest], rest / 256, ?_, by omega, by simp, ?_, ?_⟩, ?_⟩
      · rw [HE.out, Hp.out]; simp
      · have := HR2.out.store 0 (UInt8.ofNat done.length + 1)
        have e : encB (UInt8.ofNat done.length + 1) = Value.int .u8 ((done.length : Int) % 256 + 1) := by
          simp [encB]; omega
        rw [e] at this
        have e2 : UInt8.ofNat (done ++ [UInt8.ofNat rest]).length = UInt8.ofNat done.length + 1 := by simp [UInt8.ofNat_add]
        rw [e2]
        simpa using this
      · exact HB2.out.setCell hgb _
      · simp [intOf]; omega
    · obtain ⟨g, cap, rfl, hgb, hgl⟩ := HR.out.form (by simp)
      have hst := HR.out.string 126 (by kernel_rfl)
      have h0 : rest = 0 := by omega
      have hb : bs (UInt8.ofNat done.length :: done) = bs (numL n) := by
        have := HE.out
        rw [h0, leL_zero, List.append_nil] at this
        unfold numL
        rw [this]
      rw [hb] at hst
      simp only [List.length_cons] at hst ⊢
      go_wp2
      go_ret
      exact ⟨rfl, HB.out⟩
end Go.Proofs.Yteilmbhnbmmcjaa.B
