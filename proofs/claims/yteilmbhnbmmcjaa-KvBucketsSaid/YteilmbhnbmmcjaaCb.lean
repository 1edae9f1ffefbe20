/- Helper: the reader of numbers and texts, walked. No condition. -/
import Derived.Test.YteilmbhnbmmcjaaCa
namespace Go.Proofs.Yteilmbhnbmmcjaa.B
open Go.RowKit Go.Proofs.YteilmbhnbmmcjaaW.PrintWords
/-- A reader: the bytes that are left, and the first error. -/
structure Rdr where
  l : List UInt8
  e : Int
def RdAt (w : World) (g : Nat) (r : Rdr) : Prop := Blk w g #[.string (bs r.l), .int .i64 r.e] 129
def only (g : Nat) : Nat → Prop := fun i => i = g
theorem Mut.cellOf {g : Nat} {w w' : World} (h : Mut (only g) w w') (i : Nat) (v : Value) : Mut (only g) w (w'.setCell ⟨g, i, none⟩ v) := h.set (p := ⟨g, i, none⟩) rfl v
theorem RdAt.c0 {w : World} {g : Nat} {r : Rdr} (h : RdAt w g r) : w.cell? ⟨g, 0, none⟩ = some (.string (bs r.l)) := by rw [Blk.cell h]; rfl
theorem RdAt.c1 {w : World} {g : Nat} {r : Rdr} (h : RdAt w g r) : w.cell? ⟨g, 1, none⟩ = some (.int .i64 r.e) := by rw [Blk.cell h]; rfl
theorem RdAt.f {w : World} {g : Nat} {r : Rdr} (h : RdAt w g r) (i : Nat) : w.frozen? ⟨g, i, none⟩ = false := Blk.free h i
theorem RdAt.s0 {w : World} {g : Nat} {r : Rdr} (h : RdAt w g r) (l : List UInt8) : RdAt (w.setCell ⟨g, 0, none⟩ (.string (bs l))) g ⟨l, r.e⟩ := by
  have := Blk.set h 0 (.string (bs l)); simpa [RdAt] using this
theorem RdAt.s1 {w : World} {g : Nat} {r : Rdr} (h : RdAt w g r) (e : Int) : RdAt (w.setCell ⟨g, 1, none⟩ (.int .i64 e)) g ⟨r.l, e⟩ := by
  have := Blk.set h 1 (.int .i64 e); simpa [RdAt] using this
theorem bs_extract (l : List UInt8) (a b : Nat) : (bs l).extract a b = bs ((l.take b).drop a) := by
  apply ByteArray.ext
  simp [bs, List.take_drop]
  rcases Nat.le_total a b with h | h
  · rw [Nat.add_sub_cancel' h]
  · rw [List.drop_eq_nil_of_le (by simp; omega), List.drop_eq_nil_of_le (by simp; omega)]
theorem bs_nil : bs [] = { data := #[] } := rfl
def Rdr.fail (r : Rdr) (e : Int) : Rdr := if r.e = 0 then ⟨[], e⟩ else r
set_option maxRecDepth 100000
set_option maxHeartbeats 800000
theorem new_any (l : List UInt8) (w : World) : Calls Try.prog 39 #[.string (bs l)] w fun e w' => e = .returned (.pointer (some ⟨w.heap.size, 0, none⟩)) ∧ RdAt w' w.heap.size ⟨l, 0⟩ ∧ Below w.heap.size w w' := by
  go_enter Try.func39, Try.ntmps39
  go_wp2
  go_ret
  exact ⟨rfl, Blk.new w _ 129, (Below.refl _ _).alloc (Nat.le_refl _) _⟩
theorem err_any (r : Rdr) (g : Nat) (w : World) (h : RdAt w g r) : Calls Try.prog 71 #[.pointer (some ⟨g, 0, none⟩)] w fun e w' => e = .returned (.int .i64 r.e) ∧ w = w' := by
  have h1 := h.c1
  go_enter Try.func71, Try.ntmps71
  go_wp2
  go_ret
  exact ⟨rfl, rfl⟩
theorem left_any (r : Rdr) (g : Nat) (w : World) (h : RdAt w g r) : Calls Try.prog 77 #[.pointer (some ⟨g, 0, none⟩)] w fun e w' => e = .returned (.int .i64 r.l.length) ∧ w = w' := by
  have h1 := h.c0
  go_enter Try.func77, Try.ntmps77
  go_wp2
  go_ret
  exact ⟨by simp [bs_size], rfl⟩
theorem fail_any (r : Rdr) (x : Int) (g : Nat) (w : World) (h : RdAt w g r) : Calls Try.prog 69 #[.pointer (some ⟨g, 0, none⟩), .int .i64 x] w fun e w' => e = .returned (.tuple #[]) ∧ RdAt w' g (r.fail x) ∧ Mut (only g) w w' := by
  have h0 := h.c0
  have h1 := h.c1
  have hf := h.f 0
  have hf1 := h.f 1
  have hm := Mut.refl (only g) w
  by_cases he : r.e = 0
  · go_enter Try.func69, Try.ntmps69
    rw [he] at h1
    go_wp2
    go_end0
    refine ⟨rfl, ?_, (hm.cellOf _ _).cellOf _ _⟩
    have := (h.s1 x).s0 []
    rw [Rdr.fail, if_pos he]
    exact this
  · have hb : (r.e == 0) = false := beq_eq_false_iff_ne.2 he
    go_enter Try.func69, Try.ntmps69
    go_wp2
    go_end0
    refine ⟨rfl, ?_, hm⟩
    rw [Rdr.fail, if_neg he]
    exact h
def Rdr.bytes (r : Rdr) (n : Int) : List UInt8 × Rdr := if r.e ≠ 0 then ([], r) else if n < 0 ∨ n > r.l.length then ([], ⟨[], 2⟩) else (r.l.take n.toNat, ⟨r.l.drop n.toNat, 0⟩)
theorem bytes_any (r : Rdr) (n : Int) (g : Nat) (w : World) (h : RdAt w g r) (hn : -9223372036854775808 ≤ n ∧ n ≤ 9223372036854775807) : Calls Try.prog 68 #[.pointer (some ⟨g, 0, none⟩), .int .i64 n] w fun e w' => e = .returned (.string (bs (r.bytes n).1)) ∧ RdAt w' g (r.bytes n).2 ∧ Mut (only g) w w' := by
  have h0 := h.c0
  have h1 := h.c1
  have hf := h.f 0
  have hm := Mut.refl (only g) w
  have Hh := Lib.hid h
  clear h
  by_cases he : r.e = 0
  · have hb : (r.e != 0) = false := by simp [he]
    by_cases hneg : n < 0
    · go_enter Try.func68, Try.ntmps68
      go_wp2_with fail
      refine (err_any r g w Hh.out).mono ?_
      rintro e w1 ⟨rfl, rfl⟩
      go_wp2_with fail
      refine (fail_any r 2 g w Hh.out).mono ?_
      rintro e w1 ⟨rfl, h2, hm2⟩
      go_wp2
      go_ret
      refine ⟨?_, ?_, hm2⟩
      · simp [Rdr.bytes, he, hneg]; rfl
      · simp only [Rdr.bytes, he, hneg]; simpa [Rdr.fail, he] using h2
    · by_cases hbig : n > r.l.length
      · go_enter Try.func68, Try.ntmps68
        have hsz := bs_size r.l
        go_wp2_with fail
        refine (err_any r g w Hh.out).mono ?_
        rintro e w1 ⟨rfl, rfl⟩
        go_wp2_with fail
        refine (fail_any r 2 g w Hh.out).mono ?_
        rintro e w1 ⟨rfl, h2, hm2⟩
        go_wp2
        go_ret
        refine ⟨?_, ?_, hm2⟩
        · simp [Rdr.bytes, he, hbig]; rfl
        · simp only [Rdr.bytes, he, hbig]; simpa [Rdr.fail, he] using h2
      · obtain ⟨m, rfl⟩ := Int.eq_ofNat_of_zero_le (by omega : 0 ≤ n)
        have hsz := bs_size r.l
        go_enter Try.func68, Try.ntmps68
        go_wp2_with fail
        refine (err_any r g w Hh.out).mono ?_
        rintro e w1 ⟨rfl, rfl⟩
        go_wp2
        go_ret
        refine ⟨?_, ?_, hm.cellOf _ _⟩
        · have e : (r.bytes (m : Int)).1 = r.l.take m := by
            unfold Rdr.bytes
            rw [if_neg (by simp [he]), if_neg (by omega)]
            simp
          rw [e, bs_extract]
          simp
        · rw [bs_extract]
          have := Hh.out.s0 ((r.l.take r.l.length).drop m)
          simp only [List.take_length] at this
          simp only [List.take_length]
          have e : (r.bytes (m : Int)).2 = ⟨r.l.drop m, r.e⟩ := by
            unfold Rdr.bytes
            rw [if_neg (by simp [he]), if_neg (by omega)]
            simp [he]
          rw [e]; exact this
  · have hb : (r.e != 0) = true := bne_iff_ne.2 he
    go_enter Try.func68, Try.ntmps68
    go_wp2_with fail
    refine (err_any r g w Hh.out).mono ?_
    rintro e w1 ⟨rfl, rfl⟩
    go_wp2
    go_ret
    refine ⟨?_, ?_, hm⟩
    · simp [Rdr.bytes, he]; rfl
    · simpa [Rdr.bytes, he] using Hh.out
/-- The number of bytes, the lowest first. -/
def leV : List UInt8 → Nat
  | [] => 0
  | b :: l => b.toNat + 256 * leV l
theorem leV_lt : ∀ l : List UInt8, leV l < 256 ^ l.length
  | [] => by simp [leV]
  | b :: l => by
    have := leV_lt l
    have := b.toNat_lt
    simp only [leV, List.length_cons, Nat.pow_succ]; omega
theorem wrap_u64 (n : Nat) (h : n < 18446744073709551616) : IntKind.u64.wrap (n : Int) = n := by
  simp [IntKind.wrap, IntKind.bits, IntKind.signed]; omega
theorem or8 (v b : Nat) (hv : v < 72057594037927936) (hb : b < 256) : bits BinOp.or IntKind.u64 (IntKind.u64.wrap ((v : Int) * 256)) (IntKind.u64.wrap (b : Int)) = ((b + 256 * v : Nat) : Int) := by
  have e1 : ((v : Int) * 256) = ((v * 256 : Nat) : Int) := by simp
  rw [e1, wrap_u64 _ (by omega), wrap_u64 _ (by omega)]
  have e2 : (v * 256) ||| b = b + 256 * v := by
    have := Nat.shiftLeft_add_eq_or_of_lt (a := v) (b := b) (i := 8) (by omega)
    rw [Nat.shiftLeft_eq] at this
    have h8 : (2 : Nat) ^ 8 = 256 := by decide
    rw [h8] at this
    omega
  have e3 : (BitVec.ofInt 64 ((v * 256 : Nat) : Int) ||| BitVec.ofInt 64 (b : Int)).toNat = b + 256 * v := by
    simp only [BitVec.toNat_or, BitVec.ofInt_natCast, BitVec.toNat_ofNat]
    rw [Nat.mod_eq_of_lt (by omega), Nat.mod_eq_of_lt (by omega), e2]
  show IntKind.u64.wrap _ = _
  have e4 := wrap_u64 (b + 256 * v) (by omega)
  rw [← e3] at e4 ⊢
  exact e4
theorem value_any (l : List UInt8) (hl : l.length ≤ 8) (w : World) : Calls Try.prog 70 #[.string (bs l)] w fun e w' => e = .returned (.int .u64 (leV l)) ∧ w = w' := by
  have hsz := bs_size l
  go_enter Try.func70, Try.ntmps70
  go_wp2
  go_loop [3, 4] (fun x y => ∃ k : Nat, k ≤ l.length ∧ y = .int .i64 ((k : Int) - 1) ∧ x = .int .u64 (leV (l.drop k))) (fun _ y => (intOf y + 1).toNat)
  case atStart => exact ⟨l.length, Nat.le_refl _, by simp, by simp [leV]⟩
  case round =>
    obtain ⟨k, hk, rfl, rfl⟩ := hrel
    by_cases hp : 0 < k
    · obtain ⟨j, rfl⟩ : ∃ j, k = j + 1 := ⟨k - 1, by omega⟩
      go_wp2
      refine ⟨⟨j, by omega, rfl, ?_⟩, ?_⟩
      · have hd : l.drop j = l[j] :: l.drop (j + 1) := List.drop_eq_getElem_cons (by omega)
        have hv := leV_lt (l.drop (j + 1))
        have hv' : leV (l.drop (j + 1)) < 72057594037927936 := Nat.lt_of_lt_of_le hv (by
          have : (l.drop (j + 1)).length ≤ 7 := by simp; omega
          exact Nat.le_trans (Nat.pow_le_pow_right (by decide) this) (by decide))
        show Value.int IntKind.u64 (bits BinOp.or IntKind.u64 (IntKind.u64.wrap (↑(leV (List.drop (j + 1) l)) * 256)) (IntKind.u64.wrap (l[j].toNat : Int))) = _
        rw [or8 _ _ hv' (l[j].toNat_lt), hd]
        rfl
      · simp [intOf]
    · have h0 : k = 0 := by omega
      subst h0
      go_wp2
      go_ret
      exact ⟨by simp, rfl⟩
end Go.Proofs.Yteilmbhnbmmcjaa.B

