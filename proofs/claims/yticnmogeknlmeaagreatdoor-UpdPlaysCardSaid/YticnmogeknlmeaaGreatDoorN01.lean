/- Helper: worlds that keep all blocks but some; strings as lists of bytes. numbers and texts as bytes, walked. the reader of numbers and texts, walked. the reader of numbers and texts, walked, on. texts, and the end, walked; what was written is read. a statement whose order is open, all of whose operations read what was there, or call what hands back one value and leaves what was there alone: one walk serves every order. No condition. -/
import Derived.Test.YticnmogeknlmeaaGreatDoorProg
import Derived.Test.YticnmogeknlmeaaGreatDoorNWords
import Derived.WalkKit
import Derived.WalkLawsBesides
import Derived.Lib.Hide
import Derived.Deep.Quiet
import Derived.Deep.QuietTactic
import Derived.BigQuiet
import Derived.Deep.DeepCutAuto
import Derived.Deep.RegionHeld3
import Derived.StillTailTactics
import Derived.KernelRfl
import Derived.Below
import Derived.WalkSmall
namespace Go.Proofs.YticnmogeknlmeaaGreatDoor.B
open Go.RowKit Go.Proofs.YticnmogeknlmeaaGreatDoorW.PrintWords
/-- All blocks that were there are there yet, but for some. -/
structure Mut (S : Nat → Prop) (w w' : World) : Prop where
  os : w'.os = w.os
  tape : w'.tape = w.tape
  output : w'.output = w.output
  size : w.heap.size ≤ w'.heap.size
  block : ∀ i, i < w.heap.size → ¬ S i → w'.heap[i]? = w.heap[i]?
theorem Mut.refl (S : Nat → Prop) (w : World) : Mut S w w := ⟨rfl, rfl, rfl, Nat.le_refl _, fun _ _ _ => rfl⟩
theorem Mut.trans {S : Nat → Prop} {w w1 w2 : World} (h : Mut S w w1) (k : Mut S w1 w2) : Mut S w w2 :=
  ⟨k.os.trans h.os, k.tape.trans h.tape, k.output.trans h.output, Nat.le_trans h.size k.size, fun i hi hs => (k.block i (Nat.lt_of_lt_of_le hi h.size) hs).trans (h.block i hi hs)⟩
theorem Mut.mono {S S' : Nat → Prop} {w w' : World} (h : Mut S w w') (hS : ∀ i, i < w.heap.size → S i → S' i) : Mut S' w w' :=
  ⟨h.os, h.tape, h.output, h.size, fun i hi hs => h.block i hi (fun k => hs (hS i hi k))⟩
theorem Mut.of_below {S : Nat → Prop} {w w' : World} (h : Below w.heap.size w w') : Mut S w w' := ⟨h.os, h.tape, h.output, h.size, fun i hi _ => h.block i hi⟩
theorem Mut.below {S : Nat → Prop} {B : Nat} {w w' : World} (h : Mut S w w') (hB : B ≤ w.heap.size) (hS : ∀ i, i < B → ¬ S i) : Below B w w' := ⟨h.os, h.tape, h.output, h.size, fun i hi => h.block i (Nat.lt_of_lt_of_le hi hB) (hS i hi)⟩
theorem Mut.drew {S : Nat → Prop} {w w' : World} (h : Mut S w w') (n : Nat) : Mut S w (w'.drewN n) := ⟨h.os, h.tape, h.output, h.size, h.block⟩
theorem Mut.alloc {S : Nat → Prop} {w w' : World} (h : Mut S w w') (o : Obj) : Mut S w (w'.alloc o) := h.trans (Mut.of_below ((Below.refl _ _).alloc (Nat.le_refl _) o))
theorem Mut.set {S : Nat → Prop} {w w' : World} (h : Mut S w w') {p : Addr} (hp : S p.block) (v : Value) : Mut S w (w'.setCell p v) := by
  refine h.trans ⟨rfl, rfl, rfl, ?_, fun i _ hs => ?_⟩
  · simp [World.setCell]
  · exact Below.heap_setCell w' p v i (fun e => hs (e ▸ hp))
theorem Mut.cell {S : Nat → Prop} {w w' : World} (h : Mut S w w') {a : Addr} {v : Value} (hc : w.cell? a = some v) (hs : ¬ S a.block) : w'.cell? a = some v := by
  have := h.block a.block (World.block_lt_of_cell? w a hc) hs
  unfold World.cell? at *
  rw [this]
  exact hc
/-- A block of cells, whole. -/
def Blk (w : World) (g : Nat) (cs : Array Value) (t : TypeId) : Prop := w.heap[g]? = some (.cells cs t (0, 0))
theorem Blk.lt {w : World} {g : Nat} {cs : Array Value} {t : TypeId} (h : Blk w g cs t) : g < w.heap.size := (Array.getElem?_eq_some_iff.1 h).1
theorem Blk.cell {w : World} {g : Nat} {cs : Array Value} {t : TypeId} (h : Blk w g cs t) (i : Nat) : w.cell? ⟨g, i, none⟩ = cs[i]? := by
  have h' : w.heap[g]? = some (.cells cs t (0, 0)) := h
  simp [World.cell?, h']
theorem Blk.free {w : World} {g : Nat} {cs : Array Value} {t : TypeId} (h : Blk w g cs t) (i : Nat) : w.frozen? ⟨g, i, none⟩ = false := by
  have h' : w.heap[g]? = some (.cells cs t (0, 0)) := h
  simp [World.frozen?, h']
theorem Blk.kept {w w' : World} {S : Nat → Prop} {g : Nat} {cs : Array Value} {t : TypeId} (h : Blk w g cs t) (hm : Mut S w w') (hs : ¬ S g) : Blk w' g cs t := (hm.block g h.lt hs).trans h
theorem Blk.below {w w' : World} {g : Nat} {cs : Array Value} {t : TypeId} (h : Blk w g cs t) (hb : Below w.heap.size w w') : Blk w' g cs t := (hb.block g h.lt).trans h
theorem Blk.new (w : World) (cs : Array Value) (t : TypeId) : Blk (w.alloc (.cells cs t)) w.heap.size cs t := (MapKept.heap_alloc w _).1
theorem Blk.set {w : World} {g : Nat} {cs : Array Value} {t : TypeId} (h : Blk w g cs t) (i : Nat) (v : Value) : Blk (w.setCell ⟨g, i, none⟩ v) g (cs.setIfInBounds i v) t := blk_set h i v
theorem Blk.far {w : World} {g : Nat} {cs : Array Value} {t : TypeId} (h : Blk w g cs t) {p : Addr} (hp : g ≠ p.block) (v : Value) : Blk (w.setCell p v) g cs t := blk_far h hp v
/-- A string by its bytes. -/
def bs (l : List UInt8) : ByteArray := ⟨l.toArray⟩
theorem bs_size (l : List UInt8) : (bs l).size = l.length := by simp [bs, ByteArray.size]
theorem bs_list (l : List UInt8) : (bs l).data.toList = l := by simp [bs]
theorem bs_of (s : ByteArray) : bs s.data.toList = s := by simp [bs]
theorem bs_app (a b : List UInt8) : bs a ++ bs b = bs (a ++ b) := by
  apply ByteArray.ext
  simp [bs, ByteArray.data_append]
end Go.Proofs.YticnmogeknlmeaaGreatDoor.B
namespace Go.Proofs.YticnmogeknlmeaaGreatDoor.B
open Go.RowKit Go.Proofs.YticnmogeknlmeaaGreatDoorW.PrintWords
theorem info5 : (Tryz.prog.info? 5).map (fun i => (i.zero, i.size, i.bytes)) = some (some (.int .u8 0), 1, 1) := by kernel_rfl
/-- A number's bytes, the lowest first, without those behind the last that is not 0. -/
def leL (n : Nat) : List UInt8 := if h : n = 0 then [] else UInt8.ofNat n :: leL (n / 256)
termination_by n
decreasing_by omega
theorem leL_zero : leL 0 = [] := by rw [leL]; rfl
theorem leL_pos {n : Nat} (h : 0 < n) : leL n = UInt8.ofNat n :: leL (n / 256) := by rw [leL, dif_neg (by omega)]
theorem leL_len : ∀ k n : Nat, n < 256 ^ k → (leL n).length ≤ k
  | 0, n, h => by
    have : n = 0 := by simpa using h
    subst this; rw [leL_zero]; simp
  | k + 1, n, h => by
    by_cases h0 : n = 0
    · subst h0; rw [leL_zero]; simp
    · rw [leL_pos (by omega)]
      have := leL_len k (n / 256) (Nat.div_lt_of_lt_mul (by rw [Nat.pow_succ] at h; omega))
      simp; omega
/-- A number: how many bytes it has, then these. -/
def numL (n : Nat) : List UInt8 := UInt8.ofNat (leL n).length :: leL n
def encB (b : UInt8) : Value := .int .u8 (b.toNat : Int)
theorem encB_one (b : UInt8) : (encB b).oneCell' = true := rfl
/-- A row of bytes that the call itself owns. -/
def Row (w : World) (base : Nat) (v : Value) (xs : List UInt8) : Prop := w.ownsRow base 5 1 v xs.length (encs encB xs)
theorem Row.form {w : World} {base : Nat} {v : Value} {xs : List UInt8} (h : Row w base v xs) (h0 : 0 < xs.length) : ∃ g cap, v = .slice (some ⟨g, 0, none⟩) xs.length cap ∧ base ≤ g ∧ g < w.heap.size := World.ownsRow.form h h0
theorem Row.cell {w : World} {base g cap : Nat} {xs : List UInt8} (h : Row w base (.slice (some ⟨g, 0, none⟩) xs.length cap) xs) (i : Nat) (hi : i < xs.length) : w.cell? ⟨g, i, none⟩ = some (encB xs[i]) ∧ w.frozen? ⟨g, i, none⟩ = false := by
  have := own_at_of (enc := encB) (d := 0) h (i : Int) (by omega) (by omega)
  have e : rdOf 0 xs (i : Int) = xs[i] := by simp [rdOf, List.getD_eq_getElem?_getD, List.getElem?_eq_getElem hi]
  rw [e] at this
  simpa using this
theorem Row.store {w : World} {base g cap : Nat} {xs : List UInt8} (h : Row w base (.slice (some ⟨g, 0, none⟩) xs.length cap) xs) (i : Nat) (x : UInt8) : Row (w.setCell ⟨g, i, none⟩ (encB x)) base (.slice (some ⟨g, 0, none⟩) xs.length cap) (xs.set i x) := by
  have := (own_store_of (enc := encB) h (i : Int) x).1
  unfold Row
  simpa using this
theorem Row.string {w : World} {base g cap : Nat} {xs : List UInt8} (h : Row w base (.slice (some ⟨g, 0, none⟩) xs.length cap) xs) (src : TypeId) (hs : Tryz.prog.underlying src = some (.slice 5)) : (convert src 9 (.slice (some ⟨g, 0, none⟩) xs.length cap)).run Tryz.prog w = .ok (.string (bs xs)) w := by
  refine run_convert_bytes_back w src 9 5 _ cap xs hs (by kernel_rfl) (by kernel_rfl) ?_
  intro j hj
  have := (h.cell j hj).1
  simp only [encB] at this
  by_cases h0 : j = 0
  · subst h0; simpa [Addr.add] using this
  · simpa [Addr.add, h0] using this
theorem Row.lit (w : World) (base : Nat) (xs : List UInt8) (hb : base ≤ w.heap.size) (hm : xs.length ≤ 9223372036854775807) : Row (w.alloc (.cells (encs encB xs).toArray 5)) base (.slice (some ⟨w.heap.size, 0, none⟩) xs.length xs.length) xs := own_lit_of w base 5 xs hb hm
def NumRel (n : Nat) (w : World) (x v : Value) (wr : World) : Prop :=
  ∃ (done : List UInt8) (rest : Nat), leL n = done ++ leL rest ∧ rest ≤ n ∧ x = .int .u64 rest ∧ Row wr w.heap.size v (UInt8.ofNat done.length :: done) ∧ Below w.heap.size w wr
set_option maxRecDepth 100000 in
set_option maxHeartbeats 800000 in
theorem num_any (n : Nat) (hn : n < 18446744073709551616) (w : World) : Calls Tryz.prog 71 #[.int .u64 (n : Int)] w fun e w' => e = .returned (.string (bs (numL n))) ∧ Below w.heap.size w w' := by
  go_enter Tryz.func71, Tryz.ntmps71
  go_wp2
  go_loopw [0, 3] (fun x v wr => NumRel n w x v wr) (fun x _ _ => (intOf x).toNat)
  case atStart => exact ⟨[], n, rfl, Nat.le_refl _, rfl, Row.lit w w.heap.size [0] (Nat.le_refl _) (by decide), (Below.refl _ _).alloc (Nat.le_refl _) _⟩
  case round =>
    obtain ⟨done, rest, he, hle, rfl, hR, hB⟩ := hrel
    have HR := Lib.hid hR
    have HB := Lib.hid hB
    have HE := Lib.hid he
    have hl := leL_len 8 n (by omega)
    have hdl : done.length + (leL rest).length = (leL n).length := by rw [he]; simp
    clear hR hB he
    by_cases hp : 0 < rest
    · have Hp := Lib.hid (leL_pos hp)
      have hpl : (leL rest).length = (leL (rest / 256)).length + 1 := by rw [leL_pos hp]; simp
      have hxb : (Value.int .u8 ((rest : Int) % 256)) = encB (UInt8.ofNat rest) := by simp [encB]
      have Hxb := Lib.hid hxb
      clear hxb
      go_wp2_with (first
        | (at_builtin; (refine print_append_of (w0 := w) encB w.heap.size rfl (.tmp 9) (.tmp 12) 60 5 (.int .u8 0) 1 rfl Tryz.underlying60 info5 rfl (by decide) _ (UInt8.ofNat done.length :: done) (UInt8.ofNat rest) rfl rfl rfl HR.out HB.out ?s1 ?l1 ?_); (case s1 => exact HB.out.size); (case l1 => simp; omega); intro v1 w2 hR2 hB2 hg hat; have HR2 := Lib.hid (show Row w2 w.heap.size v1 (UInt8.ofNat done.length :: (done ++ [UInt8.ofNat rest])) from hR2); have HB2 := Lib.hid hB2; clear hR2 hB2 hg hat; (obtain ⟨g, cap, rfl, hgb, hgl⟩ := HR2.out.form (by simp)); have HC := HR2.out.cell 0 (by simp); simp only [List.getElem_cons_zero, encB] at HC; obtain ⟨HC1, HC2⟩ := HC)
        )
      refine ⟨⟨done ++ [UInt8.ofNat rest], rest / 256, ?_, by omega, by simp, ?_, ?_⟩, ?_⟩
      · rw [HE.out, Hp.out]; simp
      · have := HR2.out.store 0 (UInt8.ofNat done.length + 1)
        have e : encB (UInt8.ofNat done.length + 1) = Value.int .u8 ((done.length : Int) % 256 + 1) := by
          simp [encB]; omega
        rw [e] at this
        have e2 : UInt8.ofNat (done ++ [UInt8.ofNat rest]).length = UInt8.ofNat done.length + 1 := by simp [UInt8.ofNat_add]
        rw [e2]
        simpa using this
      · exact HB2.out.setCell hgb _
      · simp [intOf]; omega
    · obtain ⟨g, cap, rfl, hgb, hgl⟩ := HR.out.form (by simp)
      have hst := HR.out.string 60 (by kernel_rfl)
      have h0 : rest = 0 := by omega
      have hb : bs (UInt8.ofNat done.length :: done) = bs (numL n) := by
        have := HE.out
        rw [h0, leL_zero, List.append_nil] at this
        unfold numL
        rw [this]
      rw [hb] at hst
      simp only [List.length_cons] at hst ⊢
      go_wp2
      go_ret
      exact ⟨rfl, HB.out⟩
end Go.Proofs.YticnmogeknlmeaaGreatDoor.B
namespace Go.Proofs.YticnmogeknlmeaaGreatDoor.B
open Go.RowKit Go.Proofs.YticnmogeknlmeaaGreatDoorW.PrintWords
/-- A reader: the bytes that are left, and the first error. -/
structure Rdr where
  l : List UInt8
  e : Int
def RdAt (w : World) (g : Nat) (r : Rdr) : Prop := Blk w g #[.string (bs r.l), .int .i64 r.e] 148
def only (g : Nat) : Nat → Prop := fun i => i = g
theorem Mut.cellOf {g : Nat} {w w' : World} (h : Mut (only g) w w') (i : Nat) (v : Value) : Mut (only g) w (w'.setCell ⟨g, i, none⟩ v) := h.set (p := ⟨g, i, none⟩) rfl v
theorem RdAt.c0 {w : World} {g : Nat} {r : Rdr} (h : RdAt w g r) : w.cell? ⟨g, 0, none⟩ = some (.string (bs r.l)) := by rw [Blk.cell h]; rfl
theorem RdAt.c1 {w : World} {g : Nat} {r : Rdr} (h : RdAt w g r) : w.cell? ⟨g, 1, none⟩ = some (.int .i64 r.e) := by rw [Blk.cell h]; rfl
theorem RdAt.f {w : World} {g : Nat} {r : Rdr} (h : RdAt w g r) (i : Nat) : w.frozen? ⟨g, i, none⟩ = false := Blk.free h i
theorem RdAt.s0 {w : World} {g : Nat} {r : Rdr} (h : RdAt w g r) (l : List UInt8) : RdAt (w.setCell ⟨g, 0, none⟩ (.string (bs l))) g ⟨l, r.e⟩ := by
  have := Blk.set h 0 (.string (bs l)); simpa [RdAt] using this
theorem RdAt.s1 {w : World} {g : Nat} {r : Rdr} (h : RdAt w g r) (e : Int) : RdAt (w.setCell ⟨g, 1, none⟩ (.int .i64 e)) g ⟨r.l, e⟩ := by
  have := Blk.set h 1 (.int .i64 e); simpa [RdAt] using this
theorem bs_extract (l : List UInt8) (a b : Nat) : (bs l).extract a b = bs ((l.take b).drop a) := by
  apply ByteArray.ext
  simp [bs, List.take_drop]
  rcases Nat.le_total a b with h | h
  · rw [Nat.add_sub_cancel' h]
  · rw [List.drop_eq_nil_of_le (by simp; omega), List.drop_eq_nil_of_le (by simp; omega)]
theorem bs_nil : bs [] = { data := #[] } := rfl
def Rdr.fail (r : Rdr) (e : Int) : Rdr := if r.e = 0 then ⟨[], e⟩ else r
set_option maxRecDepth 100000
set_option maxHeartbeats 800000
theorem new_any (l : List UInt8) (w : World) : Calls Tryz.prog 55 #[.string (bs l)] w fun e w' => e = .returned (.pointer (some ⟨w.heap.size, 0, none⟩)) ∧ RdAt w' w.heap.size ⟨l, 0⟩ ∧ Below w.heap.size w w' := by
  go_enter Tryz.func55, Tryz.ntmps55
  go_wp2
  go_ret
  exact ⟨rfl, Blk.new w _ 148, (Below.refl _ _).alloc (Nat.le_refl _) _⟩
theorem err_any (r : Rdr) (g : Nat) (w : World) (h : RdAt w g r) : Calls Tryz.prog 80 #[.pointer (some ⟨g, 0, none⟩)] w fun e w' => e = .returned (.int .i64 r.e) ∧ w = w' := by
  have h1 := h.c1
  go_enter Tryz.func80, Tryz.ntmps80
  go_wp2
  go_ret
  exact ⟨rfl, rfl⟩
theorem fail_any (r : Rdr) (x : Int) (g : Nat) (w : World) (h : RdAt w g r) : Calls Tryz.prog 78 #[.pointer (some ⟨g, 0, none⟩), .int .i64 x] w fun e w' => e = .returned (.tuple #[]) ∧ RdAt w' g (r.fail x) ∧ Mut (only g) w w' := by
  have h0 := h.c0
  have h1 := h.c1
  have hf := h.f 0
  have hf1 := h.f 1
  have hm := Mut.refl (only g) w
  by_cases he : r.e = 0
  · go_enter Tryz.func78, Tryz.ntmps78
    rw [he] at h1
    go_wp2
    go_end0
    refine ⟨rfl, ?_, (hm.cellOf _ _).cellOf _ _⟩
    have := (h.s1 x).s0 []
    rw [Rdr.fail, if_pos he]
    exact this
  · have hb : (r.e == 0) = false := beq_eq_false_iff_ne.2 he
    go_enter Tryz.func78, Tryz.ntmps78
    go_wp2
    go_end0
    refine ⟨rfl, ?_, hm⟩
    rw [Rdr.fail, if_neg he]
    exact h
def Rdr.bytes (r : Rdr) (n : Int) : List UInt8 × Rdr := if r.e ≠ 0 then ([], r) else if n < 0 ∨ n > r.l.length then ([], ⟨[], 2⟩) else (r.l.take n.toNat, ⟨r.l.drop n.toNat, 0⟩)
theorem bytes_any (r : Rdr) (n : Int) (g : Nat) (w : World) (h : RdAt w g r) (hn : -9223372036854775808 ≤ n ∧ n ≤ 9223372036854775807) : Calls Tryz.prog 77 #[.pointer (some ⟨g, 0, none⟩), .int .i64 n] w fun e w' => e = .returned (.string (bs (r.bytes n).1)) ∧ RdAt w' g (r.bytes n).2 ∧ Mut (only g) w w' := by
  have h0 := h.c0
  have h1 := h.c1
  have hf := h.f 0
  have hm := Mut.refl (only g) w
  have Hh := Lib.hid h
  clear h
  by_cases he : r.e = 0
  · have hb : (r.e != 0) = false := by simp [he]
    by_cases hneg : n < 0
    · go_enter Tryz.func77, Tryz.ntmps77
      go_wp2_with fail
      refine (err_any r g w Hh.out).mono ?_
      rintro e w1 ⟨rfl, rfl⟩
      go_wp2_with fail
      refine (fail_any r 2 g w Hh.out).mono ?_
      rintro e w1 ⟨rfl, h2, hm2⟩
      go_wp2
      go_ret
      refine ⟨?_, ?_, hm2⟩
      · simp [Rdr.bytes, he, hneg]; rfl
      · simp only [Rdr.bytes, he, hneg]; simpa [Rdr.fail, he] using h2
    · by_cases hbig : n > r.l.length
      · go_enter Tryz.func77, Tryz.ntmps77
        have hsz := bs_size r.l
        go_wp2_with fail
        refine (err_any r g w Hh.out).mono ?_
        rintro e w1 ⟨rfl, rfl⟩
        go_wp2_with fail
        refine (fail_any r 2 g w Hh.out).mono ?_
        rintro e w1 ⟨rfl, h2, hm2⟩
        go_wp2
        go_ret
        refine ⟨?_, ?_, hm2⟩
        · simp [Rdr.bytes, he, hbig]; rfl
        · simp only [Rdr.bytes, he, hbig]; simpa [Rdr.fail, he] using h2
      · obtain ⟨m, rfl⟩ := Int.eq_ofNat_of_zero_le (by omega : 0 ≤ n)
        have hsz := bs_size r.l
        go_enter Tryz.func77, Tryz.ntmps77
        go_wp2_with fail
        refine (err_any r g w Hh.out).mono ?_
        rintro e w1 ⟨rfl, rfl⟩
        go_wp2
        go_ret
        refine ⟨?_, ?_, hm.cellOf _ _⟩
        · have e : (r.bytes (m : Int)).1 = r.l.take m := by
            unfold Rdr.bytes
            rw [if_neg (by simp [he]), if_neg (by omega)]
            simp
          rw [e, bs_extract]
          simp
        · rw [bs_extract]
          have := Hh.out.s0 ((r.l.take r.l.length).drop m)
          simp only [List.take_length] at this
          simp only [List.take_length]
          have e : (r.bytes (m : Int)).2 = ⟨r.l.drop m, r.e⟩ := by
            unfold Rdr.bytes
            rw [if_neg (by simp [he]), if_neg (by omega)]
            simp [he]
          rw [e]; exact this
  · have hb : (r.e != 0) = true := bne_iff_ne.2 he
    go_enter Tryz.func77, Tryz.ntmps77
    go_wp2_with fail
    refine (err_any r g w Hh.out).mono ?_
    rintro e w1 ⟨rfl, rfl⟩
    go_wp2
    go_ret
    refine ⟨?_, ?_, hm⟩
    · simp [Rdr.bytes, he]; rfl
    · simpa [Rdr.bytes, he] using Hh.out
/-- The number of bytes, the lowest first. -/
def leV : List UInt8 → Nat
  | [] => 0
  | b :: l => b.toNat + 256 * leV l
theorem leV_lt : ∀ l : List UInt8, leV l < 256 ^ l.length
  | [] => by simp [leV]
  | b :: l => by
    have := leV_lt l
    have := b.toNat_lt
    simp only [leV, List.length_cons, Nat.pow_succ]; omega
theorem wrap_u64 (n : Nat) (h : n < 18446744073709551616) : IntKind.u64.wrap (n : Int) = n := by
  simp [IntKind.wrap, IntKind.bits, IntKind.signed]; omega
theorem or8 (v b : Nat) (hv : v < 72057594037927936) (hb : b < 256) : bits BinOp.or IntKind.u64 (IntKind.u64.wrap ((v : Int) * 256)) (IntKind.u64.wrap (b : Int)) = ((b + 256 * v : Nat) : Int) := by
  have e1 : ((v : Int) * 256) = ((v * 256 : Nat) : Int) := by simp
  rw [e1, wrap_u64 _ (by omega), wrap_u64 _ (by omega)]
  have e2 : (v * 256) ||| b = b + 256 * v := by
    have := Nat.shiftLeft_add_eq_or_of_lt (a := v) (b := b) (i := 8) (by omega)
    rw [Nat.shiftLeft_eq] at this
    have h8 : (2 : Nat) ^ 8 = 256 := by decide
    rw [h8] at this
    omega
  have e3 : (BitVec.ofInt 64 ((v * 256 : Nat) : Int) ||| BitVec.ofInt 64 (b : Int)).toNat = b + 256 * v := by
    simp only [BitVec.toNat_or, BitVec.ofInt_natCast, BitVec.toNat_ofNat]
    rw [Nat.mod_eq_of_lt (by omega), Nat.mod_eq_of_lt (by omega), e2]
  show IntKind.u64.wrap _ = _
  have e4 := wrap_u64 (b + 256 * v) (by omega)
  rw [← e3] at e4 ⊢
  exact e4
theorem value_any (l : List UInt8) (hl : l.length ≤ 8) (w : World) : Calls Tryz.prog 79 #[.string (bs l)] w fun e w' => e = .returned (.int .u64 (leV l)) ∧ w = w' := by
  have hsz := bs_size l
  go_enter Tryz.func79, Tryz.ntmps79
  go_wp2
  go_loop [3, 4] (fun x y => ∃ k : Nat, k ≤ l.length ∧ y = .int .i64 ((k : Int) - 1) ∧ x = .int .u64 (leV (l.drop k))) (fun _ y => (intOf y + 1).toNat)
  case atStart => exact ⟨l.length, Nat.le_refl _, by simp, by simp [leV]⟩
  case round =>
    obtain ⟨k, hk, rfl, rfl⟩ := hrel
    by_cases hp : 0 < k
    · obtain ⟨j, rfl⟩ : ∃ j, k = j + 1 := ⟨k - 1, by omega⟩
      go_wp2
      refine ⟨⟨j, by omega, rfl, ?_⟩, ?_⟩
      · have hd : l.drop j = l[j] :: l.drop (j + 1) := List.drop_eq_getElem_cons (by omega)
        have hv := leV_lt (l.drop (j + 1))
        have hv' : leV (l.drop (j + 1)) < 72057594037927936 := Nat.lt_of_lt_of_le hv (by
          have : (l.drop (j + 1)).length ≤ 7 := by simp; omega
          exact Nat.le_trans (Nat.pow_le_pow_right (by decide) this) (by decide))
        show Value.int IntKind.u64 (bits BinOp.or IntKind.u64 (IntKind.u64.wrap (↑(leV (List.drop (j + 1) l)) * 256)) (IntKind.u64.wrap (l[j].toNat : Int))) = _
        rw [or8 _ _ hv' (l[j].toNat_lt), hd]
        rfl
      · simp [intOf]
    · have h0 : k = 0 := by omega
      subst h0
      go_wp2
      go_ret
      exact ⟨by simp, rfl⟩
end Go.Proofs.YticnmogeknlmeaaGreatDoor.B
namespace Go.Proofs.YticnmogeknlmeaaGreatDoor.B
open Go.RowKit Go.Proofs.YticnmogeknlmeaaGreatDoorW.PrintWords
set_option maxRecDepth 100000
set_option maxHeartbeats 800000
def hd0 (l : List UInt8) : Nat := match l with | [] => 0 | b :: _ => b.toNat
def lastZ (l : List UInt8) : Bool := l.getLast? == some 0
/-- A number, read: what comes, and the reader behind it. -/
def Rdr.num (r : Rdr) (most : Nat) : Nat × Rdr :=
  let c := r.bytes 1
  if c.1 = [] then (0, c.2)
  else if 8 < hd0 c.1 then (0, c.2.fail 3)
  else
    let s := c.2.bytes (hd0 c.1)
    if s.2.e ≠ 0 then (0, s.2)
    else if lastZ s.1 then (0, s.2.fail 3)
    else if most < leV s.1 then (0, s.2.fail 5)
    else (leV s.1, s.2)
theorem RdAt.mut {w w' : World} {g g' : Nat} {r : Rdr} (h : RdAt w g r) (hm : Mut (only g') w w') (hne : g ≠ g') : RdAt w' g r := Blk.kept h hm hne
theorem bs_isnil (l : List UInt8) : (bs l).toList.isEmpty = decide (l = []) := by
  rw [ByteArray.toList_eq, bs_list]
  cases l <;> rfl
theorem rnum_any (r : Rdr) (most : Nat) (_hmost : most < 18446744073709551616) (g : Nat) (w : World) (h : RdAt w g r) : Calls Tryz.prog 57 #[.pointer (some ⟨g, 0, none⟩), .int .u64 (most : Int)] w fun e w' => e = .returned (.int .u64 ((r.num most).1 : Int)) ∧ RdAt w' g (r.num most).2 ∧ Mut (only g) w w' := by
  have Hh := Lib.hid h
  clear h
  obtain ⟨⟨c, r1⟩, hc⟩ : ∃ x, x = r.bytes 1 := ⟨_, rfl⟩
  go_enter Tryz.func57, Tryz.ntmps57
  go_wp2_with fail
  refine (bytes_any r 1 g w Hh.out (by omega)).mono ?_
  rw [← hc]
  rintro e w1 ⟨rfl, h2, hm2⟩
  have H1 := Lib.hid h2
  have HM := Lib.hid hm2
  clear h2 hm2
  have hnil := bs_isnil c
  by_cases hc0 : c = []
  · subst hc0
    simp only [decide_true] at hnil
    go_wp2
    go_ret
    refine ⟨?_, ?_, HM.out⟩
    · simp [Rdr.num, ← hc]
    · simpa [Rdr.num, ← hc] using H1.out
  · rw [decide_eq_false hc0] at hnil
    obtain ⟨b, rfl⟩ : ∃ b, c = [b] := by
      unfold Rdr.bytes at hc
      split at hc
      · simp at hc; exact absurd hc.1 hc0
      · split at hc
        · simp at hc; exact absurd hc.1 hc0
        · simp at hc
          cases hl : r.l with
          | nil => rw [hl] at hc; exact absurd hc.1 hc0
          | cons b l => exact ⟨b, by rw [hc.1, hl]; rfl⟩
    have hsz : (bs [b]).size = 1 := rfl
    have hb0 : (bs [b])[0] = b := rfl
    by_cases h8 : 8 < b.toNat
    · go_wp2_with fail
      refine (fail_any r1 3 g _ H1.out).mono ?_
      rintro e w2 ⟨rfl, h2, hm2⟩
      have HM2 := Lib.hid (HM.out.trans hm2)
      have H2 := Lib.hid h2
      clear h2 hm2
      go_wp2
      go_ret
      refine ⟨?_, ?_, HM2.out⟩
      · simp [Rdr.num, ← hc, hd0, h8]
      · simpa [Rdr.num, ← hc, hd0, h8] using H2.out
    · obtain ⟨⟨l2, r2⟩, hs⟩ : ∃ x, x = r1.bytes (b.toNat) := ⟨_, rfl⟩
      have hs' : r1.bytes (b.toNat) = (l2, r2) := hs.symm
      have hln : l2.length ≤ 8 := by
        unfold Rdr.bytes at hs
        split at hs
        · have := congrArg (fun x => x.1.length) hs; simp at this; (try subst this); simp <;> omega
        · split at hs
          · have := congrArg (fun x => x.1.length) hs; simp at this; (try subst this); simp <;> omega
          · have := congrArg (fun x => x.1.length) hs; simp at this; (try subst this); simp <;> omega
      have hnum : r.num most = (if r2.e ≠ 0 then (0, r2) else if lastZ l2 then (0, r2.fail 3) else if most < leV l2 then (0, r2.fail 5) else (leV l2, r2)) := by
        unfold Rdr.num
        simp only [← hc, hd0, h8, hs']
        rfl
      go_wp2_with fail
      refine (bytes_any r1 _ g _ H1.out (by have := b.toNat_lt; omega)).mono ?_
      rw [← hs]
      rintro e w2 ⟨rfl, h2, hm2⟩
      have HM2 := Lib.hid (HM.out.trans hm2)
      have H2 := Lib.hid h2
      clear h2 hm2
      go_wp2_with fail
      refine (value_any l2 hln _).mono ?_
      rintro e w3 ⟨rfl, rfl⟩
      have hx1 := H2.out.c1
      have hnil2 := bs_isnil l2
      have hsz2 := bs_size l2
      by_cases he : r2.e = 0
      · have heb : (r2.e != 0) = false := by simp [he]
        by_cases hl0 : l2 = []
        · subst hl0
          simp only [decide_true] at hnil2
          go_wp2
          go_ret
          rw [hnum, if_neg (by simp [he])]
          exact ⟨rfl, H2.out, HM2.out⟩
        · simp only [hl0, decide_false] at hnil2
          have hlp : 0 < l2.length := List.length_pos_iff.2 hl0
          have hi : l2.length - 1 < (bs l2).size := by rw [hsz2]; omega
          have hlz : lastZ l2 = ((((bs l2)[l2.length - 1]).toNat : Int) == 0) := by
            show (l2.getLast? == some 0) = (((l2[l2.length - 1]).toNat : Int) == 0)
            rw [List.getLast?_eq_getElem?, List.getElem?_eq_getElem (by omega)]
            generalize l2[l2.length - 1] = z
            by_cases hz : z = 0
            · subst hz; rfl
            · have : z.toNat ≠ 0 := fun e => hz (UInt8.toNat_inj.1 (by simpa using e))
              rw [show (some z == some (0 : UInt8)) = false by simpa using hz]
              exact (beq_eq_false_iff_ne.2 (by omega)).symm
          have hge : 1 ≤ (l2.length : Int) ∧ (l2.length : Int) - 1 < (l2.length : Int) := by omega
          cases hzz : ((((bs l2)[l2.length - 1]).toNat : Int) == 0)
          · rw [hzz] at hlz
            by_cases hm : most < leV l2
            · go_wp2_with fail
              refine (fail_any r2 5 g _ H2.out).mono ?_
              rintro e w3 ⟨rfl, h3, hm3⟩
              have HM3 := Lib.hid (HM2.out.trans hm3)
              have H3 := Lib.hid h3
              clear h3 hm3
              go_wp2
              go_ret
              rw [hnum, if_neg (by simp [he]), if_neg (by simp [hlz]), if_pos hm]
              exact ⟨rfl, H3.out, HM3.out⟩
            · go_wp2
              go_ret
              rw [hnum, if_neg (by simp [he]), if_neg (by simp [hlz]), if_neg hm]
              exact ⟨rfl, H2.out, HM2.out⟩
          · rw [hzz] at hlz
            go_wp2_with fail
            refine (fail_any r2 3 g _ H2.out).mono ?_
            rintro e w3 ⟨rfl, h3, hm3⟩
            have HM3 := Lib.hid (HM2.out.trans hm3)
            have H3 := Lib.hid h3
            clear h3 hm3
            go_wp2
            go_ret
            rw [hnum, if_neg (by simp [he]), if_pos hlz]
            exact ⟨rfl, H3.out, HM3.out⟩
      · have heb : (r2.e != 0) = true := bne_iff_ne.2 he
        go_wp2
        go_ret
        rw [hnum, if_pos he]
        exact ⟨rfl, H2.out, HM2.out⟩
end Go.Proofs.YticnmogeknlmeaaGreatDoor.B
namespace Go.Proofs.YticnmogeknlmeaaGreatDoor.B
open Go.RowKit Go.Proofs.YticnmogeknlmeaaGreatDoorW.PrintWords
set_option maxRecDepth 100000
set_option maxHeartbeats 800000
theorem numL_len {n : Nat} (h : n < 18446744073709551616) : (numL n).length ≤ 9 := by
  have := leL_len 8 n (by omega)
  simp [numL]; omega
/-- How a reader ends. -/
def Rdr.end (r : Rdr) : Int := if r.e = 0 ∧ r.l ≠ [] then 4 else r.e
theorem end_any (r : Rdr) (g : Nat) (w : World) (h : RdAt w g r) : Calls Tryz.prog 58 #[.pointer (some ⟨g, 0, none⟩)] w fun e w' => e = .returned (.int .i64 r.end) ∧ w = w' := by
  have h0 := h.c0
  have hnil := bs_isnil r.l
  by_cases he : r.e = 0
  · have hb : (r.e == 0) = true := by simp [he]
    by_cases hl : r.l = []
    · simp only [hl, decide_true] at hnil h0
      go_enter Tryz.func58, Tryz.ntmps58
      go_wp2_with fail
      refine (err_any r g w h).mono ?_
      rintro e w1 ⟨rfl, rfl⟩
      go_wp2_with fail
      refine (err_any r g w h).mono ?_
      rintro e w1 ⟨rfl, rfl⟩
      go_wp2
      go_ret
      exact ⟨by simp [Rdr.end, hl, he], rfl⟩
    · simp only [hl, decide_false] at hnil
      go_enter Tryz.func58, Tryz.ntmps58
      go_wp2_with fail
      refine (err_any r g w h).mono ?_
      rintro e w1 ⟨rfl, rfl⟩
      go_wp2
      go_ret
      exact ⟨by simp [Rdr.end, hl, he], rfl⟩
  · have hb : (r.e == 0) = false := beq_eq_false_iff_ne.2 he
    go_enter Tryz.func58, Tryz.ntmps58
    go_wp2_with fail
    refine (err_any r g w h).mono ?_
    rintro e w1 ⟨rfl, rfl⟩
    go_wp2_with fail
    refine (err_any r g w h).mono ?_
    rintro e w1 ⟨rfl, rfl⟩
    go_wp2
    go_ret
    exact ⟨by simp [Rdr.end, he], rfl⟩
/-- A text, read. -/
def Rdr.text (r : Rdr) (most : Nat) : List UInt8 × Rdr := (r.num most).2.bytes (r.num most).1
/-! What was written is read. -/
theorem leV_leL : ∀ n : Nat, leV (leL n) = n := by
  intro n
  induction n using Nat.strongRecOn with
  | _ n ih =>
    by_cases h : n = 0
    · subst h; rw [leL_zero]; rfl
    · rw [leL_pos (by omega), leV, ih (n / 256) (by omega)]
      simp; omega
theorem lastZ_leL : ∀ n : Nat, lastZ (leL n) = false := by
  intro n
  induction n using Nat.strongRecOn with
  | _ n ih =>
    by_cases h : n = 0
    · subst h; rw [leL_zero]; rfl
    · rw [leL_pos (by omega)]
      by_cases h2 : n / 256 = 0
      · rw [h2, leL_zero]
        have : UInt8.ofNat n ≠ 0 := by
          intro e
          have := congrArg UInt8.toNat e
          simp at this; omega
        simpa [lastZ] using this
      · have := ih (n / 256) (by omega)
        rw [leL_pos (by omega)] at this ⊢
        unfold lastZ at this ⊢
        rw [List.getLast?_cons_cons]
        exact this
theorem bytes_app (l m : List UInt8) : (Rdr.mk (l ++ m) 0).bytes l.length = (l, ⟨m, 0⟩) := by
  unfold Rdr.bytes
  rw [if_neg (by simp), if_neg (by simp; omega)]
  simp
theorem num_numL (n most : Nat) (l : List UInt8) (h : n ≤ most) (hm : most < 18446744073709551616) : (Rdr.mk (numL n ++ l) 0).num most = (n, ⟨l, 0⟩) := by
  have hl := leL_len 8 n (by omega)
  have e1 : (Rdr.mk (numL n ++ l) 0).bytes 1 = ([UInt8.ofNat (leL n).length], ⟨leL n ++ l, 0⟩) := bytes_app [UInt8.ofNat (leL n).length] (leL n ++ l)
  have e2 : (UInt8.ofNat (leL n).length).toNat = (leL n).length := by simp; omega
  have e3 := bytes_app (leL n) l
  unfold Rdr.num
  simp only [e1, hd0, e2, e3]
  rw [if_neg (by simp), if_neg (by omega), if_neg (by simp), if_neg (by simp [lastZ_leL]), if_neg (by rw [leV_leL]; omega), leV_leL]
end Go.Proofs.YticnmogeknlmeaaGreatDoor.B
namespace Go.Proofs.YticnmogeknlmeaaGreatDoor.Later
open Go.RowKit
/-- A world in which all that was there is there yet. -/
def LaterOf (w : World) : Type := { w' : World // Below w.heap.size w w' }
instance later_some (w : World) : Nonempty (LaterOf w) := ⟨⟨w, Below.refl _ _⟩⟩
def later (w : World) (n : LaterOf w) : World := n.val
theorem later_of {w w' : World} (h : ∃ n : LaterOf w, w' = later w n) : Below w.heap.size w w' := by
  obtain ⟨n, rfl⟩ := h
  exact n.property
theorem later_cell {w : World} {a : Addr} {v : Value} (h : w.cell? a = some v) (n : LaterOf w) : (later w n).cell? a = some v := (n.property.cell (World.block_lt_of_cell? w a h)).trans h
theorem wp_region_later {P : Program} {id : Nat} {Q : Exit → Act → World → Prop} {a : Act} {w : World} {l : List Oper} (hm : P.follows .mixedOrders = true) (hB : Region.lexB .any l.toArray = true)
    (h : wpQuiet P l.toArray (fun w' => ∃ n : LaterOf w, w' = later w n) (fun a' => ∀ w', (∃ n : LaterOf w, w' = later w n) → Q .normal a' w') l a) : (Code.region id l.toArray true).wp P Q a w :=
  wp_region_quiet (C := fun w' => ∃ n : LaterOf w, w' = later w n) hm hB ⟨⟨_, below_drewN (Below.refl _ w) 1⟩, rfl⟩ (by simpa using h)
theorem calls_later {P : Program} {f : FuncId} {args : Array Value} {w : World} {v : Value} (h : ∀ w1, Below w.heap.size w w1 → Calls P f args w1 fun e w' => e = .returned v ∧ Below w1.heap.size w1 w') (n : LaterOf w) :
    Calls P f args (later w n) fun e w'' => e = .returned v ∧ ∃ m : LaterOf w, w'' = later w m :=
  (h _ n.property).mono fun _ w'' ⟨he, hb⟩ => ⟨he, ⟨w'', n.property.trans (hb.mono n.property.size)⟩, rfl⟩
theorem calls_later_same {P : Program} {f : FuncId} {args : Array Value} {w : World} {v : Value} (h : ∀ w1, Below w.heap.size w w1 → Calls P f args w1 fun e w' => e = .returned v ∧ w1 = w') (n : LaterOf w) :
    Calls P f args (later w n) fun e w'' => e = .returned v ∧ ∃ m : LaterOf w, w'' = later w m :=
  (h _ n.property).mono fun _ _ ⟨he, hb⟩ => ⟨he, n, hb.symm⟩
end Go.Proofs.YticnmogeknlmeaaGreatDoor.Later
