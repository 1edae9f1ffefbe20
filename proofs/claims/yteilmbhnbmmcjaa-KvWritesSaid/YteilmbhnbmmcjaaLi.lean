/- Helper: a note added; walked. No condition. -/
import Derived.Test.YteilmbhnbmmcjaaLh
import Derived.Outline
namespace Go.Proofs.Yteilmbhnbmmcjaa.B
open Go.RowKit Go.Proofs.YteilmbhnbmmcjaaW.PrintWords Go.Proofs.Yteilmbhnbmmcjaa.Later
set_option maxRecDepth 100000
set_option maxHeartbeats 1600000
def two (a g : Nat) : Nat → Prop := fun i => i = a ∨ i = g
theorem nilEq27 (g : Nat) (W : World) : (binOp .eql 27 (.pointer (some ⟨g, 0, none⟩)) (.pointer none)).run Try.prog W = .ok (.bool false) W := by kernel_rfl
theorem add_nil (k : Int) (s : ByteArray) (w : World) : Calls Try.prog 18 #[.pointer none, .int .i64 k, .string s] w fun e w' => e = .returned (.tuple #[.int .i64 0, .int .i64 1]) ∧ w = w' := by
  go_enter Try.func18, Try.ntmps18
  go_wp2
  go_ret2
  exact ⟨rfl, rfl⟩
theorem add_bad (g : Nat) (k : Int) (s : ByteArray) (hs : s.size ≤ 9223372036854775807) (h : k < 0 ∨ 255 < k ∨ 40 < s.size) (w : World) : Calls Try.prog 18 #[.pointer (some ⟨g, 0, none⟩), .int .i64 k, .string s] w fun e w' => e = .returned (.tuple #[.int .i64 0, .int .i64 1]) ∧ w = w' := by
  have q := nilEq27 g
  by_cases h1 : k < 0
  · go_enter Try.func18, Try.ntmps18
    go_wp2
    go_ret2
    exact ⟨rfl, rfl⟩
  · by_cases h2 : 255 < k
    · have h1' : 0 ≤ k := by omega
      go_enter Try.func18, Try.ntmps18
      go_wp2
      go_ret2
      exact ⟨rfl, rfl⟩
    · have h1' : 0 ≤ k := by omega
      have h2' : k ≤ 255 := by omega
      have h3 : 40 < s.size := by omega
      have h3' : (40 : Int) < (s.size : Int) := by omega
      clear h
      go_enter Try.func18, Try.ntmps18
      go_wp2
      go_ret2
      exact ⟨rfl, rfl⟩
def wrE (sl : Bool) : Int := if sl then 170 else 0
def wrM (sl : Bool) (pg : Int → Option ByteArray) (p : Nat) (s : List UInt8) (l : Nat) : Md := if sl then mkM (LT 4 7 pg true) none 0 else mkM (LT 4 7 (upP (upP pg p (some (bs s))) 0 (some (bs (numL l ++ numL p)))) false) none 2
theorem write_any (sl : Bool) (pg : Int → Option ByteArray) (hpg : PgIn 7 pg) (m0 : Int) (a g : Nat) (size last op page) (p : Nat) (hp : 1 ≤ p ∧ p ≤ 6) (s : List UInt8) (hs : s.length ≤ 64) (l : Nat) (hl : l ≤ 1073741824) (w : World) (hM : MdAt w a (mkM (LT 4 7 pg sl) none m0)) (hg : Blk w g (bookC a 4 size last op page) 90) :
    Calls Try.prog 50 #[.pointer (some ⟨g, 0, none⟩), .int .i64 p, .string (bs s), .int .i64 l] w fun e w' => e = .returned (.int .i64 (wrE sl)) ∧ MdAt w' a (wrM sl pg p s l) ∧ Mut (only a) w w' := by
  cases sl
  · exact write_ok pg hpg m0 a g size last op page p hp s hs l hl w hM hg
  · exact write_sealed pg hpg m0 a g size last op page p hp s hs l w hM hg
def newS (op : List UInt8) (x : Nt) : List UInt8 := if op.length + x.bytes.length ≤ 64 then op ++ x.bytes else x.bytes
def newP (op : List UInt8) (x : Nt) (page : Nat) : Nat := if op.length + x.bytes.length ≤ 64 then page else page % 6 + 1
theorem nt_bytes_le (x : Nt) (hx : x.ok) : x.bytes.length ≤ 64 := by
  obtain ⟨h1, h2, h3⟩ := hx
  have l1 := leL_len 4 x.n (by omega)
  have l2 := leL_len 1 x.k (by omega)
  have l3 := leL_len 1 x.t.length (by omega)
  simp [Nt.bytes, numL, textL]
  omega
theorem add_any (sl : Bool) (pg : Int → Option ByteArray) (hpg : PgIn 7 pg) (m0 : Int) (a g : Nat) (last page k : Nat) (hl : last < 1000) (hp : 1 ≤ page ∧ page ≤ 6) (op t : List UInt8) (hop : op.length ≤ 64) (hk : k ≤ 255) (ht : t.length ≤ 40) (w : World) (hM : MdAt w a (mkM (LT 4 7 pg sl) none m0)) (hg : Blk w g (bookC a 4 64 last op page) 90) :
    Calls Try.prog 18 #[.pointer (some ⟨g, 0, none⟩), .int .i64 k, .string (bs t)] w fun e w' => e = .returned (.tuple #[.int .i64 (if sl then 0 else last + 1), .int .i64 (wrE sl)]) ∧ MdAt w' a (wrM sl pg (newP op ⟨last + 1, k, t⟩ page) (newS op ⟨last + 1, k, t⟩) (last + 1)) ∧
      Blk w' g (if sl then bookC a 4 64 last op page else bookC a 4 64 ((last + 1 : Nat) : Int) (newS op ⟨last + 1, k, t⟩) (newP op ⟨last + 1, k, t⟩ page)) 90 ∧ Mut (two a g) w w' := by
  obtain ⟨x, hx⟩ : ∃ x : Nt, x = ⟨last + 1, k, t⟩ := ⟨_, rfl⟩
  rw [← hx]
  have hxo : x.ok := by rw [hx]; exact ⟨by simp; omega, hk, ht⟩
  have hxb := nt_bytes_le x hxo
  have hq := nilEq27 g
  have c0 : w.cell? ⟨g, 2, none⟩ = some (.int .i64 64) := hg.cell 2
  have c3 : w.cell? ⟨g, 3, none⟩ = some (.int .i64 last) := hg.cell 3
  have c4 : w.cell? ⟨g, 4, none⟩ = some (.string (bs op)) := hg.cell 4
  have c5 : w.cell? ⟨g, 5, none⟩ = some (.int .i64 page) := hg.cell 5
  have hgl := hg.lt
  have hsz := bs_size t
  have HM := Lib.hid hM
  have Hg := Lib.hid hg
  have Hpg := Lib.hid hpg
  clear hM hg hpg
  have h1 : (0 : Int) ≤ k := by omega
  have h2 : (k : Int) ≤ 255 := by omega
  have h3 : (t.length : Int) ≤ 40 := by omega
  have h4 : (last : Int) < 1000 := by omega
  have Hxe := Lib.hid hx
  clear hx
  go_enter Try.func18, Try.ntmps18
  go_upto_region 4 with fail
  obtain ⟨w1, hw1⟩ : ∃ w1, w1 = w.alloc (.cells #[.int .i64 ((last : Int) + 1), .int .i64 (k : Int), .string (bs t)] 45) := ⟨_, rfl⟩
  rw [← hw1]
  have hB1 : Below w.heap.size w w1 := by rw [hw1]; exact (Below.refl _ _).alloc (Nat.le_refl _) _
  have hn1 : Blk w1 w.heap.size #[.int .i64 ((last : Int) + 1), .int .i64 (k : Int), .string (bs t)] 45 := by rw [hw1]; exact Blk.new w _ 45
  have hg1 := Hg.out.below hB1
  have c2 : w1.cell? ⟨g, 2, none⟩ = some (.int .i64 64) := hg1.cell 2
  have c4 : w1.cell? ⟨g, 4, none⟩ = some (.string (bs op)) := hg1.cell 4
  have c5 : w1.cell? ⟨g, 5, none⟩ = some (.int .i64 page) := hg1.cell 5
  have d0 : w1.cell? ⟨w.heap.size, 0, none⟩ = some (.int .i64 ((last : Int) + 1)) := hn1.cell 0
  have d1 : w1.cell? ⟨w.heap.size, 1, none⟩ = some (.int .i64 (k : Int)) := hn1.cell 1
  have d2 : w1.cell? ⟨w.heap.size, 2, none⟩ = some (.string (bs t)) := hn1.cell 2
  have HB1 := Lib.hid hB1
  have Hn1 := Lib.hid hn1
  have Hg1 := Lib.hid hg1
  clear hB1 hn1 hg1 hw1 c0 c3
  have hval : x.val = .agg #[.int .i64 ((last : Int) + 1), .int .i64 (k : Int), .string (bs t)] := by rw [Hxe.out]; simp [Nt.val]
  have hput := lput_any x hxo
  rw [hval] at hput
  have hsx := bs_size x.bytes
  have hso := bs_size op
  have Hval := Lib.hid hval
  have Hput := Lib.hid hput
  clear hval hput
  have k4 := fun n => later_cell c4 n
  have k5 := fun n => later_cell c5 n
  have l0 := fun n => later_cell d0 n
  have l1 := fun n => later_cell d1 n
  have l2 := fun n => later_cell d2 n
  refine wp_region_later (by kernel_rfl) (by kernel_rfl) ?_
  have m1 := calls_later (P := Try.prog) (f := 49) (w := w1) (v := .string (bs x.bytes)) (fun w2 _ => Hput.out w2)
  repeat (any_goals (first | go_big_quiet_step ((with_reducible exact m1 _)) | quiet_step ((with_reducible exact m1 _))))
  refine wpQuiet_nil ?_
  intro w2 hw2
  have hb2 := later_of hw2
  clear hw2 m1 k4 k5 l0 l1 l2
  have hga : g ≠ a := by
    obtain ⟨np, oo, n, hb, _⟩ := HM.out
    have hg := Hg.out
    rintro rfl
    rw [Blk] at hb hg
    rw [hb] at hg
    simp [mdCells, bookC] at hg
  have hal : a < w.heap.size := by
    obtain ⟨np, oo, n, hb, _⟩ := HM.out
    exact hb.lt
  have Hga := Lib.hid hga
  clear hga c2 c4 c5 d0 d1 d2 hsx hso
  have HB2 := Lib.hid (HB1.out.trans (hb2.mono HB1.out.size))
  have Hg2 := Lib.hid (Hg1.out.below hb2)
  have Hn2 := Lib.hid (Hn1.out.below hb2)
  clear hb2
  have c2 : w2.cell? ⟨g, 2, none⟩ = some (.int .i64 64) := Hg2.out.cell 2
  have d0 : w2.cell? ⟨w.heap.size, 0, none⟩ = some (.int .i64 ((last : Int) + 1)) := Hn2.out.cell 0
  rw [bs_app]
  have hlen : (op ++ x.bytes).length = op.length + x.bytes.length := by simp
  obtain ⟨S, hS⟩ : ∃ S, S = op ++ x.bytes := ⟨_, rfl⟩
  rw [← hS] at hlen ⊢
  have hsS := bs_size S
  have HS := Lib.hid hS
  clear hS
  have elast : ((last + 1 : Nat) : Int) = (last : Int) + 1 := by simp
  have Hel := Lib.hid elast
  clear elast
  by_cases hfit : op.length + x.bytes.length ≤ 64
  · have hw := fun (W : World) (m : Int) (hM : MdAt W a (mkM (LT 4 7 pg sl) none m)) (hg : Blk W g (bookC a 4 64 last op page) 90) => write_any sl pg Hpg.out m a g 64 last op page page hp S (by omega) (last + 1) (by omega) W hM hg
    rw [Hel.out] at hw
    have Hw := Lib.hid hw
    clear hw
    have hS64 : (S.length : Int) ≤ 64 := by omega
    go_wp2_with fail
    refine (Hw.out w2 m0 (HM.out.below HB2.out) Hg2.out).mono ?_
    rintro e w3 ⟨rfl, h3, hm3⟩
    have e1 : newS op x = S := by rw [newS, if_pos hfit, HS.out]
    have e2 : newP op x page = page := by rw [newP, if_pos hfit]
    have E1 := Lib.hid e1
    have E2 := Lib.hid e2
    clear e1 e2
    have Hg3 := Lib.hid (Hg2.out.kept hm3 Hga.out)
    have Hn3 := Lib.hid (Hn2.out.kept hm3 (fun e => by unfold only at e; omega))
    have Hm3 := Lib.hid ((Mut.of_below HB2.out).trans (hm3.mono (fun i _ e => Or.inl e)) : Mut (two a g) w w3)
    have H3 := Lib.hid h3
    clear h3 hm3 Hw c2 d0
    have d0 : w3.cell? ⟨w.heap.size, 0, none⟩ = some (.int .i64 ((last : Int) + 1)) := Hn3.out.cell 0
    have c3 : w3.cell? ⟨g, 3, none⟩ = some (.int .i64 last) := Hg3.out.cell 3
    have c4 : w3.cell? ⟨g, 4, none⟩ = some (.string (bs op)) := Hg3.out.cell 4
    have c5 : w3.cell? ⟨g, 5, none⟩ = some (.int .i64 page) := Hg3.out.cell 5
    have f3 := Hg3.out.free 3
    have f4 := Hg3.out.free 4
    have f5 := Hg3.out.free 5
    have hwg : w.heap.size ≠ g := by omega
    cases sl
    · rw [show wrE false = 0 from rfl]
      go_wp2
      go_ret2
      rw [E1.out, E2.out]
      have k3 := ((Hg3.out.set 3 (.int .i64 ((last : Int) + 1))).set 4 (.string (bs S))).set 5 (.int .i64 (page : Int))
      refine ⟨rfl, ?_, ?_, ?_⟩
      · obtain ⟨np, oo, n, g1, g2, g3, g4, g5⟩ := H3.out
        have kb3 := Hg3.out
        have kb4 := kb3.set 3 (.int .i64 ((last : Int) + 1))
        have kb5 := kb4.set 4 (.string (bs S))
        exact ⟨np, oo, n, ((g1.far (p := ⟨g, 3, none⟩) (Ne.symm Hga.out) _).far (p := ⟨g, 4, none⟩) (Ne.symm Hga.out) _).far (p := ⟨g, 5, none⟩) (Ne.symm Hga.out) _, ((g2.setCell kb3 _ _).setCell kb4 _ _).setCell kb5 _ _, g3, ((g4.setCell kb3 _ _).setCell kb4 _ _).setCell kb5 _ _, g5⟩
      · simpa [bookC] using k3
      · exact ((Hm3.out.set (p := ⟨g, 3, none⟩) (Or.inr rfl) _).set (p := ⟨g, 4, none⟩) (Or.inr rfl) _).set (p := ⟨g, 5, none⟩) (Or.inr rfl) _
    · rw [show wrE true = 170 from rfl]
      go_wp2
      go_ret2
      rw [E1.out, E2.out]
      exact ⟨rfl, H3.out, Hg3.out, Hm3.out⟩
  · have hbig : (64 : Int) < (S.length : Int) := by omega
    have hw := fun (W : World) (m : Int) (hM : MdAt W a (mkM (LT 4 7 pg sl) none m)) (hg : Blk W g (bookC a 4 64 last op page) 90) => write_any sl pg Hpg.out m a g 64 last op page (page % 6 + 1) (by omega) x.bytes hxb (last + 1) (by omega) W hM hg
    have ep : ((page % 6 + 1 : Nat) : Int) = (page : Int) % 6 + 1 := by simp
    rw [Hel.out, ep] at hw
    have Hw := Lib.hid hw
    have Hep := Lib.hid ep
    clear hw ep
    have c5 : w2.cell? ⟨g, 5, none⟩ = some (.int .i64 page) := Hg2.out.cell 5
    have d1 : w2.cell? ⟨w.heap.size, 1, none⟩ = some (.int .i64 (k : Int)) := Hn2.out.cell 1
    have d2 : w2.cell? ⟨w.heap.size, 2, none⟩ = some (.string (bs t)) := Hn2.out.cell 2
    have k5 := fun n => later_cell c5 n
    have l0 := fun n => later_cell d0 n
    have l1 := fun n => later_cell d1 n
    have l2 := fun n => later_cell d2 n
    go_wp2
    refine wp_region_later (by kernel_rfl) (by kernel_rfl) ?_
    have m1 := calls_later (P := Try.prog) (f := 49) (w := w2) (v := .string (bs x.bytes)) (fun w3 _ => Hput.out w3)
    repeat (any_goals (first | go_big_quiet_step ((with_reducible exact m1 _)) | quiet_step ((with_reducible exact m1 _))))
    refine wpQuiet_nil ?_
    intro w3 hw3
    have hb3 := later_of hw3
    clear hw3 m1 k5 l0 l1 l2
    have HB3 := Lib.hid (HB2.out.trans (hb3.mono HB2.out.size))
    have Hg3 := Lib.hid (Hg2.out.below hb3)
    have Hn3 := Lib.hid (Hn2.out.below hb3)
    clear hb3 c2 d0 d1 d2 c5
    have c2 : w3.cell? ⟨g, 2, none⟩ = some (.int .i64 64) := Hg3.out.cell 2
    have d0 : w3.cell? ⟨w.heap.size, 0, none⟩ = some (.int .i64 ((last : Int) + 1)) := Hn3.out.cell 0
    go_wp2_with fail
    refine (Hw.out w3 m0 (HM.out.below HB3.out) Hg3.out).mono ?_
    rintro e w4 ⟨rfl, h4, hm4⟩
    have e1 : newS op x = x.bytes := by rw [newS, if_neg hfit]
    have e2 : newP op x page = (page % 6 + 1) := by rw [newP, if_neg hfit]
    have E1 := Lib.hid e1
    have E2 := Lib.hid e2
    clear e1 e2
    have Hg4 := Lib.hid (Hg3.out.kept hm4 Hga.out)
    have Hn4 := Lib.hid (Hn3.out.kept hm4 (fun e => by unfold only at e; omega))
    have Hm4 := Lib.hid ((Mut.of_below HB3.out).trans (hm4.mono (fun i _ e => Or.inl e)) : Mut (two a g) w w4)
    have H4 := Lib.hid h4
    clear h4 hm4 Hw c2 d0
    have d0 : w4.cell? ⟨w.heap.size, 0, none⟩ = some (.int .i64 ((last : Int) + 1)) := Hn4.out.cell 0
    have c3 : w4.cell? ⟨g, 3, none⟩ = some (.int .i64 last) := Hg4.out.cell 3
    have c4 : w4.cell? ⟨g, 4, none⟩ = some (.string (bs op)) := Hg4.out.cell 4
    have c5 : w4.cell? ⟨g, 5, none⟩ = some (.int .i64 page) := Hg4.out.cell 5
    have f3 := Hg4.out.free 3
    have f4 := Hg4.out.free 4
    have f5 := Hg4.out.free 5
    have hwg : w.heap.size ≠ g := by omega
    cases sl
    · rw [show wrE false = 0 from rfl]
      go_wp2
      go_ret2
      rw [E1.out, E2.out]
      have k3 := ((Hg4.out.set 3 (.int .i64 ((last : Int) + 1))).set 4 (.string (bs x.bytes))).set 5 (.int .i64 ((page : Int) % 6 + 1 : Int))
      refine ⟨rfl, ?_, ?_, ?_⟩
      · obtain ⟨np, oo, n, g1, g2, g3, g4, g5⟩ := H4.out
        have kb3 := Hg4.out
        have kb4 := kb3.set 3 (.int .i64 ((last : Int) + 1))
        have kb5 := kb4.set 4 (.string (bs x.bytes))
        exact ⟨np, oo, n, ((g1.far (p := ⟨g, 3, none⟩) (Ne.symm Hga.out) _).far (p := ⟨g, 4, none⟩) (Ne.symm Hga.out) _).far (p := ⟨g, 5, none⟩) (Ne.symm Hga.out) _, ((g2.setCell kb3 _ _).setCell kb4 _ _).setCell kb5 _ _, g3, ((g4.setCell kb3 _ _).setCell kb4 _ _).setCell kb5 _ _, g5⟩
      · simpa [bookC] using k3
      · exact ((Hm4.out.set (p := ⟨g, 3, none⟩) (Or.inr rfl) _).set (p := ⟨g, 4, none⟩) (Or.inr rfl) _).set (p := ⟨g, 5, none⟩) (Or.inr rfl) _
    · rw [show wrE true = 170 from rfl]
      go_wp2
      go_ret2
      rw [E1.out, E2.out]
      exact ⟨rfl, H4.out, Hg4.out, Hm4.out⟩
end Go.Proofs.Yteilmbhnbmmcjaa.B
