/- Helper: manifests: their text read, plainly; the program's reading of it, walked. No condition. -/
import Derived.Test.YticnmogeknlmeaaGreatDoorN11
import Derived.Laws.Rows
namespace Go.Proofs.YticnmogeknlmeaaGreatDoor.B
open Go.RowKit Go.Proofs.YticnmogeknlmeaaGreatDoorW.PrintWords Go.Proofs.YticnmogeknlmeaaGreatDoor.Later
set_option maxRecDepth 100000
set_option maxHeartbeats 1600000
/-- A manifest: the version, the length, the digest. -/
structure Man where
  v : Nat
  n : Nat
  d : List UInt8
def Man.cells (m : Man) : Array Value := #[.int .i64 (m.v : Int), .int .i64 (m.n : Int), .string (bs m.d)]
def man0 : Man := ⟨0, 0, []⟩
/-- 'tinderbox image', 'version', 'length', 'digest'. -/
def wHead : List UInt8 := [116, 105, 110, 100, 101, 114, 98, 111, 120, 32, 105, 109, 97, 103, 101]
def wVer : List UInt8 := [118, 101, 114, 115, 105, 111, 110]
def wLen : List UInt8 := [108, 101, 110, 103, 116, 104]
def wDig : List UInt8 := [100, 105, 103, 101, 115, 116]
/-- What line i makes of what the lines ahead of it made; t: how many lines there are. -/
def stepM (t i : Nat) (x : List UInt8) (m : Man) : Option Man :=
  if i = 0 then (if x = wHead then some m else none)
  else if i = 1 then (match numL2 wVer x 1073741824 with | some k => if 1 ≤ k then some ⟨k, m.n, m.d⟩ else none | none => none)
  else if i = 2 then (match numL2 wLen x 1048576 with | some k => some ⟨m.v, k, m.d⟩ | none => none)
  else if i = 3 then (match (behindL wDig x).bind bytesL with | some r => if r.length = 32 then some ⟨m.v, m.n, r⟩ else none | none => none)
  else (if x = [] ∧ t = 5 then some m else none)
def lnA (ls : List (List UInt8)) (i : Nat) : List UInt8 := (ls[i]?).getD []
def parseTo (ls : List (List UInt8)) : Nat → Option Man
  | 0 => some man0
  | i + 1 => match parseTo ls i with | some m => if i < ls.length then stepM ls.length i (lnA ls i) m else none | none => none
def parseL (l : List UInt8) : Option Man := parseTo (linesL l) 5
theorem parseTo_none (ls : List (List UInt8)) (i : Nat) (h : parseTo ls i = none) : ∀ k, parseTo ls (i + k) = none
  | 0 => h
  | k + 1 => by rw [← Nat.add_assoc, parseTo, parseTo_none ls i h k]
def MAt (w : World) (g : Nat) (m : Man) : Prop := Blk w g m.cells 34
theorem results_man {fn : Func} {p u v : Tmp} (h : fn.results = #[.cell p 34, .tmp u, .tmp v]) (tmps : Array Value) (w : World) (g : Nat) (m : Man) (hp : tmps.getD p undef = .pointer (some ⟨g, 0, none⟩)) (hm : MAt w g m) :
    (results fn tmps).run Tryz.prog w = .ok (.tuple #[.agg m.cells, tmps.getD u undef, tmps.getD v undef]) w := by
  have hp' : tmps[p]?.getD undef = .pointer (some ⟨g, 0, none⟩) := by simpa using hp
  have hl := run_loadVar_row (P := Tryz.prog) w g 34 34 m.cells (0, 0) _ hm Tryz.underlying34 rfl (by kernel_rfl)
  simp [results, h, hp', asAddr, hl]
/-- What the program answers of a text. -/
def ParsOut (o : Option Man) (e : Ending) : Prop := match o with
  | some m => e = .returned (.tuple #[.agg m.cells, .int .i64 0, .int .i64 0])
  | none => ∃ k : Nat, 1 ≤ k ∧ k ≤ 5 ∧ e = .returned (.tuple #[.agg man0.cells, .int .i64 (k : Int), .int .i64 200])
theorem MAt.put {w : World} {g : Nat} {m : Man} (h : MAt w g m) (v n : Nat) (d : List UInt8) : MAt (((w.setCell ⟨g, 0, none⟩ (.int .i64 (v : Int))).setCell ⟨g, 1, none⟩ (.int .i64 (n : Int))).setCell ⟨g, 2, none⟩ (.string (bs d))) g ⟨v, n, d⟩ := by
  have := Blk.set (Blk.set (Blk.set h 0 (.int .i64 (v : Int))) 1 (.int .i64 (n : Int))) 2 (.string (bs d))
  simpa [MAt, Man.cells] using this
theorem MAt.put0 {w : World} {g : Nat} {m : Man} (h : MAt w g m) : MAt (((w.setCell ⟨g, 0, none⟩ (.int .i64 0)).setCell ⟨g, 1, none⟩ (.int .i64 0)).setCell ⟨g, 2, none⟩ (.string { data := #[] })) g man0 := MAt.put h 0 0 []
theorem below_put3 {b g : Nat} {w w1 : World} (h : Below b w w1) (hg : b ≤ g) (x y z : Value) : Below b w (((w1.setCell ⟨g, 0, none⟩ x).setCell ⟨g, 1, none⟩ y).setCell ⟨g, 2, none⟩ z) := ((h.setCell (p := ⟨g, 0, none⟩) hg x).setCell (p := ⟨g, 1, none⟩) hg y).setCell (p := ⟨g, 2, none⟩) hg z
theorem MAt.setV {w : World} {g : Nat} {m : Man} (h : MAt w g m) (v : Nat) : MAt (w.setCell ⟨g, 0, none⟩ (.int .i64 (v : Int))) g ⟨v, m.n, m.d⟩ := by
  have := Blk.set h 0 (.int .i64 (v : Int))
  simpa [MAt, Man.cells] using this
theorem MAt.setN {w : World} {g : Nat} {m : Man} (h : MAt w g m) (v : Nat) : MAt (w.setCell ⟨g, 1, none⟩ (.int .i64 (v : Int))) g ⟨m.v, v, m.d⟩ := by
  have := Blk.set h 1 (.int .i64 (v : Int))
  simpa [MAt, Man.cells] using this
theorem MAt.setD {w : World} {g : Nat} {m : Man} (h : MAt w g m) (d : List UInt8) : MAt (w.setCell ⟨g, 2, none⟩ (.string (bs d))) g ⟨m.v, m.n, d⟩ := by
  have := Blk.set h 2 (.string (bs d))
  simpa [MAt, Man.cells] using this
theorem linesL_len : ∀ (l x : List UInt8), x ∈ linesL l → x.length ≤ l.length
  | [], x, h => by simp [linesL] at h; subst h; simp
  | c :: l, x, h => by
    by_cases hc : c = 10
    · rw [linesL, if_pos hc] at h
      rcases List.mem_cons.1 h with rfl | h
      · simp
      · have := linesL_len l x h; simp; omega
    · rw [linesL_cons c l hc] at h
      cases e : linesL l with
      | nil => exact absurd e (linesL_ne l)
      | cons a b =>
        rw [e, glue] at h
        rcases List.mem_cons.1 h with rfl | h
        · have := linesL_len l a (by rw [e]; exact List.mem_cons_self ..); simp; omega
        · have := linesL_len l x (by rw [e]; exact List.mem_cons_of_mem _ h); simp; omega
theorem lnA_len (l : List UInt8) (i : Nat) : (lnA (linesL l) i).length ≤ l.length := by
  unfold lnA
  cases e : (linesL l)[i]? with
  | none => simp
  | some x => exact linesL_len l x (List.mem_of_getElem? e)
theorem num_some {x wd : List UInt8} {lim n : Nat} (hx : x.length < 4294967281) (hw : wd.length < 4294967281) (h : numL2 wd x lim = some n) (w : World) : Calls Tryz.prog 67 #[.string (bs x), .string (bs wd), .int .i64 (lim : Int)] w fun e w' => e = .returned (.tuple #[.int .i64 (n : Int), .bool true]) ∧ Below w.heap.size w w' :=
  (number_any x wd lim hx hw w).mono fun e w' ⟨⟨k, ok, h1, _, h3⟩, h2⟩ => by
    rw [h] at h3
    cases ok with
    | true => simp at h3; subst h3; exact ⟨h1, h2⟩
    | false => simp at h3
theorem num_none {x wd : List UInt8} {lim : Nat} (hx : x.length < 4294967281) (hw : wd.length < 4294967281) (h : numL2 wd x lim = none) (w : World) : Calls Tryz.prog 67 #[.string (bs x), .string (bs wd), .int .i64 (lim : Int)] w fun e w' => ∃ n : Nat, e = .returned (.tuple #[.int .i64 (n : Int), .bool false]) ∧ Below w.heap.size w w' :=
  (number_any x wd lim hx hw w).mono fun e w' ⟨⟨k, ok, h1, _, h3⟩, h2⟩ => by
    rw [h] at h3
    cases ok with
    | true => simp at h3
    | false => exact ⟨k, h1, h2⟩
theorem cut_none {x : List UInt8} (h : behindL wDig x = none) (w : World) : Calls Tryz.prog 68 #[.string (bs x), .string (bs (wDig ++ [32]))] w fun e w' => e = .returned (.tuple #[.string (bs x), .bool false]) ∧ w' = w := by
  have hp : Lib.hasPrefix x (wDig ++ [32]) = false := by
    by_cases hp : Lib.hasPrefix x (wDig ++ [32]) = true
    · rw [behindL, if_pos hp] at h; simp at h
    · simpa using hp
  have := cut_any x (wDig ++ [32]) w
  rw [hp, if_neg (by decide)] at this
  exact this
theorem cut_some {x r : List UInt8} (h : behindL wDig x = some r) (w : World) : Calls Tryz.prog 68 #[.string (bs x), .string (bs (wDig ++ [32]))] w fun e w' => e = .returned (.tuple #[.string (bs r), .bool true]) ∧ w' = w := by
  unfold behindL at h
  split at h
  · have hp := ‹Lib.hasPrefix x (wDig ++ [32]) = true›
    have := cut_any x (wDig ++ [32]) w
    rw [hp, if_pos rfl] at this
    simp only [Option.some.injEq] at h
    rw [← h]
    exact this
  · simp at h
theorem behind_len {x r : List UInt8} (h : behindL wDig x = some r) (hx : x.length < 4294967281) : r.length < 4294967281 := by
  unfold behindL at h
  split at h
  · simp only [Option.some.injEq] at h
    rw [← h]; simp; omega
  · simp at h
theorem hex_some {x : List UInt8} (hx : x.length < 4294967281) (w : World) : Calls Tryz.prog 69 #[.string (bs x)] w fun e w' => ∃ (dg : List UInt8) (c : Int), e = .returned (.tuple #[.string (bs dg), .int .i64 c]) ∧ Below w.heap.size w w' :=
  (hexbytes_any x hx w).mono fun e w' ⟨h, hb⟩ => by
    rcases h with ⟨r, _, rfl⟩ | ⟨_, c, _, rfl⟩
    · exact ⟨r, 0, rfl, hb⟩
    · exact ⟨[], c, rfl, hb⟩
theorem hex_none {x : List UInt8} (hx : x.length < 4294967281) (hn : bytesL x = none) (w : World) : Calls Tryz.prog 69 #[.string (bs x)] w fun e w' => ∃ c : Int, (c == 0) = false ∧ e = .returned (.tuple #[.string (bs []), .int .i64 c]) ∧ Below w.heap.size w w' :=
  (hexbytes_any x hx w).mono fun e w' ⟨h, hb⟩ => by
    rcases h with ⟨r, h1, rfl⟩ | ⟨_, c, hc, rfl⟩
    · rw [hn] at h1; simp at h1
    · exact ⟨c, by simpa using hc, rfl, hb⟩
theorem hex_val {x d : List UInt8} (hx : x.length < 4294967281) (hn : bytesL x = some d) (w : World) : Calls Tryz.prog 69 #[.string (bs x)] w fun e w' => e = .returned (.tuple #[.string (bs d), .int .i64 0]) ∧ Below w.heap.size w w' :=
  (hexbytes_any x hx w).mono fun e w' ⟨h, hb⟩ => by
    rcases h with ⟨r, h1, rfl⟩ | ⟨h1, _⟩
    · rw [hn] at h1; simp only [Option.some.injEq] at h1; subst h1; exact ⟨rfl, hb⟩
    · rw [hn] at h1; simp at h1
theorem parse_any (l : List UInt8) (hl : l.length < 4294967281) (w : World) : Calls Tryz.prog 37 #[.string (bs l)] w fun e w' => ParsOut (parseL l) e ∧ Below w.heap.size w w' := by
  have hP := Lib.hid (show parseL l = parseTo (linesL l) 5 from rfl)
  obtain ⟨ls, hls⟩ : ∃ ls, ls = linesL l := ⟨_, rfl⟩
  have hsp : ∀ w, Calls Tryz.prog 66 #[.string (bs l), .string ⟨#[10]⟩] w (fun e w' => ∃ g cap, e = .returned (.slice (some ⟨g, 0, none⟩) ls.length cap) ∧ PreS w' g ls ∧ w.heap.size ≤ g ∧ Below w.heap.size w w') := fun w => by rw [hls]; exact split_any l hl w
  rw [← hls] at hP
  have HLn := Lib.hid (show ∀ i, (lnA ls i).length < 4294967281 from fun i => by have := lnA_len l i; rw [hls]; omega)
  clear hls
  have Hsp := Lib.hid hsp
  clear hsp
  go_enter Tryz.func37, Tryz.ntmps37
  go_wp2_with (first
    | (go_at_call 66; refine (Hsp.out _).mono ?_; rintro e1 w1 ⟨g, cap, rfl, hp1, hp2, hp3⟩; have HP := Lib.hid hp1; have HB := Lib.hid hp3; have Hge := Lib.hid hp2; clear hp1 hp2 hp3))
  have HR0 := Lib.hid (show MAt w1 w.heap.size man0 from (Blk.new w man0.cells 34).below HB.out)
  have HB1 := Lib.hid (show Below w.heap.size w w1 from ((Below.refl w.heap.size w).alloc (Nat.le_refl _) _).trans (HB.out.mono (by simp)))
  have hg1 : w.heap.size < g := by have := Hge.out; simp at this; omega
  have hg2 : g < w1.heap.size := HP.out.lt
  obtain ⟨gm, hgm⟩ : ∃ v, v = w1.heap.size := ⟨_, rfl⟩
  have HM := Lib.hid (show MAt (w1.alloc (.cells man0.cells 34)) gm man0 by rw [hgm]; exact Blk.new w1 man0.cells 34)
  rw [← hgm] at hg2 ⊢
  have hal := (Below.refl w1.heap.size w1).alloc (Nat.le_refl _) (.cells man0.cells 34)
  have HR1 := Lib.hid (show MAt (w1.alloc (.cells man0.cells 34)) w.heap.size man0 from Blk.below HR0.out hal)
  have HP1 := Lib.hid (HP.out.below hal)
  have HB2 := Lib.hid (HB1.out.trans (hal.mono HB1.out.size))
  obtain ⟨w2, hw2⟩ : ∃ v, v = w1.alloc (.cells man0.cells 34) := ⟨_, rfl⟩
  rw [← hw2] at HM HR1 HP1 HB2
  have Hgm := Lib.hid hgm
  have Hw2 := Lib.hid hw2
  clear hal hgm hw2 HR0 HB1 HP Hge
  obtain ⟨gr, hgr⟩ : ∃ v, v = w.heap.size := ⟨_, rfl⟩
  rw [← hgr] at HR1 HB2 hg1 ⊢
  have Hgr := Lib.hid hgr
  clear hgr
  go_loopg [17] 5 (fun k x wr => ∃ (i : Nat) (m : Man), i + k = 5 ∧ x = .int .i64 (i : Int) ∧ parseTo ls i = some m ∧ MAt wr gm m ∧ MAt wr gr man0 ∧ PreS wr g ls ∧ Below gr w wr)
  case atStart => exact ⟨0, man0, by omega, rfl, rfl, by have := HM.out; rw [Hw2.out] at this; exact this, by have := HR1.out; rw [Hw2.out] at this; exact this, by have := HP1.out; rw [Hw2.out] at this; exact this, by have := HB2.out; rw [Hw2.out] at this; exact this⟩
  case round =>
    clear HM HR1 HP1 HB2
    obtain ⟨i, m, hi, rfl, hp, hm, hr, hx, hb⟩ := hrel
    have Hp := Lib.hid hp
    have HM := Lib.hid hm
    have HR := Lib.hid hr
    have HX := Lib.hid hx
    have HB := Lib.hid hb
    have r0 : wr.cell? ⟨gr, 0, none⟩ = some (.int .i64 0) := by rw [Blk.cell HR.out]; rfl
    have r1 : wr.cell? ⟨gr, 1, none⟩ = some (.int .i64 0) := by rw [Blk.cell HR.out]; rfl
    have r2 : wr.cell? ⟨gr, 2, none⟩ = some (.string ByteArray.empty) := by rw [Blk.cell HR.out]; rfl
    have rf := fun i => Blk.free HR.out i
    have m0 : wr.cell? ⟨gm, 0, none⟩ = some (.int .i64 (m.v : Int)) := by rw [Blk.cell HM.out]; rfl
    have m1 : wr.cell? ⟨gm, 1, none⟩ = some (.int .i64 (m.n : Int)) := by rw [Blk.cell HM.out]; rfl
    have m2 : wr.cell? ⟨gm, 2, none⟩ = some (.string (bs m.d)) := by rw [Blk.cell HM.out]; rfl
    have mf := fun i => Blk.free HM.out i
    clear hp hm hr hx hb
    cases gk with
    | zero =>
      obtain rfl : i = 5 := by omega
      rw [show ((5 : Nat) : Int) = 5 from rfl]
      have Hfin := Lib.hid (show parseL l = some m by rw [hP.out, Hp.out])
      go_wp2_with fail
      refine bodyPost_ret (results_man (p := 2) (u := 3) (v := 4) (by kernel_rfl) _ _ gr m rfl (MAt.put HR.out m.v m.n m.d)) rfl ?_
      rw [Hfin.out]
      refine ⟨rfl, ?_⟩
      have := HB.out
      rw [Hgr.out] at this ⊢
      exact below_put3 this (Nat.le_refl _) _ _ _
    | succ k =>
      have hi5 : i < 5 := by omega
      have hil : decide ((i : Int) < 5) = true := decide_eq_true (by omega)
      have Hno := Lib.hid (show parseTo ls (i + 1) = none → parseL l = none from fun h => by
        rw [hP.out, show 5 = (i + 1) + (4 - i) by omega]; exact parseTo_none ls (i + 1) h _)
      have Hst := Lib.hid (show parseTo ls (i + 1) = if i < ls.length then stepM ls.length i (lnA ls i) m else none by rw [parseTo, Hp.out])
      have Hln := Lib.hid (show ∀ h : i < ls.length, wr.cell? ⟨g, i, none⟩ = some (.string (bs (lnA ls i))) from fun h => by
        rw [HX.out.cell i h, lnA, List.getElem?_eq_getElem h]; rfl)
      have Hend := Lib.hid (show ∀ W, Below gr w W → Below w.heap.size w (((W.setCell ⟨gr, 0, none⟩ (.int .i64 0)).setCell ⟨gr, 1, none⟩ (.int .i64 0)).setCell ⟨gr, 2, none⟩ (.string { data := #[] })) from fun W h => by
        have h2 := Hgr.out; subst h2; exact below_put3 h (Nat.le_refl _) _ _ _)
      by_cases h0 : i = 0
      · subst h0
        rw [show ((0 : Nat) : Int) = 0 from rfl]
        by_cases hhas : 0 < ls.length
        · have hne : decide (0 < (ls.length : Int)) = true := decide_eq_true (by omega)
          have hln := Hln.out hhas
          rw [if_pos hhas] at Hst
          obtain ⟨x, hx⟩ : ∃ x, x = lnA ls 0 := ⟨_, rfl⟩
          rw [← hx] at hln Hst
          have t1 := bs_toList x
          clear hx
          by_cases hxw : x = wHead
          · have hq : (x == [116, 105, 110, 100, 101, 114, 98, 111, 120, 32, 105, 109, 97, 103, 101]) = true := by rw [beq_iff_eq]; exact hxw
            have Hs := Lib.hid (show parseTo ls (0 + 1) = some m by rw [Hst.out, stepM, if_pos rfl, if_pos hxw])
            clear hxw
            go_wp2_with fail
            go_roundg k
            case measure => omega
            case rel => exact ⟨1, m, by omega, rfl, Hs.out, HM.out, HR.out, HX.out, HB.out⟩
          · have hq : (x == [116, 105, 110, 100, 101, 114, 98, 111, 120, 32, 105, 109, 97, 103, 101]) = false := beq_eq_false_iff_ne.2 hxw
            have Hs := Lib.hid (Hno.out (by rw [Hst.out, stepM, if_pos rfl, if_neg hxw]))
            clear hxw
            go_wp2_with fail
            refine bodyPost_ret (results_man (p := 2) (u := 3) (v := 4) (by kernel_rfl) _ _ gr man0 rfl HR.out.put0) rfl ?_
            rw [Hs.out]
            exact ⟨⟨1, by decide, by decide, rfl⟩, Hend.out _ HB.out⟩
        · have hne : decide (0 < (ls.length : Int)) = false := decide_eq_false (by omega)
          have Hs := Lib.hid (Hno.out (by rw [Hst.out, if_neg hhas]))
          go_wp2_with fail
          refine bodyPost_ret (results_man (p := 2) (u := 3) (v := 4) (by kernel_rfl) _ _ gr man0 rfl HR.out.put0) rfl ?_
          rw [Hs.out]
          exact ⟨⟨1, by decide, by decide, rfl⟩, Hend.out _ HB.out⟩
      · by_cases h1 : i = 1
        · subst h1
          rw [show ((1 : Nat) : Int) = 1 from rfl]
          have hgg : gr ≠ gm := by omega
          by_cases hhas : 1 < ls.length
          · have hne : decide (1 < (ls.length : Int)) = true := decide_eq_true (by omega)
            have hln := Hln.out hhas
            rw [if_pos hhas] at Hst
            have hxl := HLn.out 1
            obtain ⟨x, hx⟩ : ∃ x, x = lnA ls 1 := ⟨_, rfl⟩
            rw [← hx] at hln Hst hxl
            clear hx
            cases hn : numL2 wVer x 1073741824 with
            | none =>
              have Hnum := Lib.hid (show ∀ w, Calls Tryz.prog 67 #[.string (bs x), .string { data := #[118, 101, 114, 115, 105, 111, 110] }, .int .i64 1073741824] w (fun e w' => ∃ n : Nat, e = .returned (.tuple #[.int .i64 (n : Int), .bool false]) ∧ Below w.heap.size w w') from num_none hxl (by decide) hn)
              have Hs := Lib.hid (Hno.out (by rw [Hst.out, stepM, if_neg (by decide), if_pos rfl, hn]))
              clear hn hxl
              go_wp2_with (first
                | (go_at_call 67; refine (Hnum.out _).mono ?_; rintro e1 w3 ⟨n, rfl, hb3⟩; have HB3 := Lib.hid (HB.out.trans (hb3.mono (Nat.le_of_lt (Blk.lt HR.out)))); have HR3 := Lib.hid (show MAt w3 gr man0 from Blk.below HR.out hb3); have HM3 := Lib.hid (show MAt w3 gm m from Blk.below HM.out hb3); have HX3 := Lib.hid (HX.out.below hb3); have rf3 := fun i => Blk.free HR3.out i; have mf3 := fun i => Blk.free HM3.out i; have r03 : w3.cell? ⟨gr, 0, none⟩ = some (.int .i64 0) := (by rw [Blk.cell HR3.out]; rfl); have r13 : w3.cell? ⟨gr, 1, none⟩ = some (.int .i64 0) := (by rw [Blk.cell HR3.out]; rfl); have r23 : w3.cell? ⟨gr, 2, none⟩ = some (.string ByteArray.empty) := (by rw [Blk.cell HR3.out]; rfl); have m03 : w3.cell? ⟨gm, 0, none⟩ = some (.int .i64 (m.v : Int)) := (by rw [Blk.cell HM3.out]; rfl); have m13 : w3.cell? ⟨gm, 1, none⟩ = some (.int .i64 (m.n : Int)) := (by rw [Blk.cell HM3.out]; rfl); clear hb3))
              refine bodyPost_ret (results_man (p := 2) (u := 3) (v := 4) (by kernel_rfl) _ _ gr man0 rfl (MAt.put0 (m := man0) (Blk.far HR3.out (p := ⟨gm, 0, none⟩) hgg _))) rfl ?_
              rw [Hs.out]
              exact ⟨⟨2, by decide, by decide, rfl⟩, Hend.out _ (HB3.out.setCell (p := ⟨gm, 0, none⟩) (show gr ≤ gm by omega) _)⟩
            | some n =>
              have Hnum := Lib.hid (show ∀ w, Calls Tryz.prog 67 #[.string (bs x), .string { data := #[118, 101, 114, 115, 105, 111, 110] }, .int .i64 1073741824] w (fun e w' => e = .returned (.tuple #[.int .i64 (n : Int), .bool true]) ∧ Below w.heap.size w w') from num_some hxl (by decide) hn)
              by_cases h1n : 1 ≤ n
              · have Hs := Lib.hid (show parseTo ls (1 + 1) = some ⟨n, m.n, m.d⟩ by rw [Hst.out, stepM, if_neg (by decide), if_pos rfl, hn]; simp only [if_pos h1n])
                have hd : decide (1 ≤ (n : Int)) = true := decide_eq_true (by omega)
                clear hn hxl
                go_wp2_with (first
                  | (go_at_call 67; refine (Hnum.out _).mono ?_; rintro e1 w3 ⟨rfl, hb3⟩; have HB3 := Lib.hid (HB.out.trans (hb3.mono (Nat.le_of_lt (Blk.lt HR.out)))); have HR3 := Lib.hid (show MAt w3 gr man0 from Blk.below HR.out hb3); have HM3 := Lib.hid (show MAt w3 gm m from Blk.below HM.out hb3); have HX3 := Lib.hid (HX.out.below hb3); have rf3 := fun i => Blk.free HR3.out i; have mf3 := fun i => Blk.free HM3.out i; have r03 : w3.cell? ⟨gr, 0, none⟩ = some (.int .i64 0) := (by rw [Blk.cell HR3.out]; rfl); have r13 : w3.cell? ⟨gr, 1, none⟩ = some (.int .i64 0) := (by rw [Blk.cell HR3.out]; rfl); have r23 : w3.cell? ⟨gr, 2, none⟩ = some (.string ByteArray.empty) := (by rw [Blk.cell HR3.out]; rfl); have m03 : w3.cell? ⟨gm, 0, none⟩ = some (.int .i64 (m.v : Int)) := (by rw [Blk.cell HM3.out]; rfl); have m13 : w3.cell? ⟨gm, 1, none⟩ = some (.int .i64 (m.n : Int)) := (by rw [Blk.cell HM3.out]; rfl); clear hb3))
                go_roundg k
                case measure => omega
                case rel => exact ⟨2, ⟨n, m.n, m.d⟩, by omega, rfl, Hs.out, HM3.out.setV n, Blk.far HR3.out (p := ⟨gm, 0, none⟩) hgg _, HX3.out.far (p := ⟨gm, 0, none⟩) (show g ≠ gm by omega) _, HB3.out.setCell (p := ⟨gm, 0, none⟩) (show gr ≤ gm by omega) _⟩
              · have Hs := Lib.hid (Hno.out (by rw [Hst.out, stepM, if_neg (by decide), if_pos rfl, hn]; simp only [if_neg h1n]))
                have hd : decide (1 ≤ (n : Int)) = false := decide_eq_false (by omega)
                clear hn hxl h1n
                go_wp2_with (first
                  | (go_at_call 67; refine (Hnum.out _).mono ?_; rintro e1 w3 ⟨rfl, hb3⟩; have HB3 := Lib.hid (HB.out.trans (hb3.mono (Nat.le_of_lt (Blk.lt HR.out)))); have HR3 := Lib.hid (show MAt w3 gr man0 from Blk.below HR.out hb3); have HM3 := Lib.hid (show MAt w3 gm m from Blk.below HM.out hb3); have HX3 := Lib.hid (HX.out.below hb3); have rf3 := fun i => Blk.free HR3.out i; have mf3 := fun i => Blk.free HM3.out i; have r03 : w3.cell? ⟨gr, 0, none⟩ = some (.int .i64 0) := (by rw [Blk.cell HR3.out]; rfl); have r13 : w3.cell? ⟨gr, 1, none⟩ = some (.int .i64 0) := (by rw [Blk.cell HR3.out]; rfl); have r23 : w3.cell? ⟨gr, 2, none⟩ = some (.string ByteArray.empty) := (by rw [Blk.cell HR3.out]; rfl); have m03 : w3.cell? ⟨gm, 0, none⟩ = some (.int .i64 (m.v : Int)) := (by rw [Blk.cell HM3.out]; rfl); have m13 : w3.cell? ⟨gm, 1, none⟩ = some (.int .i64 (m.n : Int)) := (by rw [Blk.cell HM3.out]; rfl); clear hb3))
                refine bodyPost_ret (results_man (p := 2) (u := 3) (v := 4) (by kernel_rfl) _ _ gr man0 rfl (MAt.put0 (m := man0) (Blk.far HR3.out (p := ⟨gm, 0, none⟩) hgg _))) rfl ?_
                rw [Hs.out]
                exact ⟨⟨2, by decide, by decide, rfl⟩, Hend.out _ (HB3.out.setCell (p := ⟨gm, 0, none⟩) (show gr ≤ gm by omega) _)⟩
          · have hne : decide (1 < (ls.length : Int)) = false := decide_eq_false (by omega)
            have Hs := Lib.hid (Hno.out (by rw [Hst.out, if_neg hhas]))
            have Hnum := Lib.hid (show ∀ w, Calls Tryz.prog 67 #[.string { data := #[] }, .string { data := #[118, 101, 114, 115, 105, 111, 110] }, .int .i64 1073741824] w (fun e w' => ∃ n : Nat, e = .returned (.tuple #[.int .i64 (n : Int), .bool false]) ∧ Below w.heap.size w w') from num_none (x := []) (wd := wVer) (by decide) (by decide) (by decide))
            go_wp2_with (first
              | (go_at_call 67; refine (Hnum.out _).mono ?_; rintro e1 w3 ⟨n, rfl, hb3⟩; have HB3 := Lib.hid (HB.out.trans (hb3.mono (Nat.le_of_lt (Blk.lt HR.out)))); have HR3 := Lib.hid (show MAt w3 gr man0 from Blk.below HR.out hb3); have HM3 := Lib.hid (show MAt w3 gm m from Blk.below HM.out hb3); have HX3 := Lib.hid (HX.out.below hb3); have rf3 := fun i => Blk.free HR3.out i; have mf3 := fun i => Blk.free HM3.out i; have r03 : w3.cell? ⟨gr, 0, none⟩ = some (.int .i64 0) := (by rw [Blk.cell HR3.out]; rfl); have r13 : w3.cell? ⟨gr, 1, none⟩ = some (.int .i64 0) := (by rw [Blk.cell HR3.out]; rfl); have r23 : w3.cell? ⟨gr, 2, none⟩ = some (.string ByteArray.empty) := (by rw [Blk.cell HR3.out]; rfl); have m03 : w3.cell? ⟨gm, 0, none⟩ = some (.int .i64 (m.v : Int)) := (by rw [Blk.cell HM3.out]; rfl); have m13 : w3.cell? ⟨gm, 1, none⟩ = some (.int .i64 (m.n : Int)) := (by rw [Blk.cell HM3.out]; rfl); clear hb3))
            refine bodyPost_ret (results_man (p := 2) (u := 3) (v := 4) (by kernel_rfl) _ _ gr man0 rfl (MAt.put0 (m := man0) (Blk.far HR3.out (p := ⟨gm, 0, none⟩) hgg _))) rfl ?_
            rw [Hs.out]
            exact ⟨⟨2, by decide, by decide, rfl⟩, Hend.out _ (HB3.out.setCell (p := ⟨gm, 0, none⟩) (show gr ≤ gm by omega) _)⟩
        · by_cases h2 : i = 2
          · subst h2
            rw [show ((2 : Nat) : Int) = 2 from rfl]
            have hgg : gr ≠ gm := by omega
            by_cases hhas : 2 < ls.length
            · have hne : decide (2 < (ls.length : Int)) = true := decide_eq_true (by omega)
              have hln := Hln.out hhas
              rw [if_pos hhas] at Hst
              have hxl := HLn.out 2
              obtain ⟨x, hx⟩ : ∃ x, x = lnA ls 2 := ⟨_, rfl⟩
              rw [← hx] at hln Hst hxl
              clear hx
              cases hn : numL2 wLen x 1048576 with
              | none =>
                have Hnum := Lib.hid (show ∀ w, Calls Tryz.prog 67 #[.string (bs x), .string { data := #[108, 101, 110, 103, 116, 104] }, .int .i64 1048576] w (fun e w' => ∃ n : Nat, e = .returned (.tuple #[.int .i64 (n : Int), .bool false]) ∧ Below w.heap.size w w') from num_none hxl (by decide) hn)
                have Hs := Lib.hid (Hno.out (by rw [Hst.out, stepM, if_neg (by decide), if_neg (by decide), if_pos rfl, hn]))
                clear hn hxl
                go_wp2_with (first
                  | (go_at_call 67; refine (Hnum.out _).mono ?_; rintro e1 w3 ⟨n, rfl, hb3⟩; have HB3 := Lib.hid (HB.out.trans (hb3.mono (Nat.le_of_lt (Blk.lt HR.out)))); have HR3 := Lib.hid (show MAt w3 gr man0 from Blk.below HR.out hb3); have HM3 := Lib.hid (show MAt w3 gm m from Blk.below HM.out hb3); have HX3 := Lib.hid (HX.out.below hb3); have rf3 := fun i => Blk.free HR3.out i; have mf3 := fun i => Blk.free HM3.out i; have r03 : w3.cell? ⟨gr, 0, none⟩ = some (.int .i64 0) := (by rw [Blk.cell HR3.out]; rfl); have r13 : w3.cell? ⟨gr, 1, none⟩ = some (.int .i64 0) := (by rw [Blk.cell HR3.out]; rfl); have r23 : w3.cell? ⟨gr, 2, none⟩ = some (.string ByteArray.empty) := (by rw [Blk.cell HR3.out]; rfl); have m03 : w3.cell? ⟨gm, 0, none⟩ = some (.int .i64 (m.v : Int)) := (by rw [Blk.cell HM3.out]; rfl); have m13 : w3.cell? ⟨gm, 1, none⟩ = some (.int .i64 (m.n : Int)) := (by rw [Blk.cell HM3.out]; rfl); clear hb3))
                refine bodyPost_ret (results_man (p := 2) (u := 3) (v := 4) (by kernel_rfl) _ _ gr man0 rfl (MAt.put0 (m := man0) (Blk.far HR3.out (p := ⟨gm, 1, none⟩) hgg _))) rfl ?_
                rw [Hs.out]
                exact ⟨⟨3, by decide, by decide, rfl⟩, Hend.out _ (HB3.out.setCell (p := ⟨gm, 1, none⟩) (show gr ≤ gm by omega) _)⟩
              | some n =>
                have Hnum := Lib.hid (show ∀ w, Calls Tryz.prog 67 #[.string (bs x), .string { data := #[108, 101, 110, 103, 116, 104] }, .int .i64 1048576] w (fun e w' => e = .returned (.tuple #[.int .i64 (n : Int), .bool true]) ∧ Below w.heap.size w w') from num_some hxl (by decide) hn)
                have Hs := Lib.hid (show parseTo ls (2 + 1) = some ⟨m.v, n, m.d⟩ by rw [Hst.out, stepM, if_neg (by decide), if_neg (by decide), if_pos rfl, hn])
                clear hn hxl
                go_wp2_with (first
                  | (go_at_call 67; refine (Hnum.out _).mono ?_; rintro e1 w3 ⟨rfl, hb3⟩; have HB3 := Lib.hid (HB.out.trans (hb3.mono (Nat.le_of_lt (Blk.lt HR.out)))); have HR3 := Lib.hid (show MAt w3 gr man0 from Blk.below HR.out hb3); have HM3 := Lib.hid (show MAt w3 gm m from Blk.below HM.out hb3); have HX3 := Lib.hid (HX.out.below hb3); have rf3 := fun i => Blk.free HR3.out i; have mf3 := fun i => Blk.free HM3.out i; have r03 : w3.cell? ⟨gr, 0, none⟩ = some (.int .i64 0) := (by rw [Blk.cell HR3.out]; rfl); have r13 : w3.cell? ⟨gr, 1, none⟩ = some (.int .i64 0) := (by rw [Blk.cell HR3.out]; rfl); have r23 : w3.cell? ⟨gr, 2, none⟩ = some (.string ByteArray.empty) := (by rw [Blk.cell HR3.out]; rfl); have m03 : w3.cell? ⟨gm, 0, none⟩ = some (.int .i64 (m.v : Int)) := (by rw [Blk.cell HM3.out]; rfl); have m13 : w3.cell? ⟨gm, 1, none⟩ = some (.int .i64 (m.n : Int)) := (by rw [Blk.cell HM3.out]; rfl); clear hb3))
                go_roundg k
                case measure => omega
                case rel => exact ⟨3, ⟨m.v, n, m.d⟩, by omega, rfl, Hs.out, HM3.out.setN n, Blk.far HR3.out (p := ⟨gm, 1, none⟩) hgg _, HX3.out.far (p := ⟨gm, 1, none⟩) (show g ≠ gm by omega) _, HB3.out.setCell (p := ⟨gm, 1, none⟩) (show gr ≤ gm by omega) _⟩
            · have hne : decide (2 < (ls.length : Int)) = false := decide_eq_false (by omega)
              have Hs := Lib.hid (Hno.out (by rw [Hst.out, if_neg hhas]))
              have Hnum := Lib.hid (show ∀ w, Calls Tryz.prog 67 #[.string { data := #[] }, .string { data := #[108, 101, 110, 103, 116, 104] }, .int .i64 1048576] w (fun e w' => ∃ n : Nat, e = .returned (.tuple #[.int .i64 (n : Int), .bool false]) ∧ Below w.heap.size w w') from num_none (x := []) (wd := wLen) (by decide) (by decide) (by decide))
              go_wp2_with (first
                | (go_at_call 67; refine (Hnum.out _).mono ?_; rintro e1 w3 ⟨n, rfl, hb3⟩; have HB3 := Lib.hid (HB.out.trans (hb3.mono (Nat.le_of_lt (Blk.lt HR.out)))); have HR3 := Lib.hid (show MAt w3 gr man0 from Blk.below HR.out hb3); have HM3 := Lib.hid (show MAt w3 gm m from Blk.below HM.out hb3); have HX3 := Lib.hid (HX.out.below hb3); have rf3 := fun i => Blk.free HR3.out i; have mf3 := fun i => Blk.free HM3.out i; have r03 : w3.cell? ⟨gr, 0, none⟩ = some (.int .i64 0) := (by rw [Blk.cell HR3.out]; rfl); have r13 : w3.cell? ⟨gr, 1, none⟩ = some (.int .i64 0) := (by rw [Blk.cell HR3.out]; rfl); have r23 : w3.cell? ⟨gr, 2, none⟩ = some (.string ByteArray.empty) := (by rw [Blk.cell HR3.out]; rfl); have m03 : w3.cell? ⟨gm, 0, none⟩ = some (.int .i64 (m.v : Int)) := (by rw [Blk.cell HM3.out]; rfl); have m13 : w3.cell? ⟨gm, 1, none⟩ = some (.int .i64 (m.n : Int)) := (by rw [Blk.cell HM3.out]; rfl); clear hb3))
              refine bodyPost_ret (results_man (p := 2) (u := 3) (v := 4) (by kernel_rfl) _ _ gr man0 rfl (MAt.put0 (m := man0) (Blk.far HR3.out (p := ⟨gm, 1, none⟩) hgg _))) rfl ?_
              rw [Hs.out]
              exact ⟨⟨3, by decide, by decide, rfl⟩, Hend.out _ (HB3.out.setCell (p := ⟨gm, 1, none⟩) (show gr ≤ gm by omega) _)⟩
          · by_cases h3 : i = 3
            · subst h3
              rw [show ((3 : Nat) : Int) = 3 from rfl]
              have hgg : gr ≠ gm := by omega
              by_cases hhas : 3 < ls.length
              · have hne : decide (3 < (ls.length : Int)) = true := decide_eq_true (by omega)
                have hln := Hln.out hhas
                rw [if_pos hhas] at Hst
                have hxl := HLn.out 3
                obtain ⟨x, hx⟩ : ∃ x, x = lnA ls 3 := ⟨_, rfl⟩
                rw [← hx] at hln Hst hxl
                clear hx
                cases hbh : behindL wDig x with
                | none =>
                  have Hcut := Lib.hid (show ∀ w, Calls Tryz.prog 68 #[.string (bs x), .string { data := #[100, 105, 103, 101, 115, 116, 32] }] w (fun e w' => e = .returned (.tuple #[.string (bs x), .bool false]) ∧ w' = w) from cut_none hbh)
                  have Hbx := Lib.hid (show ∀ w, Calls Tryz.prog 69 #[.string (bs x)] w (fun e w' => ∃ (dg : List UInt8) (c : Int), e = .returned (.tuple #[.string (bs dg), .int .i64 c]) ∧ Below w.heap.size w w') from hex_some hxl)
                  have Hs := Lib.hid (Hno.out (by rw [Hst.out, stepM, if_neg (by decide), if_neg (by decide), if_neg (by decide), if_pos rfl, hbh]; rfl))
                  clear hbh hxl
                  go_wp2_with (first
                    | (go_at_call 68; refine (Hcut.out _).mono ?_; rintro e0 w0 ⟨rfl, rfl⟩)
                    | (go_at_call 69; refine (Hbx.out _).mono ?_; rintro e1 w3 ⟨dg, cn, rfl, hb3⟩; have HB3 := Lib.hid (HB.out.trans (hb3.mono (Nat.le_of_lt (Blk.lt HR.out)))); have HR3 := Lib.hid (show MAt w3 gr man0 from Blk.below HR.out hb3); have HM3 := Lib.hid (show MAt w3 gm m from Blk.below HM.out hb3); have HX3 := Lib.hid (HX.out.below hb3); have rf3 := fun i => Blk.free HR3.out i; have mf3 := fun i => Blk.free HM3.out i; have r03 : w3.cell? ⟨gr, 0, none⟩ = some (.int .i64 0) := (by rw [Blk.cell HR3.out]; rfl); have r13 : w3.cell? ⟨gr, 1, none⟩ = some (.int .i64 0) := (by rw [Blk.cell HR3.out]; rfl); have r23 : w3.cell? ⟨gr, 2, none⟩ = some (.string ByteArray.empty) := (by rw [Blk.cell HR3.out]; rfl); have m23 : w3.cell? ⟨gm, 2, none⟩ = some (.string (bs m.d)) := (by rw [Blk.cell HM3.out]; rfl); clear hb3))
                  refine bodyPost_ret (results_man (p := 2) (u := 3) (v := 4) (by kernel_rfl) _ _ gr man0 rfl (MAt.put0 (m := man0) (Blk.far HR3.out (p := ⟨gm, 2, none⟩) hgg _))) rfl ?_
                  rw [Hs.out]
                  exact ⟨⟨4, by decide, by decide, rfl⟩, Hend.out _ (HB3.out.setCell (p := ⟨gm, 2, none⟩) (show gr ≤ gm by omega) _)⟩
                | some r =>
                  have hrl := behind_len hbh hxl
                  have Hcut := Lib.hid (show ∀ w, Calls Tryz.prog 68 #[.string (bs x), .string { data := #[100, 105, 103, 101, 115, 116, 32] }] w (fun e w' => e = .returned (.tuple #[.string (bs r), .bool true]) ∧ w' = w) from cut_some hbh)
                  cases hby : bytesL r with
                  | none =>
                    have Hbx := Lib.hid (show ∀ w, Calls Tryz.prog 69 #[.string (bs r)] w (fun e w' => ∃ c : Int, (c == 0) = false ∧ e = .returned (.tuple #[.string (bs []), .int .i64 c]) ∧ Below w.heap.size w w') from hex_none hrl hby)
                    have Hs := Lib.hid (Hno.out (by rw [Hst.out, stepM, if_neg (by decide), if_neg (by decide), if_neg (by decide), if_pos rfl, hbh, Option.bind, hby]))
                    clear hbh hxl hrl hby
                    go_wp2_with (first
                      | (go_at_call 68; refine (Hcut.out _).mono ?_; rintro e0 w0 ⟨rfl, rfl⟩)
                      | (go_at_call 69; refine (Hbx.out _).mono ?_; rintro e1 w3 ⟨cn, hcn, rfl, hb3⟩; have HB3 := Lib.hid (HB.out.trans (hb3.mono (Nat.le_of_lt (Blk.lt HR.out)))); have HR3 := Lib.hid (show MAt w3 gr man0 from Blk.below HR.out hb3); have HM3 := Lib.hid (show MAt w3 gm m from Blk.below HM.out hb3); have HX3 := Lib.hid (HX.out.below hb3); have rf3 := fun i => Blk.free HR3.out i; have mf3 := fun i => Blk.free HM3.out i; have r03 : w3.cell? ⟨gr, 0, none⟩ = some (.int .i64 0) := (by rw [Blk.cell HR3.out]; rfl); have r13 : w3.cell? ⟨gr, 1, none⟩ = some (.int .i64 0) := (by rw [Blk.cell HR3.out]; rfl); have r23 : w3.cell? ⟨gr, 2, none⟩ = some (.string ByteArray.empty) := (by rw [Blk.cell HR3.out]; rfl); have m23 : w3.cell? ⟨gm, 2, none⟩ = some (.string (bs m.d)) := (by rw [Blk.cell HM3.out]; rfl); clear hb3))
                    refine bodyPost_ret (results_man (p := 2) (u := 3) (v := 4) (by kernel_rfl) _ _ gr man0 rfl (MAt.put0 (m := man0) (Blk.far HR3.out (p := ⟨gm, 2, none⟩) hgg _))) rfl ?_
                    rw [Hs.out]
                    exact ⟨⟨4, by decide, by decide, rfl⟩, Hend.out _ (HB3.out.setCell (p := ⟨gm, 2, none⟩) (show gr ≤ gm by omega) _)⟩
                  | some d =>
                    have Hbx := Lib.hid (show ∀ w, Calls Tryz.prog 69 #[.string (bs r)] w (fun e w' => e = .returned (.tuple #[.string (bs d), .int .i64 0]) ∧ Below w.heap.size w w') from hex_val hrl hby)
                    have hds := bs_size d
                    by_cases h32 : d.length = 32
                    · have Hs := Lib.hid (show parseTo ls (3 + 1) = some ⟨m.v, m.n, d⟩ by rw [Hst.out, stepM, if_neg (by decide), if_neg (by decide), if_neg (by decide), if_pos rfl, hbh, Option.bind, hby]; simp only [if_pos h32])
                      have h32b : ((d.length : Int) == 32) = true := by rw [beq_iff_eq]; omega
                      clear hbh hxl hrl hby h32
                      go_wp2_with (first
                        | (go_at_call 68; refine (Hcut.out _).mono ?_; rintro e0 w0 ⟨rfl, rfl⟩)
                        | (go_at_call 69; refine (Hbx.out _).mono ?_; rintro e1 w3 ⟨rfl, hb3⟩; have HB3 := Lib.hid (HB.out.trans (hb3.mono (Nat.le_of_lt (Blk.lt HR.out)))); have HR3 := Lib.hid (show MAt w3 gr man0 from Blk.below HR.out hb3); have HM3 := Lib.hid (show MAt w3 gm m from Blk.below HM.out hb3); have HX3 := Lib.hid (HX.out.below hb3); have rf3 := fun i => Blk.free HR3.out i; have mf3 := fun i => Blk.free HM3.out i; have r03 : w3.cell? ⟨gr, 0, none⟩ = some (.int .i64 0) := (by rw [Blk.cell HR3.out]; rfl); have r13 : w3.cell? ⟨gr, 1, none⟩ = some (.int .i64 0) := (by rw [Blk.cell HR3.out]; rfl); have r23 : w3.cell? ⟨gr, 2, none⟩ = some (.string ByteArray.empty) := (by rw [Blk.cell HR3.out]; rfl); have m23 : w3.cell? ⟨gm, 2, none⟩ = some (.string (bs m.d)) := (by rw [Blk.cell HM3.out]; rfl); clear hb3))
                      go_roundg k
                      case measure => omega
                      case rel => exact ⟨4, ⟨m.v, m.n, d⟩, by omega, rfl, Hs.out, HM3.out.setD d, Blk.far HR3.out (p := ⟨gm, 2, none⟩) hgg _, HX3.out.far (p := ⟨gm, 2, none⟩) (show g ≠ gm by omega) _, HB3.out.setCell (p := ⟨gm, 2, none⟩) (show gr ≤ gm by omega) _⟩
                    · have Hs := Lib.hid (Hno.out (by rw [Hst.out, stepM, if_neg (by decide), if_neg (by decide), if_neg (by decide), if_pos rfl, hbh, Option.bind, hby]; simp only [if_neg h32]))
                      have h32b : ((d.length : Int) == 32) = false := beq_eq_false_iff_ne.2 (by omega)
                      clear hbh hxl hrl hby h32
                      go_wp2_with (first
                        | (go_at_call 68; refine (Hcut.out _).mono ?_; rintro e0 w0 ⟨rfl, rfl⟩)
                        | (go_at_call 69; refine (Hbx.out _).mono ?_; rintro e1 w3 ⟨rfl, hb3⟩; have HB3 := Lib.hid (HB.out.trans (hb3.mono (Nat.le_of_lt (Blk.lt HR.out)))); have HR3 := Lib.hid (show MAt w3 gr man0 from Blk.below HR.out hb3); have HM3 := Lib.hid (show MAt w3 gm m from Blk.below HM.out hb3); have HX3 := Lib.hid (HX.out.below hb3); have rf3 := fun i => Blk.free HR3.out i; have mf3 := fun i => Blk.free HM3.out i; have r03 : w3.cell? ⟨gr, 0, none⟩ = some (.int .i64 0) := (by rw [Blk.cell HR3.out]; rfl); have r13 : w3.cell? ⟨gr, 1, none⟩ = some (.int .i64 0) := (by rw [Blk.cell HR3.out]; rfl); have r23 : w3.cell? ⟨gr, 2, none⟩ = some (.string ByteArray.empty) := (by rw [Blk.cell HR3.out]; rfl); have m23 : w3.cell? ⟨gm, 2, none⟩ = some (.string (bs m.d)) := (by rw [Blk.cell HM3.out]; rfl); clear hb3))
                      refine bodyPost_ret (results_man (p := 2) (u := 3) (v := 4) (by kernel_rfl) _ _ gr man0 rfl (MAt.put0 (m := man0) (Blk.far HR3.out (p := ⟨gm, 2, none⟩) hgg _))) rfl ?_
                      rw [Hs.out]
                      exact ⟨⟨4, by decide, by decide, rfl⟩, Hend.out _ (HB3.out.setCell (p := ⟨gm, 2, none⟩) (show gr ≤ gm by omega) _)⟩
              · have hne : decide (3 < (ls.length : Int)) = false := decide_eq_false (by omega)
                have Hs := Lib.hid (Hno.out (by rw [Hst.out, if_neg hhas]))
                have Hcut := Lib.hid (show ∀ w, Calls Tryz.prog 68 #[.string { data := #[] }, .string { data := #[100, 105, 103, 101, 115, 116, 32] }] w (fun e w' => e = .returned (.tuple #[.string { data := #[] }, .bool false]) ∧ w' = w) from cut_none (x := []) (by decide))
                have Hbx := Lib.hid (show ∀ w, Calls Tryz.prog 69 #[.string { data := #[] }] w (fun e w' => ∃ (dg : List UInt8) (c : Int), e = .returned (.tuple #[.string (bs dg), .int .i64 c]) ∧ Below w.heap.size w w') from hex_some (x := []) (by decide))
                go_wp2_with (first
                  | (go_at_call 68; refine (Hcut.out _).mono ?_; rintro e0 w0 ⟨rfl, rfl⟩)
                  | (go_at_call 69; refine (Hbx.out _).mono ?_; rintro e1 w3 ⟨dg, cn, rfl, hb3⟩; have HB3 := Lib.hid (HB.out.trans (hb3.mono (Nat.le_of_lt (Blk.lt HR.out)))); have HR3 := Lib.hid (show MAt w3 gr man0 from Blk.below HR.out hb3); have HM3 := Lib.hid (show MAt w3 gm m from Blk.below HM.out hb3); have HX3 := Lib.hid (HX.out.below hb3); have rf3 := fun i => Blk.free HR3.out i; have mf3 := fun i => Blk.free HM3.out i; have r03 : w3.cell? ⟨gr, 0, none⟩ = some (.int .i64 0) := (by rw [Blk.cell HR3.out]; rfl); have r13 : w3.cell? ⟨gr, 1, none⟩ = some (.int .i64 0) := (by rw [Blk.cell HR3.out]; rfl); have r23 : w3.cell? ⟨gr, 2, none⟩ = some (.string ByteArray.empty) := (by rw [Blk.cell HR3.out]; rfl); have m23 : w3.cell? ⟨gm, 2, none⟩ = some (.string (bs m.d)) := (by rw [Blk.cell HM3.out]; rfl); clear hb3))
                refine bodyPost_ret (results_man (p := 2) (u := 3) (v := 4) (by kernel_rfl) _ _ gr man0 rfl (MAt.put0 (m := man0) (Blk.far HR3.out (p := ⟨gm, 2, none⟩) hgg _))) rfl ?_
                rw [Hs.out]
                exact ⟨⟨4, by decide, by decide, rfl⟩, Hend.out _ (HB3.out.setCell (p := ⟨gm, 2, none⟩) (show gr ≤ gm by omega) _)⟩
            · obtain rfl : i = 4 := by omega
              rw [show ((4 : Nat) : Int) = 4 from rfl]
              by_cases hhas : 4 < ls.length
              · have hne : decide (4 < (ls.length : Int)) = true := decide_eq_true (by omega)
                have hln := Hln.out hhas
                rw [if_pos hhas] at Hst
                obtain ⟨x, hx⟩ : ∃ x, x = lnA ls 4 := ⟨_, rfl⟩
                rw [← hx] at hln Hst
                clear hx
                have Hst4 := Lib.hid (show parseTo ls (4 + 1) = if x = [] ∧ ls.length = 5 then some m else none by rw [Hst.out, stepM, if_neg (by decide), if_neg (by decide), if_neg (by decide), if_neg (by decide)])
                by_cases hxe : x = []
                · subst hxe
                  have hq : (bs []).toList.isEmpty = true := bs_empty []
                  by_cases h5 : ls.length = 5
                  · have Hs := Lib.hid (show parseTo ls (4 + 1) = some m by rw [Hst4.out, if_pos ⟨rfl, h5⟩])
                    have h5b : ((ls.length : Int) == 5) = true := by rw [beq_iff_eq]; omega
                    clear h5
                    go_wp2_with fail
                    go_roundg k
                    case measure => omega
                    case rel => exact ⟨5, m, by omega, rfl, Hs.out, HM.out, HR.out, HX.out, HB.out⟩
                  · have Hs := Lib.hid (Hno.out (by rw [Hst4.out, if_neg (fun h => h5 h.2)]))
                    have h5b : ((ls.length : Int) == 5) = false := beq_eq_false_iff_ne.2 (by omega)
                    clear h5
                    go_wp2_with fail
                    refine bodyPost_ret (results_man (p := 2) (u := 3) (v := 4) (by kernel_rfl) _ _ gr man0 rfl HR.out.put0) rfl ?_
                    rw [Hs.out]
                    exact ⟨⟨5, by decide, by decide, rfl⟩, Hend.out _ HB.out⟩
                · have Hs := Lib.hid (Hno.out (by rw [Hst4.out, if_neg (fun h => hxe h.1)]))
                  have hq : (bs x).toList.isEmpty = false := by rw [bs_empty]; cases x with
                    | nil => exact absurd rfl hxe
                    | cons a b => rfl
                  clear hxe
                  go_wp2_with fail
                  refine bodyPost_ret (results_man (p := 2) (u := 3) (v := 4) (by kernel_rfl) _ _ gr man0 rfl HR.out.put0) rfl ?_
                  rw [Hs.out]
                  exact ⟨⟨5, by decide, by decide, rfl⟩, Hend.out _ HB.out⟩
              · have hne : decide (4 < (ls.length : Int)) = false := decide_eq_false (by omega)
                have h5b : ((ls.length : Int) == 5) = false := beq_eq_false_iff_ne.2 (by omega)
                have Hs := Lib.hid (Hno.out (by rw [Hst.out, if_neg hhas]))
                go_wp2_with fail
                refine bodyPost_ret (results_man (p := 2) (u := 3) (v := 4) (by kernel_rfl) _ _ gr man0 rfl HR.out.put0) rfl ?_
                rw [Hs.out]
                exact ⟨⟨5, by decide, by decide, rfl⟩, Hend.out _ HB.out⟩
end Go.Proofs.YticnmogeknlmeaaGreatDoor.B
