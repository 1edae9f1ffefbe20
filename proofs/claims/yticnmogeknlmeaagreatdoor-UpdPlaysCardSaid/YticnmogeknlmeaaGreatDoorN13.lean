/- Helper: manifests: the document's reading of them, walked. No condition. -/
import Derived.Test.YticnmogeknlmeaaGreatDoorN12
namespace Go.Proofs.YticnmogeknlmeaaGreatDoor.B
open Go.RowKit Go.Proofs.YticnmogeknlmeaaGreatDoorW.PrintWords Go.Proofs.YticnmogeknlmeaaGreatDoor.Later
set_option maxRecDepth 100000
set_option maxHeartbeats 1600000
theorem hex2_none {x : List UInt8} (hx : x.length < 4294967281) (hn : bytesL x = none) (w : World) : Calls Tryz.prog 84 #[.string (bs x)] w fun e w' => e = .returned (.tuple #[.string (bs []), .bool false]) ∧ Below w.heap.size w w' :=
  (refBytes_any x hx w).mono fun e w' ⟨h, hb⟩ => by
    rcases h with ⟨r, h1, rfl⟩ | ⟨_, rfl⟩
    · rw [hn] at h1; simp at h1
    · exact ⟨rfl, hb⟩
theorem hex2_val {x d : List UInt8} (hx : x.length < 4294967281) (hn : bytesL x = some d) (w : World) : Calls Tryz.prog 84 #[.string (bs x)] w fun e w' => e = .returned (.tuple #[.string (bs d), .bool true]) ∧ Below w.heap.size w w' :=
  (refBytes_any x hx w).mono fun e w' ⟨h, hb⟩ => by
    rcases h with ⟨r, h1, rfl⟩ | ⟨h1, _⟩
    · rw [hn] at h1; simp only [Option.some.injEq] at h1; subst h1; exact ⟨rfl, hb⟩
    · rw [hn] at h1; simp at h1
theorem results_man1 {fn : Func} {p u : Tmp} (h : fn.results = #[.cell p 34, .tmp u]) (tmps : Array Value) (w : World) (g : Nat) (m : Man) (hp : tmps.getD p undef = .pointer (some ⟨g, 0, none⟩)) (hm : MAt w g m) :
    (results fn tmps).run Tryz.prog w = .ok (.tuple #[.agg m.cells, tmps.getD u undef]) w := by
  have hp' : tmps[p]?.getD undef = .pointer (some ⟨g, 0, none⟩) := by simpa using hp
  have hl := run_loadVar_row (P := Tryz.prog) w g 34 34 m.cells (0, 0) _ hm Tryz.underlying34 rfl (by kernel_rfl)
  simp [results, h, hp', asAddr, hl]
/-- What the document answers of a text. -/
def RefParsOut (o : Option Man) (e : Ending) : Prop := match o with
  | some m => e = .returned (.tuple #[.agg m.cells, .int .i64 0])
  | none => ∃ k : Nat, 1 ≤ k ∧ e = .returned (.tuple #[.agg man0.cells, .int .i64 (k : Int)])
theorem refParse_any (l : List UInt8) (hl : l.length < 4294967281) (w : World) : Calls Tryz.prog 62 #[.string (bs l)] w fun e w' => RefParsOut (parseL l) e ∧ Below w.heap.size w w' := by
  have hP := Lib.hid (show parseL l = parseTo (linesL l) 5 from rfl)
  obtain ⟨ls, hls⟩ : ∃ ls, ls = linesL l := ⟨_, rfl⟩
  have hsp : ∀ w, Calls Tryz.prog 81 #[.string (bs l)] w (fun e w' => ∃ g cap, e = .returned (.slice (some ⟨g, 0, none⟩) ls.length cap) ∧ PreS w' g ls ∧ w.heap.size ≤ g ∧ Below w.heap.size w w') := fun w => by rw [hls]; exact lines_any l hl w
  rw [← hls] at hP
  have HLn := Lib.hid (show ∀ i, (lnA ls i).length < 4294967281 from fun i => by have := lnA_len l i; rw [hls]; omega)
  have hpos : 0 < ls.length := by rw [hls]; exact List.length_pos_iff.2 (linesL_ne l)
  clear hls
  have Hsp := Lib.hid hsp
  clear hsp
  obtain ⟨x0, hx0⟩ : ∃ x0, x0 = lnA ls 0 := ⟨_, rfl⟩
  have hne0 : decide ((ls.length : Int) < 1) = false := decide_eq_false (by omega)
  have Hst0 := Lib.hid (show parseTo ls 1 = if x0 = wHead then some man0 else none by rw [parseTo, parseTo, hx0]; simp only [if_pos hpos]; rw [stepM, if_pos rfl])
  have Hl0 := Lib.hid (show ∀ h : 0 < ls.length, encS (ls[0]'h) = .string (bs x0) from fun h => by rw [hx0, lnA, List.getElem?_eq_getElem h]; rfl)
  have t1 := bs_toList x0
  have hposH := Lib.hid hpos
  clear hx0 hpos
  by_cases hxw : x0 = wHead
  · have hq : (x0 == [116, 105, 110, 100, 101, 114, 98, 111, 120, 32, 105, 109, 97, 103, 101]) = true := by rw [beq_iff_eq]; exact hxw
    have Hs1 := Lib.hid (show parseTo ls 1 = some man0 by rw [Hst0.out, if_pos hxw])
    clear hxw
    go_enter Tryz.func62, Tryz.ntmps62
    go_wp2_with (first
      | (go_at_call 81; refine (Hsp.out _).mono ?_; rintro e1 w1 ⟨g, cap, rfl, hp1, hp2, hp3⟩; have HP := Lib.hid hp1; have HBa := Lib.hid hp3; have Hge := Lib.hid hp2; have hcl : (w1.alloc (.cells #[.int .i64 0, .int .i64 0, .string { data := #[] }] 34)).cell? ⟨g, 0, none⟩ = some (.string (bs x0)) := (PreS.cell (hp1.below ((Below.refl _ w1).alloc (Nat.le_refl _) _)) 0 hposH.out).trans (congrArg some (Hl0.out hposH.out)); clear hp1 hp2 hp3))
    have HR0 := Lib.hid (show MAt w1 w.heap.size man0 from (Blk.new w man0.cells 34).below HBa.out)
    have HB1 := Lib.hid (show Below w.heap.size w w1 from ((Below.refl w.heap.size w).alloc (Nat.le_refl _) _).trans (HBa.out.mono (by simp)))
    have hg1 : w.heap.size < g := by have := Hge.out; simp at this; omega
    have hg2 : g < w1.heap.size := HP.out.lt
    obtain ⟨gm, hgm⟩ : ∃ v, v = w1.heap.size := ⟨_, rfl⟩
    have HM := Lib.hid (show MAt (w1.alloc (.cells man0.cells 34)) gm man0 by rw [hgm]; exact Blk.new w1 man0.cells 34)
    rw [← hgm] at hg2 ⊢
    have hal := (Below.refl w1.heap.size w1).alloc (Nat.le_refl _) (.cells man0.cells 34)
    have HR1 := Lib.hid (show MAt (w1.alloc (.cells man0.cells 34)) w.heap.size man0 from Blk.below HR0.out hal)
    have HP1 := Lib.hid (HP.out.below hal)
    have HB2 := Lib.hid (HB1.out.trans (hal.mono HB1.out.size))
    obtain ⟨w2, hw2⟩ : ∃ v, v = w1.alloc (.cells man0.cells 34) := ⟨_, rfl⟩
    rw [← hw2] at HM HR1 HP1 HB2
    have Hgm := Lib.hid hgm
    have Hw2 := Lib.hid hw2
    clear hal hgm hw2 HR0 HB1 HP Hge hcl
    obtain ⟨gr, hgr⟩ : ∃ v, v = w.heap.size := ⟨_, rfl⟩
    rw [← hgr] at HR1 HB2 hg1 ⊢
    have Hgr := Lib.hid hgr
    clear hgr
    go_loopg [6] 3 (fun k x wr => ∃ (i : Nat) (m : Man), i + k = 4 ∧ 1 ≤ i ∧ x = .int .i64 (i : Int) ∧ parseTo ls i = some m ∧ MAt wr gm m ∧ MAt wr gr man0 ∧ PreS wr g ls ∧ Below gr w wr)
    case atStart => exact ⟨1, man0, by omega, by omega, rfl, Hs1.out, by have := HM.out; rw [Hw2.out] at this; exact this, by have := HR1.out; rw [Hw2.out] at this; exact this, by have := HP1.out; rw [Hw2.out] at this; exact this, by have := HB2.out; rw [Hw2.out] at this; exact this⟩
    case round =>
      clear HM HR1 HP1 HB2
      obtain ⟨i, m, hi, hi1, rfl, hp, hm, hr, hx, hb⟩ := hrel
      have Hp := Lib.hid hp
      have HM := Lib.hid hm
      have HR := Lib.hid hr
      have HX := Lib.hid hx
      have HB := Lib.hid hb
      have r0 : wr.cell? ⟨gr, 0, none⟩ = some (.int .i64 0) := by rw [Blk.cell HR.out]; rfl
      have r1 : wr.cell? ⟨gr, 1, none⟩ = some (.int .i64 0) := by rw [Blk.cell HR.out]; rfl
      have r2 : wr.cell? ⟨gr, 2, none⟩ = some (.string ByteArray.empty) := by rw [Blk.cell HR.out]; rfl
      have rf := fun i => Blk.free HR.out i
      have m0 : wr.cell? ⟨gm, 0, none⟩ = some (.int .i64 (m.v : Int)) := by rw [Blk.cell HM.out]; rfl
      have m1 : wr.cell? ⟨gm, 1, none⟩ = some (.int .i64 (m.n : Int)) := by rw [Blk.cell HM.out]; rfl
      have m2 : wr.cell? ⟨gm, 2, none⟩ = some (.string (bs m.d)) := by rw [Blk.cell HM.out]; rfl
      have mf := fun i => Blk.free HM.out i
      have hgg : gr ≠ gm := by omega
      have Hend := Lib.hid (show ∀ W, Below gr w W → Below w.heap.size w (((W.setCell ⟨gr, 0, none⟩ (.int .i64 0)).setCell ⟨gr, 1, none⟩ (.int .i64 0)).setCell ⟨gr, 2, none⟩ (.string { data := #[] })) from fun W h => by
        have h2 := Hgr.out; subst h2; exact below_put3 h (Nat.le_refl _) _ _ _)
      have Hln := Lib.hid (show ∀ h : i < ls.length, wr.cell? ⟨g, i, none⟩ = some (.string (bs (lnA ls i))) from fun h => by
        rw [HX.out.cell i h, lnA, List.getElem?_eq_getElem h]; rfl)
      have Hln2 := Lib.hid (show ∀ (h : i < ls.length) (o : Obj), (wr.alloc o).cell? ⟨g, i, none⟩ = some (.string (bs (lnA ls i))) from fun h o => by
        rw [(HX.out.below ((Below.refl _ wr).alloc (Nat.le_refl _) o)).cell i h, lnA, List.getElem?_eq_getElem h]; rfl)
      clear hp hm hr hx hb
      cases gk with
      | zero =>
        obtain rfl : i = 4 := by omega
        rw [show ((4 : Nat) : Int) = 4 from rfl]
        by_cases h5 : ls.length = 5
        · have h5b : ((ls.length : Int) != 5) = false := by rw [h5]; rfl
          have hln := Hln.out (by omega)
          have h45 : 4 < ls.length := by omega
          obtain ⟨x, hx⟩ : ∃ x, x = lnA ls 4 := ⟨_, rfl⟩
          rw [← hx] at hln
          have Hst4 := Lib.hid (show parseL l = if x = [] then some m else none by
            rw [hP.out, parseTo, Hp.out]
            simp only [if_pos (show 4 < ls.length by omega)]
            rw [stepM, if_neg (by decide), if_neg (by decide), if_neg (by decide), if_neg (by decide), ← hx]
            simp only [h5, and_true])
          clear hx h5
          by_cases hxe : x = []
          · subst hxe
            have hq9 : (bs []).toList.isEmpty = true := bs_empty []
            have Hfin := Lib.hid (show parseL l = some m by rw [Hst4.out, if_pos rfl])
            go_wp2_with fail
            refine bodyPost_ret (results_man1 (p := 2) (u := 3) (by kernel_rfl) _ _ gr m rfl (MAt.put HR.out m.v m.n m.d)) rfl ?_
            rw [Hfin.out]
            refine ⟨rfl, ?_⟩
            have := HB.out
            rw [Hgr.out] at this ⊢
            exact below_put3 this (Nat.le_refl _) _ _ _
          · have hq9 : (bs x).toList.isEmpty = false := by
              rw [bs_empty]
              cases x with
              | nil => exact absurd rfl hxe
              | cons a b => rfl
            have Hs := Lib.hid (show parseL l = none by rw [Hst4.out, if_neg hxe])
            clear hxe
            go_wp2_with fail
            refine bodyPost_ret (results_man1 (p := 2) (u := 3) (by kernel_rfl) _ _ gr man0 rfl HR.out.put0) rfl ?_
            rw [Hs.out]
            exact ⟨⟨5, by decide, rfl⟩, Hend.out _ HB.out⟩
        · have h5b : ((ls.length : Int) != 5) = true := by rw [bne_iff_ne]; omega
          have Hs := Lib.hid (show parseL l = none by
            rw [hP.out, parseTo, Hp.out]
            simp only []
            split
            · rw [stepM, if_neg (by decide), if_neg (by decide), if_neg (by decide), if_neg (by decide), if_neg (fun h => h5 h.2)]
            · rfl)
          clear h5
          go_wp2_with fail
          refine bodyPost_ret (results_man1 (p := 2) (u := 3) (by kernel_rfl) _ _ gr man0 rfl HR.out.put0) rfl ?_
          rw [Hs.out]
          exact ⟨⟨5, by decide, rfl⟩, Hend.out _ HB.out⟩
      | succ k =>
        have hi5 : i < 4 := by omega
        have hil : decide ((i : Int) < 4) = true := decide_eq_true (by omega)
        have Hno := Lib.hid (show parseTo ls (i + 1) = none → parseL l = none from fun h => by
          rw [hP.out, show 5 = (i + 1) + (4 - i) by omega]; exact parseTo_none ls (i + 1) h _)
        have Hst := Lib.hid (show parseTo ls (i + 1) = if i < ls.length then stepM ls.length i (lnA ls i) m else none by rw [parseTo, Hp.out])
        have h123 : i = 1 ∨ i = 2 ∨ i = 3 := by omega
        rcases h123 with h1 | h2 | h3
        · subst h1
          rw [show ((1 : Nat) : Int) = 1 from rfl]
          by_cases hhas : 1 < ls.length
          · have hne : decide ((ls.length : Int) ≤ 1) = false := decide_eq_false (by omega)
            have hln := Hln2.out hhas
            rw [if_pos hhas] at Hst
            have hxl := HLn.out 1
            obtain ⟨x, hx⟩ : ∃ x, x = lnA ls 1 := ⟨_, rfl⟩
            rw [← hx] at hln Hst hxl
            clear hx
            cases hbh : behindL wVer x with
            | none =>
              have Hbe := Lib.hid (show ∀ w, Calls Tryz.prog 82 #[.string (bs x), .string { data := #[118, 101, 114, 115, 105, 111, 110] }] w (fun e w' => e = .returned (.tuple #[.string { data := #[] }, .bool false]) ∧ w' = w) from fun w => by have := behind_any x wVer (by decide) w; rw [hbh] at this; exact this)
              have Hct := Lib.hid (show ∀ w, Calls Tryz.prog 83 #[.string { data := #[] }] w (fun e w' => e = .returned (.tuple #[.int .i64 0, .bool false]) ∧ Below w.heap.size w w') from fun w => by have := refCount_any [] w; rw [show countL [] = none from rfl] at this; exact this)
              have Hs := Lib.hid (Hno.out (by rw [Hst.out, stepM, if_neg (by decide), if_pos rfl, numL2, hbh]; rfl))
              clear hbh hxl
              go_wp2_with (first
                | (go_at_call 82; refine (Hbe.out _).mono ?_; rintro e0 w0 ⟨rfl, rfl⟩)
                | (go_at_call 83; refine (Hct.out _).mono ?_; rintro e1 w3 ⟨rfl, hb3⟩; have hb4 : Below wr.heap.size wr w3 := ((Below.refl _ wr).alloc (Nat.le_refl _) _).trans (hb3.mono (by simp)); have HB3 := Lib.hid (HB.out.trans (hb4.mono (Nat.le_of_lt (Blk.lt HR.out)))); have HR3 := Lib.hid (show MAt w3 gr man0 from Blk.below HR.out hb4); have HM3 := Lib.hid (show MAt w3 gm m from Blk.below HM.out hb4); have HX3 := Lib.hid (HX.out.below hb4); have rf3 := fun i => Blk.free HR3.out i; have mf3 := fun i => Blk.free HM3.out i; have r03 : w3.cell? ⟨gr, 0, none⟩ = some (.int .i64 0) := (by rw [Blk.cell HR3.out]; rfl); have r13 : w3.cell? ⟨gr, 1, none⟩ = some (.int .i64 0) := (by rw [Blk.cell HR3.out]; rfl); have r23 : w3.cell? ⟨gr, 2, none⟩ = some (.string ByteArray.empty) := (by rw [Blk.cell HR3.out]; rfl); have m03 : w3.cell? ⟨gm, 0, none⟩ = some (.int .i64 (m.v : Int)) := (by rw [Blk.cell HM3.out]; rfl); have m13 : w3.cell? ⟨gm, 1, none⟩ = some (.int .i64 (m.n : Int)) := (by rw [Blk.cell HM3.out]; rfl); have m23 : w3.cell? ⟨gm, 2, none⟩ = some (.string (bs m.d)) := (by rw [Blk.cell HM3.out]; rfl); clear hb3 hb4))
              refine bodyPost_ret (results_man1 (p := 2) (u := 3) (by kernel_rfl) _ _ gr man0 rfl HR3.out.put0) rfl ?_
              rw [Hs.out]
              exact ⟨⟨2, by decide, rfl⟩, Hend.out _ HB3.out⟩
            | some r =>
              have Hbe := Lib.hid (show ∀ w, Calls Tryz.prog 82 #[.string (bs x), .string { data := #[118, 101, 114, 115, 105, 111, 110] }] w (fun e w' => e = .returned (.tuple #[.string (bs r), .bool true]) ∧ w' = w) from fun w => by have := behind_any x wVer (by decide) w; rw [hbh] at this; exact this)
              have hnn := Lib.hid (show numL2 wVer x 1073741824 = (countL r).filter (fun n => decide (n ≤ 1073741824)) by rw [numL2, hbh]; rfl)
              cases hc : countL r with
              | none =>
                have Hct := Lib.hid (show ∀ w, Calls Tryz.prog 83 #[.string (bs r)] w (fun e w' => e = .returned (.tuple #[.int .i64 0, .bool false]) ∧ Below w.heap.size w w') from fun w => by have := refCount_any r w; rw [hc] at this; exact this)
                have Hs := Lib.hid (Hno.out (by rw [Hst.out, stepM, if_neg (by decide), if_pos rfl, hnn.out, hc]; rfl))
                clear hbh hxl hc
                go_wp2_with (first
                  | (go_at_call 82; refine (Hbe.out _).mono ?_; rintro e0 w0 ⟨rfl, rfl⟩)
                  | (go_at_call 83; refine (Hct.out _).mono ?_; rintro e1 w3 ⟨rfl, hb3⟩; have hb4 : Below wr.heap.size wr w3 := ((Below.refl _ wr).alloc (Nat.le_refl _) _).trans (hb3.mono (by simp)); have HB3 := Lib.hid (HB.out.trans (hb4.mono (Nat.le_of_lt (Blk.lt HR.out)))); have HR3 := Lib.hid (show MAt w3 gr man0 from Blk.below HR.out hb4); have HM3 := Lib.hid (show MAt w3 gm m from Blk.below HM.out hb4); have HX3 := Lib.hid (HX.out.below hb4); have rf3 := fun i => Blk.free HR3.out i; have mf3 := fun i => Blk.free HM3.out i; have r03 : w3.cell? ⟨gr, 0, none⟩ = some (.int .i64 0) := (by rw [Blk.cell HR3.out]; rfl); have r13 : w3.cell? ⟨gr, 1, none⟩ = some (.int .i64 0) := (by rw [Blk.cell HR3.out]; rfl); have r23 : w3.cell? ⟨gr, 2, none⟩ = some (.string ByteArray.empty) := (by rw [Blk.cell HR3.out]; rfl); have m03 : w3.cell? ⟨gm, 0, none⟩ = some (.int .i64 (m.v : Int)) := (by rw [Blk.cell HM3.out]; rfl); have m13 : w3.cell? ⟨gm, 1, none⟩ = some (.int .i64 (m.n : Int)) := (by rw [Blk.cell HM3.out]; rfl); have m23 : w3.cell? ⟨gm, 2, none⟩ = some (.string (bs m.d)) := (by rw [Blk.cell HM3.out]; rfl); clear hb3 hb4))
                refine bodyPost_ret (results_man1 (p := 2) (u := 3) (by kernel_rfl) _ _ gr man0 rfl HR3.out.put0) rfl ?_
                rw [Hs.out]
                exact ⟨⟨2, by decide, rfl⟩, Hend.out _ HB3.out⟩
              | some n =>
                have hnb := countL_lt r n hc
                have Hct := Lib.hid (show ∀ w, Calls Tryz.prog 83 #[.string (bs r)] w (fun e w' => e = .returned (.tuple #[.int .i64 (n : Int), .bool true]) ∧ Below w.heap.size w w') from fun w => by have := refCount_any r w; rw [hc] at this; exact this)
                have hn2 := Lib.hid (show numL2 wVer x 1073741824 = if n ≤ 1073741824 then some n else none by rw [hnn.out, hc]; simp [Option.filter])
                by_cases hle : n ≤ 1073741824
                · have ed : decide (1073741824 < (n : Int)) = false := decide_eq_false (by omega)
                  by_cases h1n : n < 1
                  · have e1 : decide ((n : Int) < 1) = true := decide_eq_true (by omega)
                    have Hs := Lib.hid (Hno.out (by rw [Hst.out, stepM, if_neg (by decide), if_pos rfl, hn2.out, if_pos hle]; simp only [if_neg (show ¬ 1 ≤ n by omega)]))
                    clear hbh hxl hc hle h1n
                    go_wp2_with (first
                      | (go_at_call 82; refine (Hbe.out _).mono ?_; rintro e0 w0 ⟨rfl, rfl⟩)
                      | (go_at_call 83; refine (Hct.out _).mono ?_; rintro e1 w3 ⟨rfl, hb3⟩; have hb4 : Below wr.heap.size wr w3 := ((Below.refl _ wr).alloc (Nat.le_refl _) _).trans (hb3.mono (by simp)); have HB3 := Lib.hid (HB.out.trans (hb4.mono (Nat.le_of_lt (Blk.lt HR.out)))); have HR3 := Lib.hid (show MAt w3 gr man0 from Blk.below HR.out hb4); have HM3 := Lib.hid (show MAt w3 gm m from Blk.below HM.out hb4); have HX3 := Lib.hid (HX.out.below hb4); have rf3 := fun i => Blk.free HR3.out i; have mf3 := fun i => Blk.free HM3.out i; have r03 : w3.cell? ⟨gr, 0, none⟩ = some (.int .i64 0) := (by rw [Blk.cell HR3.out]; rfl); have r13 : w3.cell? ⟨gr, 1, none⟩ = some (.int .i64 0) := (by rw [Blk.cell HR3.out]; rfl); have r23 : w3.cell? ⟨gr, 2, none⟩ = some (.string ByteArray.empty) := (by rw [Blk.cell HR3.out]; rfl); have m03 : w3.cell? ⟨gm, 0, none⟩ = some (.int .i64 (m.v : Int)) := (by rw [Blk.cell HM3.out]; rfl); have m13 : w3.cell? ⟨gm, 1, none⟩ = some (.int .i64 (m.n : Int)) := (by rw [Blk.cell HM3.out]; rfl); have m23 : w3.cell? ⟨gm, 2, none⟩ = some (.string (bs m.d)) := (by rw [Blk.cell HM3.out]; rfl); clear hb3 hb4))
                    refine bodyPost_ret (results_man1 (p := 2) (u := 3) (by kernel_rfl) _ _ gr man0 rfl HR3.out.put0) rfl ?_
                    rw [Hs.out]
                    exact ⟨⟨2, by decide, rfl⟩, Hend.out _ HB3.out⟩
                  · have e1 : decide ((n : Int) < 1) = false := decide_eq_false (by omega)
                    have Hs := Lib.hid (show parseTo ls (1 + 1) = some ⟨n, m.n, m.d⟩ by rw [Hst.out, stepM, if_neg (by decide), if_pos rfl, hn2.out, if_pos hle]; simp only [if_pos (show 1 ≤ n by omega)])
                    clear hbh hxl hc hle
                    go_wp2_with (first
                      | (go_at_call 82; refine (Hbe.out _).mono ?_; rintro e0 w0 ⟨rfl, rfl⟩)
                      | (go_at_call 83; refine (Hct.out _).mono ?_; rintro e1 w3 ⟨rfl, hb3⟩; have hb4 : Below wr.heap.size wr w3 := ((Below.refl _ wr).alloc (Nat.le_refl _) _).trans (hb3.mono (by simp)); have HB3 := Lib.hid (HB.out.trans (hb4.mono (Nat.le_of_lt (Blk.lt HR.out)))); have HR3 := Lib.hid (show MAt w3 gr man0 from Blk.below HR.out hb4); have HM3 := Lib.hid (show MAt w3 gm m from Blk.below HM.out hb4); have HX3 := Lib.hid (HX.out.below hb4); have rf3 := fun i => Blk.free HR3.out i; have mf3 := fun i => Blk.free HM3.out i; have r03 : w3.cell? ⟨gr, 0, none⟩ = some (.int .i64 0) := (by rw [Blk.cell HR3.out]; rfl); have r13 : w3.cell? ⟨gr, 1, none⟩ = some (.int .i64 0) := (by rw [Blk.cell HR3.out]; rfl); have r23 : w3.cell? ⟨gr, 2, none⟩ = some (.string ByteArray.empty) := (by rw [Blk.cell HR3.out]; rfl); have m03 : w3.cell? ⟨gm, 0, none⟩ = some (.int .i64 (m.v : Int)) := (by rw [Blk.cell HM3.out]; rfl); have m13 : w3.cell? ⟨gm, 1, none⟩ = some (.int .i64 (m.n : Int)) := (by rw [Blk.cell HM3.out]; rfl); have m23 : w3.cell? ⟨gm, 2, none⟩ = some (.string (bs m.d)) := (by rw [Blk.cell HM3.out]; rfl); clear hb3 hb4))
                    go_roundg k
                    case measure => omega
                    case rel => exact ⟨2, ⟨n, m.n, m.d⟩, by omega, by omega, rfl, Hs.out, HM3.out.setV n, Blk.far HR3.out (p := ⟨gm, 0, none⟩) hgg _, HX3.out.far (p := ⟨gm, 0, none⟩) (show g ≠ gm by omega) _, HB3.out.setCell (p := ⟨gm, 0, none⟩) (show gr ≤ gm by omega) _⟩
                · have ed : decide (1073741824 < (n : Int)) = true := decide_eq_true (by omega)
                  have e1 : decide ((n : Int) < 1) = false := decide_eq_false (by omega)
                  have Hs := Lib.hid (Hno.out (by rw [Hst.out, stepM, if_neg (by decide), if_pos rfl, hn2.out, if_neg hle]))
                  clear hbh hxl hc hle
                  go_wp2_with (first
                    | (go_at_call 82; refine (Hbe.out _).mono ?_; rintro e0 w0 ⟨rfl, rfl⟩)
                    | (go_at_call 83; refine (Hct.out _).mono ?_; rintro e1 w3 ⟨rfl, hb3⟩; have hb4 : Below wr.heap.size wr w3 := ((Below.refl _ wr).alloc (Nat.le_refl _) _).trans (hb3.mono (by simp)); have HB3 := Lib.hid (HB.out.trans (hb4.mono (Nat.le_of_lt (Blk.lt HR.out)))); have HR3 := Lib.hid (show MAt w3 gr man0 from Blk.below HR.out hb4); have HM3 := Lib.hid (show MAt w3 gm m from Blk.below HM.out hb4); have HX3 := Lib.hid (HX.out.below hb4); have rf3 := fun i => Blk.free HR3.out i; have mf3 := fun i => Blk.free HM3.out i; have r03 : w3.cell? ⟨gr, 0, none⟩ = some (.int .i64 0) := (by rw [Blk.cell HR3.out]; rfl); have r13 : w3.cell? ⟨gr, 1, none⟩ = some (.int .i64 0) := (by rw [Blk.cell HR3.out]; rfl); have r23 : w3.cell? ⟨gr, 2, none⟩ = some (.string ByteArray.empty) := (by rw [Blk.cell HR3.out]; rfl); have m03 : w3.cell? ⟨gm, 0, none⟩ = some (.int .i64 (m.v : Int)) := (by rw [Blk.cell HM3.out]; rfl); have m13 : w3.cell? ⟨gm, 1, none⟩ = some (.int .i64 (m.n : Int)) := (by rw [Blk.cell HM3.out]; rfl); have m23 : w3.cell? ⟨gm, 2, none⟩ = some (.string (bs m.d)) := (by rw [Blk.cell HM3.out]; rfl); clear hb3 hb4))
                  refine bodyPost_ret (results_man1 (p := 2) (u := 3) (by kernel_rfl) _ _ gr man0 rfl HR3.out.put0) rfl ?_
                  rw [Hs.out]
                  exact ⟨⟨2, by decide, rfl⟩, Hend.out _ HB3.out⟩
          · have hne : decide ((ls.length : Int) ≤ 1) = true := decide_eq_true (by omega)
            have Hs := Lib.hid (Hno.out (by rw [Hst.out, if_neg hhas]))
            go_wp2_with fail
            refine bodyPost_ret (results_man1 (p := 2) (u := 3) (by kernel_rfl) _ _ gr man0 rfl HR.out.put0) rfl ?_
            rw [Hs.out]
            exact ⟨⟨2, by decide, rfl⟩, Hend.out _ HB.out⟩
        · subst h2
          rw [show ((2 : Nat) : Int) = 2 from rfl]
          by_cases hhas : 2 < ls.length
          · have hne : decide ((ls.length : Int) ≤ 2) = false := decide_eq_false (by omega)
            have hln := Hln2.out hhas
            rw [if_pos hhas] at Hst
            have hxl := HLn.out 2
            obtain ⟨x, hx⟩ : ∃ x, x = lnA ls 2 := ⟨_, rfl⟩
            rw [← hx] at hln Hst hxl
            clear hx
            cases hbh : behindL wLen x with
            | none =>
              have Hbe := Lib.hid (show ∀ w, Calls Tryz.prog 82 #[.string (bs x), .string { data := #[108, 101, 110, 103, 116, 104] }] w (fun e w' => e = .returned (.tuple #[.string { data := #[] }, .bool false]) ∧ w' = w) from fun w => by have := behind_any x wLen (by decide) w; rw [hbh] at this; exact this)
              have Hct := Lib.hid (show ∀ w, Calls Tryz.prog 83 #[.string { data := #[] }] w (fun e w' => e = .returned (.tuple #[.int .i64 0, .bool false]) ∧ Below w.heap.size w w') from fun w => by have := refCount_any [] w; rw [show countL [] = none from rfl] at this; exact this)
              have Hs := Lib.hid (Hno.out (by rw [Hst.out, stepM, if_neg (by decide), if_neg (by decide), if_pos rfl, numL2, hbh]; rfl))
              clear hbh hxl
              go_wp2_with (first
                | (go_at_call 82; refine (Hbe.out _).mono ?_; rintro e0 w0 ⟨rfl, rfl⟩)
                | (go_at_call 83; refine (Hct.out _).mono ?_; rintro e1 w3 ⟨rfl, hb3⟩; have hb4 : Below wr.heap.size wr w3 := ((Below.refl _ wr).alloc (Nat.le_refl _) _).trans (hb3.mono (by simp)); have HB3 := Lib.hid (HB.out.trans (hb4.mono (Nat.le_of_lt (Blk.lt HR.out)))); have HR3 := Lib.hid (show MAt w3 gr man0 from Blk.below HR.out hb4); have HM3 := Lib.hid (show MAt w3 gm m from Blk.below HM.out hb4); have HX3 := Lib.hid (HX.out.below hb4); have rf3 := fun i => Blk.free HR3.out i; have mf3 := fun i => Blk.free HM3.out i; have r03 : w3.cell? ⟨gr, 0, none⟩ = some (.int .i64 0) := (by rw [Blk.cell HR3.out]; rfl); have r13 : w3.cell? ⟨gr, 1, none⟩ = some (.int .i64 0) := (by rw [Blk.cell HR3.out]; rfl); have r23 : w3.cell? ⟨gr, 2, none⟩ = some (.string ByteArray.empty) := (by rw [Blk.cell HR3.out]; rfl); have m03 : w3.cell? ⟨gm, 0, none⟩ = some (.int .i64 (m.v : Int)) := (by rw [Blk.cell HM3.out]; rfl); have m13 : w3.cell? ⟨gm, 1, none⟩ = some (.int .i64 (m.n : Int)) := (by rw [Blk.cell HM3.out]; rfl); have m23 : w3.cell? ⟨gm, 2, none⟩ = some (.string (bs m.d)) := (by rw [Blk.cell HM3.out]; rfl); clear hb3 hb4))
              refine bodyPost_ret (results_man1 (p := 2) (u := 3) (by kernel_rfl) _ _ gr man0 rfl HR3.out.put0) rfl ?_
              rw [Hs.out]
              exact ⟨⟨3, by decide, rfl⟩, Hend.out _ HB3.out⟩
            | some r =>
              have Hbe := Lib.hid (show ∀ w, Calls Tryz.prog 82 #[.string (bs x), .string { data := #[108, 101, 110, 103, 116, 104] }] w (fun e w' => e = .returned (.tuple #[.string (bs r), .bool true]) ∧ w' = w) from fun w => by have := behind_any x wLen (by decide) w; rw [hbh] at this; exact this)
              have hnn := Lib.hid (show numL2 wLen x 1048576 = (countL r).filter (fun n => decide (n ≤ 1048576)) by rw [numL2, hbh]; rfl)
              cases hc : countL r with
              | none =>
                have Hct := Lib.hid (show ∀ w, Calls Tryz.prog 83 #[.string (bs r)] w (fun e w' => e = .returned (.tuple #[.int .i64 0, .bool false]) ∧ Below w.heap.size w w') from fun w => by have := refCount_any r w; rw [hc] at this; exact this)
                have Hs := Lib.hid (Hno.out (by rw [Hst.out, stepM, if_neg (by decide), if_neg (by decide), if_pos rfl, hnn.out, hc]; rfl))
                clear hbh hxl hc
                go_wp2_with (first
                  | (go_at_call 82; refine (Hbe.out _).mono ?_; rintro e0 w0 ⟨rfl, rfl⟩)
                  | (go_at_call 83; refine (Hct.out _).mono ?_; rintro e1 w3 ⟨rfl, hb3⟩; have hb4 : Below wr.heap.size wr w3 := ((Below.refl _ wr).alloc (Nat.le_refl _) _).trans (hb3.mono (by simp)); have HB3 := Lib.hid (HB.out.trans (hb4.mono (Nat.le_of_lt (Blk.lt HR.out)))); have HR3 := Lib.hid (show MAt w3 gr man0 from Blk.below HR.out hb4); have HM3 := Lib.hid (show MAt w3 gm m from Blk.below HM.out hb4); have HX3 := Lib.hid (HX.out.below hb4); have rf3 := fun i => Blk.free HR3.out i; have mf3 := fun i => Blk.free HM3.out i; have r03 : w3.cell? ⟨gr, 0, none⟩ = some (.int .i64 0) := (by rw [Blk.cell HR3.out]; rfl); have r13 : w3.cell? ⟨gr, 1, none⟩ = some (.int .i64 0) := (by rw [Blk.cell HR3.out]; rfl); have r23 : w3.cell? ⟨gr, 2, none⟩ = some (.string ByteArray.empty) := (by rw [Blk.cell HR3.out]; rfl); have m03 : w3.cell? ⟨gm, 0, none⟩ = some (.int .i64 (m.v : Int)) := (by rw [Blk.cell HM3.out]; rfl); have m13 : w3.cell? ⟨gm, 1, none⟩ = some (.int .i64 (m.n : Int)) := (by rw [Blk.cell HM3.out]; rfl); have m23 : w3.cell? ⟨gm, 2, none⟩ = some (.string (bs m.d)) := (by rw [Blk.cell HM3.out]; rfl); clear hb3 hb4))
                refine bodyPost_ret (results_man1 (p := 2) (u := 3) (by kernel_rfl) _ _ gr man0 rfl HR3.out.put0) rfl ?_
                rw [Hs.out]
                exact ⟨⟨3, by decide, rfl⟩, Hend.out _ HB3.out⟩
              | some n =>
                have hnb := countL_lt r n hc
                have Hct := Lib.hid (show ∀ w, Calls Tryz.prog 83 #[.string (bs r)] w (fun e w' => e = .returned (.tuple #[.int .i64 (n : Int), .bool true]) ∧ Below w.heap.size w w') from fun w => by have := refCount_any r w; rw [hc] at this; exact this)
                have hn2 := Lib.hid (show numL2 wLen x 1048576 = if n ≤ 1048576 then some n else none by rw [hnn.out, hc]; simp [Option.filter])
                by_cases hle : n ≤ 1048576
                · have ed : decide (1048576 < (n : Int)) = false := decide_eq_false (by omega)
                  have Hs := Lib.hid (show parseTo ls (2 + 1) = some ⟨m.v, n, m.d⟩ by rw [Hst.out, stepM, if_neg (by decide), if_neg (by decide), if_pos rfl, hn2.out, if_pos hle])
                  clear hbh hxl hc hle
                  go_wp2_with (first
                    | (go_at_call 82; refine (Hbe.out _).mono ?_; rintro e0 w0 ⟨rfl, rfl⟩)
                    | (go_at_call 83; refine (Hct.out _).mono ?_; rintro e1 w3 ⟨rfl, hb3⟩; have hb4 : Below wr.heap.size wr w3 := ((Below.refl _ wr).alloc (Nat.le_refl _) _).trans (hb3.mono (by simp)); have HB3 := Lib.hid (HB.out.trans (hb4.mono (Nat.le_of_lt (Blk.lt HR.out)))); have HR3 := Lib.hid (show MAt w3 gr man0 from Blk.below HR.out hb4); have HM3 := Lib.hid (show MAt w3 gm m from Blk.below HM.out hb4); have HX3 := Lib.hid (HX.out.below hb4); have rf3 := fun i => Blk.free HR3.out i; have mf3 := fun i => Blk.free HM3.out i; have r03 : w3.cell? ⟨gr, 0, none⟩ = some (.int .i64 0) := (by rw [Blk.cell HR3.out]; rfl); have r13 : w3.cell? ⟨gr, 1, none⟩ = some (.int .i64 0) := (by rw [Blk.cell HR3.out]; rfl); have r23 : w3.cell? ⟨gr, 2, none⟩ = some (.string ByteArray.empty) := (by rw [Blk.cell HR3.out]; rfl); have m03 : w3.cell? ⟨gm, 0, none⟩ = some (.int .i64 (m.v : Int)) := (by rw [Blk.cell HM3.out]; rfl); have m13 : w3.cell? ⟨gm, 1, none⟩ = some (.int .i64 (m.n : Int)) := (by rw [Blk.cell HM3.out]; rfl); have m23 : w3.cell? ⟨gm, 2, none⟩ = some (.string (bs m.d)) := (by rw [Blk.cell HM3.out]; rfl); clear hb3 hb4))
                  go_roundg k
                  case measure => omega
                  case rel => exact ⟨3, ⟨m.v, n, m.d⟩, by omega, by omega, rfl, Hs.out, HM3.out.setN n, Blk.far HR3.out (p := ⟨gm, 1, none⟩) hgg _, HX3.out.far (p := ⟨gm, 1, none⟩) (show g ≠ gm by omega) _, HB3.out.setCell (p := ⟨gm, 1, none⟩) (show gr ≤ gm by omega) _⟩
                · have ed : decide (1048576 < (n : Int)) = true := decide_eq_true (by omega)
                  have Hs := Lib.hid (Hno.out (by rw [Hst.out, stepM, if_neg (by decide), if_neg (by decide), if_pos rfl, hn2.out, if_neg hle]))
                  clear hbh hxl hc hle
                  go_wp2_with (first
                    | (go_at_call 82; refine (Hbe.out _).mono ?_; rintro e0 w0 ⟨rfl, rfl⟩)
                    | (go_at_call 83; refine (Hct.out _).mono ?_; rintro e1 w3 ⟨rfl, hb3⟩; have hb4 : Below wr.heap.size wr w3 := ((Below.refl _ wr).alloc (Nat.le_refl _) _).trans (hb3.mono (by simp)); have HB3 := Lib.hid (HB.out.trans (hb4.mono (Nat.le_of_lt (Blk.lt HR.out)))); have HR3 := Lib.hid (show MAt w3 gr man0 from Blk.below HR.out hb4); have HM3 := Lib.hid (show MAt w3 gm m from Blk.below HM.out hb4); have HX3 := Lib.hid (HX.out.below hb4); have rf3 := fun i => Blk.free HR3.out i; have mf3 := fun i => Blk.free HM3.out i; have r03 : w3.cell? ⟨gr, 0, none⟩ = some (.int .i64 0) := (by rw [Blk.cell HR3.out]; rfl); have r13 : w3.cell? ⟨gr, 1, none⟩ = some (.int .i64 0) := (by rw [Blk.cell HR3.out]; rfl); have r23 : w3.cell? ⟨gr, 2, none⟩ = some (.string ByteArray.empty) := (by rw [Blk.cell HR3.out]; rfl); have m03 : w3.cell? ⟨gm, 0, none⟩ = some (.int .i64 (m.v : Int)) := (by rw [Blk.cell HM3.out]; rfl); have m13 : w3.cell? ⟨gm, 1, none⟩ = some (.int .i64 (m.n : Int)) := (by rw [Blk.cell HM3.out]; rfl); have m23 : w3.cell? ⟨gm, 2, none⟩ = some (.string (bs m.d)) := (by rw [Blk.cell HM3.out]; rfl); clear hb3 hb4))
                  refine bodyPost_ret (results_man1 (p := 2) (u := 3) (by kernel_rfl) _ _ gr man0 rfl HR3.out.put0) rfl ?_
                  rw [Hs.out]
                  exact ⟨⟨3, by decide, rfl⟩, Hend.out _ HB3.out⟩
          · have hne : decide ((ls.length : Int) ≤ 2) = true := decide_eq_true (by omega)
            have Hs := Lib.hid (Hno.out (by rw [Hst.out, if_neg hhas]))
            go_wp2_with fail
            refine bodyPost_ret (results_man1 (p := 2) (u := 3) (by kernel_rfl) _ _ gr man0 rfl HR.out.put0) rfl ?_
            rw [Hs.out]
            exact ⟨⟨3, by decide, rfl⟩, Hend.out _ HB.out⟩
        · subst h3
          rw [show ((3 : Nat) : Int) = 3 from rfl]
          by_cases hhas : 3 < ls.length
          · have hne : decide ((ls.length : Int) ≤ 3) = false := decide_eq_false (by omega)
            have hln := Hln2.out hhas
            rw [if_pos hhas] at Hst
            have hxl := HLn.out 3
            obtain ⟨x, hx⟩ : ∃ x, x = lnA ls 3 := ⟨_, rfl⟩
            rw [← hx] at hln Hst hxl
            clear hx
            cases hbh : behindL wDig x with
            | none =>
              have Hbe := Lib.hid (show ∀ w, Calls Tryz.prog 82 #[.string (bs x), .string { data := #[100, 105, 103, 101, 115, 116] }] w (fun e w' => e = .returned (.tuple #[.string { data := #[] }, .bool false]) ∧ w' = w) from fun w => by have := behind_any x wDig (by decide) w; rw [hbh] at this; exact this)
              have Hct := Lib.hid (show ∀ w, Calls Tryz.prog 83 #[.string { data := #[] }] w (fun e w' => e = .returned (.tuple #[.int .i64 0, .bool false]) ∧ Below w.heap.size w w') from fun w => by have := refCount_any [] w; rw [show countL [] = none from rfl] at this; exact this)
              have Hs := Lib.hid (Hno.out (by rw [Hst.out, stepM, if_neg (by decide), if_neg (by decide), if_neg (by decide), if_pos rfl, hbh]; rfl))
              clear hbh hxl
              go_wp2_with (first
                | (go_at_call 82; refine (Hbe.out _).mono ?_; rintro e0 w0 ⟨rfl, rfl⟩)
                | (go_at_call 83; refine (Hct.out _).mono ?_; rintro e1 w3 ⟨rfl, hb3⟩; have hb4 : Below wr.heap.size wr w3 := ((Below.refl _ wr).alloc (Nat.le_refl _) _).trans (hb3.mono (by simp)); have HB3 := Lib.hid (HB.out.trans (hb4.mono (Nat.le_of_lt (Blk.lt HR.out)))); have HR3 := Lib.hid (show MAt w3 gr man0 from Blk.below HR.out hb4); have HM3 := Lib.hid (show MAt w3 gm m from Blk.below HM.out hb4); have HX3 := Lib.hid (HX.out.below hb4); have rf3 := fun i => Blk.free HR3.out i; have mf3 := fun i => Blk.free HM3.out i; have r03 : w3.cell? ⟨gr, 0, none⟩ = some (.int .i64 0) := (by rw [Blk.cell HR3.out]; rfl); have r13 : w3.cell? ⟨gr, 1, none⟩ = some (.int .i64 0) := (by rw [Blk.cell HR3.out]; rfl); have r23 : w3.cell? ⟨gr, 2, none⟩ = some (.string ByteArray.empty) := (by rw [Blk.cell HR3.out]; rfl); have m03 : w3.cell? ⟨gm, 0, none⟩ = some (.int .i64 (m.v : Int)) := (by rw [Blk.cell HM3.out]; rfl); have m13 : w3.cell? ⟨gm, 1, none⟩ = some (.int .i64 (m.n : Int)) := (by rw [Blk.cell HM3.out]; rfl); have m23 : w3.cell? ⟨gm, 2, none⟩ = some (.string (bs m.d)) := (by rw [Blk.cell HM3.out]; rfl); clear hb3 hb4))
              refine bodyPost_ret (results_man1 (p := 2) (u := 3) (by kernel_rfl) _ _ gr man0 rfl HR3.out.put0) rfl ?_
              rw [Hs.out]
              exact ⟨⟨4, by decide, rfl⟩, Hend.out _ HB3.out⟩
            | some r =>
              have Hbe := Lib.hid (show ∀ w, Calls Tryz.prog 82 #[.string (bs x), .string { data := #[100, 105, 103, 101, 115, 116] }] w (fun e w' => e = .returned (.tuple #[.string (bs r), .bool true]) ∧ w' = w) from fun w => by have := behind_any x wDig (by decide) w; rw [hbh] at this; exact this)
              have hrl := behind_len hbh hxl
              obtain ⟨cn, cb, hcc⟩ : ∃ (cn : Int) (cb : Bool), ctv (countL r) = .tuple #[.int .i64 cn, .bool cb] := by (cases countL r with | none => exact ⟨0, false, rfl⟩ | some n => exact ⟨n, true, rfl⟩)
              have Hct := Lib.hid (show ∀ w, Calls Tryz.prog 83 #[.string (bs r)] w (fun e w' => e = .returned (.tuple #[.int .i64 cn, .bool cb]) ∧ Below w.heap.size w w') from fun w => by have := refCount_any r w; rw [hcc] at this; exact this)
              cases hby : bytesL r with
              | none =>
                have Hby := Lib.hid (show ∀ w, Calls Tryz.prog 84 #[.string (bs r)] w (fun e w' => e = .returned (.tuple #[.string (bs []), .bool false]) ∧ Below w.heap.size w w') from hex2_none hrl hby)
                have Hs := Lib.hid (Hno.out (by rw [Hst.out, stepM, if_neg (by decide), if_neg (by decide), if_neg (by decide), if_pos rfl, hbh, Option.bind, hby]))
                clear hbh hxl hrl hby hcc
                go_wp2_with (first
                  | (go_at_call 82; refine (Hbe.out _).mono ?_; rintro e0 w0 ⟨rfl, rfl⟩)
                  | (go_at_call 83; refine (Hct.out _).mono ?_; rintro e1 w3 ⟨rfl, hb3⟩; have hb4 : Below wr.heap.size wr w3 := ((Below.refl _ wr).alloc (Nat.le_refl _) _).trans (hb3.mono (by simp)); have HB3 := Lib.hid (HB.out.trans (hb4.mono (Nat.le_of_lt (Blk.lt HR.out)))); have HR3 := Lib.hid (show MAt w3 gr man0 from Blk.below HR.out hb4); have HM3 := Lib.hid (show MAt w3 gm m from Blk.below HM.out hb4); have HX3 := Lib.hid (HX.out.below hb4); have rf3 := fun i => Blk.free HR3.out i; have mf3 := fun i => Blk.free HM3.out i; have r03 : w3.cell? ⟨gr, 0, none⟩ = some (.int .i64 0) := (by rw [Blk.cell HR3.out]; rfl); have r13 : w3.cell? ⟨gr, 1, none⟩ = some (.int .i64 0) := (by rw [Blk.cell HR3.out]; rfl); have r23 : w3.cell? ⟨gr, 2, none⟩ = some (.string ByteArray.empty) := (by rw [Blk.cell HR3.out]; rfl); have m03 : w3.cell? ⟨gm, 0, none⟩ = some (.int .i64 (m.v : Int)) := (by rw [Blk.cell HM3.out]; rfl); have m13 : w3.cell? ⟨gm, 1, none⟩ = some (.int .i64 (m.n : Int)) := (by rw [Blk.cell HM3.out]; rfl); have m23 : w3.cell? ⟨gm, 2, none⟩ = some (.string (bs m.d)) := (by rw [Blk.cell HM3.out]; rfl); clear hb3 hb4)
                  | (go_at_call 84; refine (Hby.out _).mono ?_; rintro e2 w5 ⟨rfl, hb5⟩; have HB5 := Lib.hid (HB3.out.trans (hb5.mono (Nat.le_of_lt (Blk.lt HR3.out)))); have HR5 := Lib.hid (show MAt w5 gr man0 from Blk.below HR3.out hb5); have HM5 := Lib.hid (show MAt w5 gm m from Blk.below HM3.out hb5); have HX5 := Lib.hid (HX3.out.below hb5); have rf5 := fun i => Blk.free HR5.out i; have mf5 := fun i => Blk.free HM5.out i; have r05 : w5.cell? ⟨gr, 0, none⟩ = some (.int .i64 0) := (by rw [Blk.cell HR5.out]; rfl); have r15 : w5.cell? ⟨gr, 1, none⟩ = some (.int .i64 0) := (by rw [Blk.cell HR5.out]; rfl); have r25 : w5.cell? ⟨gr, 2, none⟩ = some (.string ByteArray.empty) := (by rw [Blk.cell HR5.out]; rfl); have m25 : w5.cell? ⟨gm, 2, none⟩ = some (.string (bs m.d)) := (by rw [Blk.cell HM5.out]; rfl); clear hb5))
                refine bodyPost_ret (results_man1 (p := 2) (u := 3) (by kernel_rfl) _ _ gr man0 rfl HR5.out.put0) rfl ?_
                rw [Hs.out]
                exact ⟨⟨4, by decide, rfl⟩, Hend.out _ HB5.out⟩
              | some d =>
                have Hby := Lib.hid (show ∀ w, Calls Tryz.prog 84 #[.string (bs r)] w (fun e w' => e = .returned (.tuple #[.string (bs d), .bool true]) ∧ Below w.heap.size w w') from hex2_val hrl hby)
                have hds := bs_size d
                by_cases h32 : d.length = 32
                · have Hs := Lib.hid (show parseTo ls (3 + 1) = some ⟨m.v, m.n, d⟩ by rw [Hst.out, stepM, if_neg (by decide), if_neg (by decide), if_neg (by decide), if_pos rfl, hbh, Option.bind, hby]; simp only [if_pos h32])
                  have h32b : ((d.length : Int) != 32) = false := by rw [h32]; rfl
                  clear hbh hxl hrl hby h32 hcc
                  go_wp2_with (first
                    | (go_at_call 82; refine (Hbe.out _).mono ?_; rintro e0 w0 ⟨rfl, rfl⟩)
                    | (go_at_call 83; refine (Hct.out _).mono ?_; rintro e1 w3 ⟨rfl, hb3⟩; have hb4 : Below wr.heap.size wr w3 := ((Below.refl _ wr).alloc (Nat.le_refl _) _).trans (hb3.mono (by simp)); have HB3 := Lib.hid (HB.out.trans (hb4.mono (Nat.le_of_lt (Blk.lt HR.out)))); have HR3 := Lib.hid (show MAt w3 gr man0 from Blk.below HR.out hb4); have HM3 := Lib.hid (show MAt w3 gm m from Blk.below HM.out hb4); have HX3 := Lib.hid (HX.out.below hb4); have rf3 := fun i => Blk.free HR3.out i; have mf3 := fun i => Blk.free HM3.out i; have r03 : w3.cell? ⟨gr, 0, none⟩ = some (.int .i64 0) := (by rw [Blk.cell HR3.out]; rfl); have r13 : w3.cell? ⟨gr, 1, none⟩ = some (.int .i64 0) := (by rw [Blk.cell HR3.out]; rfl); have r23 : w3.cell? ⟨gr, 2, none⟩ = some (.string ByteArray.empty) := (by rw [Blk.cell HR3.out]; rfl); have m03 : w3.cell? ⟨gm, 0, none⟩ = some (.int .i64 (m.v : Int)) := (by rw [Blk.cell HM3.out]; rfl); have m13 : w3.cell? ⟨gm, 1, none⟩ = some (.int .i64 (m.n : Int)) := (by rw [Blk.cell HM3.out]; rfl); have m23 : w3.cell? ⟨gm, 2, none⟩ = some (.string (bs m.d)) := (by rw [Blk.cell HM3.out]; rfl); clear hb3 hb4)
                    | (go_at_call 84; refine (Hby.out _).mono ?_; rintro e2 w5 ⟨rfl, hb5⟩; have HB5 := Lib.hid (HB3.out.trans (hb5.mono (Nat.le_of_lt (Blk.lt HR3.out)))); have HR5 := Lib.hid (show MAt w5 gr man0 from Blk.below HR3.out hb5); have HM5 := Lib.hid (show MAt w5 gm m from Blk.below HM3.out hb5); have HX5 := Lib.hid (HX3.out.below hb5); have rf5 := fun i => Blk.free HR5.out i; have mf5 := fun i => Blk.free HM5.out i; have r05 : w5.cell? ⟨gr, 0, none⟩ = some (.int .i64 0) := (by rw [Blk.cell HR5.out]; rfl); have r15 : w5.cell? ⟨gr, 1, none⟩ = some (.int .i64 0) := (by rw [Blk.cell HR5.out]; rfl); have r25 : w5.cell? ⟨gr, 2, none⟩ = some (.string ByteArray.empty) := (by rw [Blk.cell HR5.out]; rfl); have m25 : w5.cell? ⟨gm, 2, none⟩ = some (.string (bs m.d)) := (by rw [Blk.cell HM5.out]; rfl); clear hb5))
                  go_roundg k
                  case measure => omega
                  case rel => exact ⟨4, ⟨m.v, m.n, d⟩, by omega, by omega, rfl, Hs.out, HM5.out.setD d, Blk.far HR5.out (p := ⟨gm, 2, none⟩) hgg _, HX5.out.far (p := ⟨gm, 2, none⟩) (show g ≠ gm by omega) _, HB5.out.setCell (p := ⟨gm, 2, none⟩) (show gr ≤ gm by omega) _⟩
                · have Hs := Lib.hid (Hno.out (by rw [Hst.out, stepM, if_neg (by decide), if_neg (by decide), if_neg (by decide), if_pos rfl, hbh, Option.bind, hby]; simp only [if_neg h32]))
                  have h32b : ((d.length : Int) != 32) = true := by rw [bne_iff_ne]; omega
                  clear hbh hxl hrl hby h32 hcc
                  go_wp2_with (first
                    | (go_at_call 82; refine (Hbe.out _).mono ?_; rintro e0 w0 ⟨rfl, rfl⟩)
                    | (go_at_call 83; refine (Hct.out _).mono ?_; rintro e1 w3 ⟨rfl, hb3⟩; have hb4 : Below wr.heap.size wr w3 := ((Below.refl _ wr).alloc (Nat.le_refl _) _).trans (hb3.mono (by simp)); have HB3 := Lib.hid (HB.out.trans (hb4.mono (Nat.le_of_lt (Blk.lt HR.out)))); have HR3 := Lib.hid (show MAt w3 gr man0 from Blk.below HR.out hb4); have HM3 := Lib.hid (show MAt w3 gm m from Blk.below HM.out hb4); have HX3 := Lib.hid (HX.out.below hb4); have rf3 := fun i => Blk.free HR3.out i; have mf3 := fun i => Blk.free HM3.out i; have r03 : w3.cell? ⟨gr, 0, none⟩ = some (.int .i64 0) := (by rw [Blk.cell HR3.out]; rfl); have r13 : w3.cell? ⟨gr, 1, none⟩ = some (.int .i64 0) := (by rw [Blk.cell HR3.out]; rfl); have r23 : w3.cell? ⟨gr, 2, none⟩ = some (.string ByteArray.empty) := (by rw [Blk.cell HR3.out]; rfl); have m03 : w3.cell? ⟨gm, 0, none⟩ = some (.int .i64 (m.v : Int)) := (by rw [Blk.cell HM3.out]; rfl); have m13 : w3.cell? ⟨gm, 1, none⟩ = some (.int .i64 (m.n : Int)) := (by rw [Blk.cell HM3.out]; rfl); have m23 : w3.cell? ⟨gm, 2, none⟩ = some (.string (bs m.d)) := (by rw [Blk.cell HM3.out]; rfl); clear hb3 hb4)
                    | (go_at_call 84; refine (Hby.out _).mono ?_; rintro e2 w5 ⟨rfl, hb5⟩; have HB5 := Lib.hid (HB3.out.trans (hb5.mono (Nat.le_of_lt (Blk.lt HR3.out)))); have HR5 := Lib.hid (show MAt w5 gr man0 from Blk.below HR3.out hb5); have HM5 := Lib.hid (show MAt w5 gm m from Blk.below HM3.out hb5); have HX5 := Lib.hid (HX3.out.below hb5); have rf5 := fun i => Blk.free HR5.out i; have mf5 := fun i => Blk.free HM5.out i; have r05 : w5.cell? ⟨gr, 0, none⟩ = some (.int .i64 0) := (by rw [Blk.cell HR5.out]; rfl); have r15 : w5.cell? ⟨gr, 1, none⟩ = some (.int .i64 0) := (by rw [Blk.cell HR5.out]; rfl); have r25 : w5.cell? ⟨gr, 2, none⟩ = some (.string ByteArray.empty) := (by rw [Blk.cell HR5.out]; rfl); have m25 : w5.cell? ⟨gm, 2, none⟩ = some (.string (bs m.d)) := (by rw [Blk.cell HM5.out]; rfl); clear hb5))
                  refine bodyPost_ret (results_man1 (p := 2) (u := 3) (by kernel_rfl) _ _ gr man0 rfl HR5.out.put0) rfl ?_
                  rw [Hs.out]
                  exact ⟨⟨4, by decide, rfl⟩, Hend.out _ HB5.out⟩
          · have hne : decide ((ls.length : Int) ≤ 3) = true := decide_eq_true (by omega)
            have Hs := Lib.hid (Hno.out (by rw [Hst.out, if_neg hhas]))
            go_wp2_with fail
            refine bodyPost_ret (results_man1 (p := 2) (u := 3) (by kernel_rfl) _ _ gr man0 rfl HR.out.put0) rfl ?_
            rw [Hs.out]
            exact ⟨⟨4, by decide, rfl⟩, Hend.out _ HB.out⟩
  · have hq : (x0 == [116, 105, 110, 100, 101, 114, 98, 111, 120, 32, 105, 109, 97, 103, 101]) = false := beq_eq_false_iff_ne.2 hxw
    have Hs1 := Lib.hid (show parseL l = none by rw [hP.out, show 5 = 1 + 4 from rfl]; exact parseTo_none ls 1 (by rw [Hst0.out, if_neg hxw]) 4)
    clear hxw
    go_enter Tryz.func62, Tryz.ntmps62
    go_wp2_with (first
      | (go_at_call 81; refine (Hsp.out _).mono ?_; rintro e1 w1 ⟨g, cap, rfl, hp1, hp2, hp3⟩; have HR0 := Lib.hid (show MAt (w1.alloc (.cells man0.cells 34)) w.heap.size man0 from Blk.below ((Blk.new w man0.cells 34).below hp3) ((Below.refl _ w1).alloc (Nat.le_refl _) _)); have HB1 := Lib.hid (show Below w.heap.size w w1 from ((Below.refl w.heap.size w).alloc (Nat.le_refl _) _).trans (hp3.mono (by simp))); have hcl : (w1.alloc (.cells #[.int .i64 0, .int .i64 0, .string { data := #[] }] 34)).cell? ⟨g, 0, none⟩ = some (.string (bs x0)) := (PreS.cell (hp1.below ((Below.refl _ w1).alloc (Nat.le_refl _) _)) 0 hposH.out).trans (congrArg some (Hl0.out hposH.out)); have r0 : (w1.alloc (.cells #[.int .i64 0, .int .i64 0, .string { data := #[] }] 34)).cell? ⟨w.heap.size, 0, none⟩ = some (.int .i64 0) := (Blk.cell HR0.out 0).trans (by rfl); have r1 : (w1.alloc (.cells #[.int .i64 0, .int .i64 0, .string { data := #[] }] 34)).cell? ⟨w.heap.size, 1, none⟩ = some (.int .i64 0) := (Blk.cell HR0.out 1).trans (by rfl); have r2 : (w1.alloc (.cells #[.int .i64 0, .int .i64 0, .string { data := #[] }] 34)).cell? ⟨w.heap.size, 2, none⟩ = some (.string ByteArray.empty) := (Blk.cell HR0.out 2).trans (by rfl); have rf : ∀ i, (w1.alloc (.cells #[.int .i64 0, .int .i64 0, .string { data := #[] }] 34)).frozen? ⟨w.heap.size, i, none⟩ = false := (fun i => Blk.free HR0.out i); clear hp1 hp2 hp3))
    refine bodyPost_ret (results_man1 (p := 2) (u := 3) (by kernel_rfl) _ _ w.heap.size man0 rfl (MAt.put0 (m := man0) HR0.out)) rfl ?_
    rw [Hs1.out]
    exact ⟨⟨1, by decide, rfl⟩, below_put3 (HB1.out.alloc HB1.out.size _) (Nat.le_refl _) _ _ _⟩
end Go.Proofs.YticnmogeknlmeaaGreatDoor.B
