/- Helper: the digest of bytes, of the program, walked. No condition. -/
import Derived.Test.YticnmogeknlmeaaGreatDoorN05
import Derived.Test.YticnmogeknlmeaaGreatDoorN01
namespace Go.Proofs.YticnmogeknlmeaaGreatDoor.B
open Go.RowKit Go.Proofs.YticnmogeknlmeaaGreatDoorW.PrintWords Go.Proofs.YticnmogeknlmeaaGreatDoor.Later
set_option maxRecDepth 100000
set_option maxHeartbeats 1600000
/-- The digest's own two arrays. -/
structure SumA (w : World) (s : St) (gs gk : Nat) (wr : World) : Prop where
  a : Blk wr gs s.cells 157
  k : Blk wr gk (arrU 64 kL) 158
  ne : gs ≠ gk
  ls : w.heap.size ≤ gs
  lk : w.heap.size ≤ gk
  B : Below w.heap.size w wr
theorem SumA.drewn {w : World} {s : St} {gs gk : Nat} {wr w2 : World} (h : SumA w s gs gk wr) (hw : ∃ m : Nat, w2 = wr.drewN m) : SumA w s gs gk w2 := by
  obtain ⟨m, rfl⟩ := hw
  exact ⟨h.a, h.k, h.ne, h.ls, h.lk, below_drewN h.B m⟩
theorem SumA.below {w : World} {s : St} {gs gk : Nat} {wr w2 : World} (h : SumA w s gs gk wr) (hw : Below wr.heap.size wr w2) : SumA w s gs gk w2 :=
  ⟨h.a.below hw, h.k.below hw, h.ne, h.ls, h.lk, h.B.trans (hw.mono h.B.size)⟩
theorem Blk.put8 {s t : St} {gs : Nat} {wr : World} (h : Blk wr gs s.cells 157) : Blk ((((((((wr.setCell ⟨gs, 0, none⟩ (.int .u32 (t.a.toNat : Int))).setCell ⟨gs, 1, none⟩ (.int .u32 (t.b.toNat : Int))).setCell ⟨gs, 2, none⟩ (.int .u32 (t.c.toNat : Int))).setCell ⟨gs, 3, none⟩ (.int .u32 (t.d.toNat : Int))).setCell ⟨gs, 4, none⟩ (.int .u32 (t.e.toNat : Int))).setCell ⟨gs, 5, none⟩ (.int .u32 (t.f.toNat : Int))).setCell ⟨gs, 6, none⟩ (.int .u32 (t.g.toNat : Int))).setCell ⟨gs, 7, none⟩ (.int .u32 (t.h.toNat : Int))) gs t.cells 157 := by
  have q := ((((((((h.set 0 (.int .u32 (t.a.toNat : Int))).set 1 (.int .u32 (t.b.toNat : Int))).set 2 (.int .u32 (t.c.toNat : Int))).set 3 (.int .u32 (t.d.toNat : Int))).set 4 (.int .u32 (t.e.toNat : Int))).set 5 (.int .u32 (t.f.toNat : Int))).set 6 (.int .u32 (t.g.toNat : Int))).set 7 (.int .u32 (t.h.toNat : Int)))
  simpa [St.cells, u32] using q
theorem SumA.put {w : World} {s t : St} {gs gk : Nat} {wr : World} (h : SumA w s gs gk wr) : SumA w t gs gk ((((((((wr.setCell ⟨gs, 0, none⟩ (.int .u32 (t.a.toNat : Int))).setCell ⟨gs, 1, none⟩ (.int .u32 (t.b.toNat : Int))).setCell ⟨gs, 2, none⟩ (.int .u32 (t.c.toNat : Int))).setCell ⟨gs, 3, none⟩ (.int .u32 (t.d.toNat : Int))).setCell ⟨gs, 4, none⟩ (.int .u32 (t.e.toNat : Int))).setCell ⟨gs, 5, none⟩ (.int .u32 (t.f.toNat : Int))).setCell ⟨gs, 6, none⟩ (.int .u32 (t.g.toNat : Int))).setCell ⟨gs, 7, none⟩ (.int .u32 (t.h.toNat : Int))) := by
  have hn : gk ≠ gs := fun e => h.ne e.symm
  exact ⟨h.a.put8, ((((((((h.k.far hn (.int .u32 (t.a.toNat : Int))).far hn (.int .u32 (t.b.toNat : Int))).far hn (.int .u32 (t.c.toNat : Int))).far hn (.int .u32 (t.d.toNat : Int))).far hn (.int .u32 (t.e.toNat : Int))).far hn (.int .u32 (t.f.toNat : Int))).far hn (.int .u32 (t.g.toNat : Int))).far hn (.int .u32 (t.h.toNat : Int))), h.ne, h.ls, h.lk, ((((((((h.B.setCell h.ls (.int .u32 (t.a.toNat : Int))).setCell h.ls (.int .u32 (t.b.toNat : Int))).setCell h.ls (.int .u32 (t.c.toNat : Int))).setCell h.ls (.int .u32 (t.d.toNat : Int))).setCell h.ls (.int .u32 (t.e.toNat : Int))).setCell h.ls (.int .u32 (t.f.toNat : Int))).setCell h.ls (.int .u32 (t.g.toNat : Int))).setCell h.ls (.int .u32 (t.h.toNat : Int)))⟩
def SumRel (w : World) (s0 : St) (l : List UInt8) (gs gk : Nat) (g : Nat) (x : Value) (wr : World) : Prop := ∃ (s : St) (r : List UInt8), r.length / 64 = g ∧ r.length ≤ l.length ∧ x = .string (bs r) ∧ absorb s0 l = absorb s r ∧ leftover l = leftover r ∧ SumA w s gs gk wr
def Z8v : Array Value := #[Value.int .u32 0, Value.int .u32 0, Value.int .u32 0, Value.int .u32 0, Value.int .u32 0, Value.int .u32 0, Value.int .u32 0, Value.int .u32 0]
def Z64v : Array Value := #[Value.int .u32 0, Value.int .u32 0, Value.int .u32 0, Value.int .u32 0, Value.int .u32 0, Value.int .u32 0, Value.int .u32 0, Value.int .u32 0, Value.int .u32 0, Value.int .u32 0, Value.int .u32 0, Value.int .u32 0, Value.int .u32 0, Value.int .u32 0, Value.int .u32 0, Value.int .u32 0, Value.int .u32 0, Value.int .u32 0, Value.int .u32 0, Value.int .u32 0, Value.int .u32 0, Value.int .u32 0, Value.int .u32 0, Value.int .u32 0, Value.int .u32 0, Value.int .u32 0, Value.int .u32 0, Value.int .u32 0, Value.int .u32 0, Value.int .u32 0, Value.int .u32 0, Value.int .u32 0, Value.int .u32 0, Value.int .u32 0, Value.int .u32 0, Value.int .u32 0, Value.int .u32 0, Value.int .u32 0, Value.int .u32 0, Value.int .u32 0, Value.int .u32 0, Value.int .u32 0, Value.int .u32 0, Value.int .u32 0, Value.int .u32 0, Value.int .u32 0, Value.int .u32 0, Value.int .u32 0, Value.int .u32 0, Value.int .u32 0, Value.int .u32 0, Value.int .u32 0, Value.int .u32 0, Value.int .u32 0, Value.int .u32 0, Value.int .u32 0, Value.int .u32 0, Value.int .u32 0, Value.int .u32 0, Value.int .u32 0, Value.int .u32 0, Value.int .u32 0, Value.int .u32 0, Value.int .u32 0]
theorem byteAt_val (n i c : Nat) (hn : n < 4294967296) (hc : c = 56 - 8 * i) : encB (byteAt n i) = .int .u8 ((n : Int) * 8 / 2 ^ c % 256) := by
  have e : n * 8 % 18446744073709551616 = n * 8 := Nat.mod_eq_of_lt (by omega)
  simp only [encB, byteAt, e, ← hc, UInt8.toNat_ofNat']
  congr 1
theorem str1 (wr : World) (x : UInt8) : (convert 60 9 (.slice (some ⟨wr.heap.size, 0, none⟩) 1 1)).run Tryz.prog (wr.alloc (.cells #[encB x] 5)) = .ok (.string (bs [x])) (wr.alloc (.cells #[encB x] 5)) := (Row.lit wr wr.heap.size [x] (Nat.le_refl _) (by simp)).string 60 (by kernel_rfl)
theorem len8_len (n : Nat) : (len8 n).length = 8 := by simp [len8]
theorem len8_succ (n i : Nat) (h : i < 8) : (len8 n).take (i + 1) = (len8 n).take i ++ [byteAt n i] := by
  rw [List.take_succ_eq_append_getElem (by rw [len8_len]; exact h)]
  simp [len8]
theorem index157 (t : St) (i : Nat) (h : i < 8) (W : World) : (Instr.index 157 (.agg #[.int .u32 (t.a.toNat : Int), .int .u32 (t.b.toNat : Int), .int .u32 (t.c.toNat : Int), .int .u32 (t.d.toNat : Int), .int .u32 (t.e.toNat : Int), .int .u32 (t.f.toNat : Int), .int .u32 (t.g.toNat : Int), .int .u32 (t.h.toNat : Int)]) (.int .i64 (i : Int))).run Tryz.prog W = .ok (.int .u32 ((at0 (stL t) i).toNat : Int)) W := by
  have : i = 0 ∨ i = 1 ∨ i = 2 ∨ i = 3 ∨ i = 4 ∨ i = 5 ∨ i = 6 ∨ i = 7 := by omega
  rcases this with rfl | rfl | rfl | rfl | rfl | rfl | rfl | rfl <;> rfl
theorem b4_cells (x : W32) : #[Value.int IntKind.u8 ((x.toNat : Int) / 16777216), Value.int IntKind.u8 ((x.toNat : Int) / 65536 % 256), Value.int IntKind.u8 ((x.toNat : Int) / 256 % 256), Value.int IntKind.u8 ((x.toNat : Int) % 256)] = (encs encB (b4 x)).toArray := by
  have h := x.isLt
  have e : (x.toNat : Int) / 16777216 = ((x.toNat / 16777216 % 256 : Nat) : Int) := by omega
  rw [e]
  rfl
theorem b4_reads (wr : World) (x : W32) : ReadsOf encB 0 (wr.alloc (.cells (encs encB (b4 x)).toArray 5)) (some ⟨wr.heap.size, 0, none⟩) 4 (b4 x) := by
  obtain ⟨A, c, h1, h2⟩ := own_reads_of (enc := encB) (d := (0 : UInt8)) (Row.lit wr wr.heap.size (b4 x) (Nat.le_refl _) (show (4 : Nat) ≤ 9223372036854775807 by omega))
  have e : A = some ⟨wr.heap.size, 0, none⟩ := by injection h1 with h3; exact h3.symm
  rw [e] at h2
  exact h2
theorem flat4 : ∀ l : List W32, (l.flatMap b4).length = 4 * l.length
  | [] => rfl
  | x :: l => by rw [List.flatMap_cons, List.length_append, flat4 l, List.length_cons]; show 4 + _ = _; omega
theorem b4_len (s : St) (i : Nat) : (((stL s).take i).flatMap b4).length ≤ 32 := by
  rw [flat4]
  have : ((stL s).take i).length ≤ 8 := Nat.le_trans (List.length_take_le' _ _) (Nat.le_refl 8)
  omega
theorem Row.below8 {w : World} {base : Nat} {v : Value} {xs : List UInt8} (h : Row w base v xs) (o : Obj) : Row (w.alloc o) base v xs := pw_own_below h ((Below.refl _ _).alloc (Nat.le_refl _) o)
theorem take_b4 (t : St) (i : Nat) (h : i < 8) : ((stL t).take (i + 1)).flatMap b4 = ((stL t).take i).flatMap b4 ++ b4 (at0 (stL t) i) := by
  have hl : i < (stL t).length := h
  rw [List.take_succ_eq_append_getElem hl, List.flatMap_append]
  have e : at0 (stL t) i = (stL t)[i] := by rw [at0, List.getD_eq_getElem?_getD, List.getElem?_eq_getElem hl]; rfl
  rw [e]
  simp
theorem sum_any (l : List UInt8) (hl : l.length < 4294967296) (w : World) : Calls Tryz.prog 75 #[.string (bs l)] w fun e w' => e = .returned (.string (bs (shaL l))) ∧ Below w.heap.size w w' := by
  have hsz := bs_size l
  go_enter Tryz.func75, Tryz.ntmps75
  go_wp2_with fail
  refine (const_any w).mono ?_
  rintro e wc ⟨rfl, hB⟩
  obtain ⟨A1, hA1⟩ : ∃ A, A = arrU 8 hL := ⟨_, rfl⟩
  obtain ⟨A2, hA2⟩ : ∃ A, A = arrU 64 kL := ⟨_, rfl⟩
  rw [← hA1, ← hA2]
  have HA1 := Lib.hid hA1
  have HA2 := Lib.hid hA2
  have HB := Lib.hid hB
  clear hA1 hA2 hB
  have hs1 : A1.size = 8 := by rw [HA1.out]; exact arrU_size (by decide)
  have hs2 : A2.size = 64 := by rw [HA2.out]; exact arrU_size (by decide)
  have ho1 : A1.all (·.oneCell') = true := by rw [HA1.out]; exact arrU_one 8 hL
  have ho2 : A2.all (·.oneCell') = true := by rw [HA2.out]; exact arrU_one 64 kL
  obtain ⟨X1, hX1⟩ : ∃ X, X = ((wc.alloc (.cells Z8v 157)).alloc (.cells Z64v 158)).setRow wc.heap.size A1 := ⟨_, rfl⟩
  obtain ⟨X2, hX2⟩ : ∃ X, X = X1.setRow (wc.heap.size + 1) A2 := ⟨_, rfl⟩
  have q0 : Blk ((wc.alloc (.cells Z8v 157)).alloc (.cells Z64v 158)) wc.heap.size Z8v 157 := (Blk.new wc Z8v 157).below ((Below.refl _ _).alloc (Nat.le_refl _) _)
  have q1 : Blk ((wc.alloc (.cells Z8v 157)).alloc (.cells Z64v 158)) (wc.heap.size + 1) Z64v 158 := by
    have := Blk.new (wc.alloc (.cells Z8v 157)) Z64v 158
    rwa [show (wc.alloc (.cells Z8v 157)).heap.size = wc.heap.size + 1 by simp] at this
  have q2 : Blk X1 (wc.heap.size + 1) Z64v 158 := by rw [hX1]; exact q1.rowFar (by omega) A1
  have F1 := q0.stc (cs := A1) (by rw [hs1]; rfl) ho1
  rw [← hX1] at F1
  have F2 := q2.stc (cs := A2) (by rw [hs2]; rfl) ho2
  rw [← hX2] at F2
  have r0 : Blk X2 wc.heap.size A1 157 := by rw [hX2, hX1]; exact (q0.row A1).rowFar (by omega) A2
  have r1 : Blk X2 (wc.heap.size + 1) A2 158 := by rw [hX2]; exact q2.row A2
  have rB : Below w.heap.size w X2 := by
    rw [hX2, hX1]
    have h1 := HB.out.size
    exact below_setRow (below_setRow ((HB.out.alloc h1 _).alloc (by simp; omega) _) h1 A1) (by omega) A2
  have HS := Lib.hid (show SumA w H0 wc.heap.size (wc.heap.size + 1) X2 from ⟨by rw [H0_cells, ← HA1.out]; exact r0, by rw [← HA2.out]; exact r1, by omega, HB.out.size, by have := HB.out.size; omega, rB⟩)
  clear hX1 hX2 q0 q1 q2 r0 r1 rB ho1 ho2
  unfold Z8v Z64v at F1
  go_wp2_with fail
  clear F1 F2 hs1 hs2
  obtain ⟨gq, hgk⟩ : ∃ g, g = wc.heap.size + 1 := ⟨_, rfl⟩
  obtain ⟨gs, hgs⟩ : ∃ g, g = wc.heap.size := ⟨_, rfl⟩
  rw [← hgk, ← hgs] at HS ⊢
  clear hgk hgs
  go_loopg [5] (l.length / 64) (fun g x wr => SumRel w H0 l gs gq g x wr)
  case atStart => exact ⟨H0, l, rfl, Nat.le_refl _, rfl, rfl, rfl, HS.out⟩
  case round =>
    obtain ⟨s, r, hrg, hrl, rfl, he, hlo, hA⟩ := hrel
    have HE := Lib.hid he
    have HL := Lib.hid hlo
    have HA := Lib.hid hA
    have hrz := bs_size r
    clear he hlo hA
    cases gk with
    | zero =>
      have r64 : r.length < 64 := by omega
      have hlen : r.length = l.length % 64 := by
        have h1 := leftover_len l.length l (Nat.le_refl _)
        rw [HL.out, leftover_lt r64] at h1
        exact h1
      have Hlen := Lib.hid hlen
      have ea : bs r ++ { data := #[128] } = bs (r ++ [128]) := bs_app r [128]
      clear hlen
      go_wp2_with fail
      clear ea
      have hz0 : zerosFor (l.length + 1) = (120 - (l.length + 1) % 64) % 64 := rfl
      have Hz := Lib.hid hz0
      clear hz0
      go_loopg [5] (zerosFor (l.length + 1)) (fun g x wx => ∃ j : Nat, j + g = zerosFor (l.length + 1) ∧ x = .string (bs (r ++ [128] ++ List.replicate j 0)) ∧ wx = wr)
      case atStart => exact ⟨0, by omega, by simp, rfl⟩
      case round =>
        obtain ⟨j, hj, rfl, rfl⟩ := hrel
        obtain ⟨m, hm⟩ : ∃ m, m = r ++ [128] ++ List.replicate j 0 := ⟨_, rfl⟩
        have hqz : (bs m).size = r.length + 1 + j := by rw [bs_size, hm]; simp; omega
        obtain ⟨q, hq⟩ : ∃ q, q = r.length + 1 + j := ⟨_, rfl⟩
        rw [← hq] at hqz
        have Hm := Lib.hid (show m ++ [0] = r ++ [128] ++ List.replicate (j + 1) 0 by rw [hm, List.replicate_succ', List.append_assoc])
        have ea : bs m ++ { data := #[0] } = bs (m ++ [0]) := bs_app m [0]
        rw [← hm]
        have hq2 : q ≤ 200 := by have := Hz.out; omega
        cases gk with
        | zero =>
          have h56 : ((q : Int) % 64 != 56) = false := by
            have h1 := Hz.out
            have h2 := Hlen.out
            have : (q : Int) % 64 = 56 := by omega
            rw [this]; rfl
          have Hq := Lib.hid hq
          have Hm0 := Lib.hid hm
          clear hq hm
          go_wp2_with fail
          have HM := Lib.hid (show m.length ≤ 200 by rw [← bs_size, hqz]; exact hq2)
          clear ea hqz hq2 h56 Hm
          go_loopg [5, 37] 8 (fun g x y wx => ∃ i : Nat, i + g = 8 ∧ x = .string (bs (m ++ (len8 l.length).take i)) ∧ y = .int .i64 (i : Int) ∧ SumA w s gs gq wx)
          case atStart => exact ⟨0, by omega, by simp, rfl, HA.out⟩
          case round =>
            obtain ⟨i, hi, rfl, rfl, hA⟩ := hrel
            have HA' := Lib.hid hA
            obtain ⟨p, hp⟩ : ∃ p, p = m ++ (len8 l.length).take i := ⟨_, rfl⟩
            rw [← hp]
            have Hp := Lib.hid hp
            have hpl : (bs p).size ≤ 300 := by rw [bs_size, hp]; have := HM.out; simp [len8]; omega
            clear hp hA
            cases gk with
            | zero =>
              obtain rfl : i = 8 := by omega
              have hj : j = zerosFor (l.length + 1) := by omega
              have hpe : p = r ++ tailOf l.length := by
                rw [Hp.out, Hm0.out, hj, List.take_of_length_le (by rw [len8_len]; exact Nat.le_refl _)]
                simp only [tailOf, List.append_assoc]
              have Hfin := Lib.hid (show absorb H0 (l ++ tailOf l.length) = absorb s p by
                rw [sha_split, HE.out, HL.out, absorb_lt r64, leftover_lt r64, hpe])
              have hp64 : p.length % 64 = 0 := by
                rw [hpe, List.length_append]
                exact tail_len _ _ (by rw [Hlen.out]; omega)
              have Hp64 := Lib.hid hp64
              clear hpe hp64 hj
              rw [show ((8 : Nat) : Int) = 8 from rfl]
              go_wp2_with fail
              go_loopg [5] (p.length / 64) (fun g x wr => SumRel w s p gs gq g x wr)
              case atStart => exact ⟨s, p, rfl, Nat.le_refl _, rfl, rfl, rfl, HA'.out⟩
              case round =>
                obtain ⟨s2, r2, hrg2, hrl2, rfl, he2, hlo2, hA2⟩ := hrel
                have HE2 := Lib.hid he2
                have HL2 := Lib.hid hlo2
                have HA2 := Lib.hid hA2
                have hmod : r2.length % 64 = 0 := by
                  rw [← leftover_len r2.length r2 (Nat.le_refl _), ← hlo2, leftover_len p.length p (Nat.le_refl _)]
                  exact Hp64.out
                clear he2 hlo2 hA2
                cases gk with
                | zero =>
                  obtain rfl : r2 = [] := List.eq_nil_of_length_eq_zero (by omega)
                  have Hs2 := Lib.hid (show absorb H0 (l ++ tailOf l.length) = s2 by rw [Hfin.out, HE2.out, absorb_lt (by simp)])
                  rw [bs_nil]
                  have c0 : _ = some (Value.int .u32 (s2.a.toNat : Int)) := HA2.out.a.cell 0
                  have c1 : _ = some (Value.int .u32 (s2.b.toNat : Int)) := HA2.out.a.cell 1
                  have c2 : _ = some (Value.int .u32 (s2.c.toNat : Int)) := HA2.out.a.cell 2
                  have c3 : _ = some (Value.int .u32 (s2.d.toNat : Int)) := HA2.out.a.cell 3
                  have c4 : _ = some (Value.int .u32 (s2.e.toNat : Int)) := HA2.out.a.cell 4
                  have c5 : _ = some (Value.int .u32 (s2.f.toNat : Int)) := HA2.out.a.cell 5
                  have c6 : _ = some (Value.int .u32 (s2.g.toNat : Int)) := HA2.out.a.cell 6
                  have c7 : _ = some (Value.int .u32 (s2.h.toNat : Int)) := HA2.out.a.cell 7
                  go_wp2_with fail
                  have HB2 := Lib.hid HA2.out.B
                  clear c0 c1 c2 c3 c4 c5 c6 c7
                  go_loopg [8, 60] 8 (fun g x y wx => ∃ i : Nat, i + g = 8 ∧ y = .int .i64 (i : Int) ∧ Row wx w.heap.size x (((stL s2).take i).flatMap b4) ∧ Below w.heap.size w wx)
                  case atStart => exact ⟨0, by omega, rfl, own_nil _ _ _ _, HB2.out⟩
                  case round =>
                    obtain ⟨i, hi, rfl, hR, hB⟩ := hrel
                    have HR := Lib.hid hR
                    have HB := Lib.hid hB
                    clear hR hB
                    cases gk with
                    | zero =>
                      obtain rfl : i = 8 := by omega
                      have Ho := Lib.hid (show ((stL s2).take 8).flatMap b4 = shaL l by unfold shaL; rw [Hs2.out]; rfl)
                      have hol := shaL_len l
                      rw [Ho.out] at HR
                      obtain ⟨o, ho⟩ : ∃ o, o = shaL l := ⟨_, rfl⟩
                      rw [← ho] at HR hol
                      obtain ⟨g8, cap, rfl, hgb, hgl⟩ := HR.out.form (by omega)
                      have hst := HR.out.string 60 (by kernel_rfl)
                      rw [hol] at hst ⊢
                      have Hoo := Lib.hid ho
                      clear ho
                      go_wp2_with fail
                      go_ret
                      exact ⟨by rw [Hoo.out]; rfl, HB.out⟩
                    | succ g =>
                      have hi8 : i < 8 := by omega
                      have hix := fun W => index157 s2 i hi8 W
                      have HT := Lib.hid (take_b4 s2 i hi8)
                      obtain ⟨x, hx⟩ : ∃ x, x = at0 (stL s2) i := ⟨_, rfl⟩
                      rw [← hx] at hix HT
                      clear hx
                      have HX := Lib.hid (fun (W : World) => congrArg (fun c => W.alloc (.cells c 5)) (b4_cells x))
                      go_wp2_with (first
                        | (at_builtin; (refine at_list _ (HX.out _) ?_); (refine print_append_row_of (w0 := w) encB 0 w.heap.size rfl (.tmp 63) (.tmp 75) 60 5 (.int .u8 0) 1 rfl Tryz.underlying60 info5 rfl (by decide) encB_one _ (((stL s2).take i).flatMap b4) (b4 x) (some ⟨wr.heap.size, 0, none⟩) 4 4 rfl rfl ((HR.out.below8 _)) (b4_reads wr x) ((HB.out.alloc HB.out.size _)) ?s1 ?l1 ?_); (case s1 => have := HB.out.size; simp; omega); (case l1 => have := b4_len s2 i; omega); intro v1 w2 hR2 hB2 hg hat; have HR2 := Lib.hid hR2; have HB2 := Lib.hid hB2; clear hR2 hB2 hg hat))
                      go_roundg g
                      case measure => omega
                      case rel => exact ⟨i + 1, by omega, by go_num, by rw [HT.out]; exact HR2.out, HB2.out⟩
                | succ g =>
                  have r64 : 64 ≤ r2.length := by omega
                  have hrz2 := bs_size r2
                  have hnil : (bs r2).toList.isEmpty = false := by rw [bs_isnil]; exact decide_eq_false (fun e => by rw [e] at r64; simp at r64)
                  have e1 : (bs r2).extract 0 64 = bs (r2.take 64) := by rw [bs_extract]; rfl
                  have e2 : (bs r2).extract 64 r2.length = bs (r2.drop 64) := by rw [bs_extract, List.take_length]
                  have hM := Lib.hid (fun W hk => mix_any s2 (r2.take 64) (by simp; omega) gq W hk)
                  unfold St.cells B.u32 at hM
                  have c0 : _ = some (Value.int .u32 (s2.a.toNat : Int)) := HA2.out.a.cell 0
                  have c1 : _ = some (Value.int .u32 (s2.b.toNat : Int)) := HA2.out.a.cell 1
                  have c2 : _ = some (Value.int .u32 (s2.c.toNat : Int)) := HA2.out.a.cell 2
                  have c3 : _ = some (Value.int .u32 (s2.d.toNat : Int)) := HA2.out.a.cell 3
                  have c4 : _ = some (Value.int .u32 (s2.e.toNat : Int)) := HA2.out.a.cell 4
                  have c5 : _ = some (Value.int .u32 (s2.f.toNat : Int)) := HA2.out.a.cell 5
                  have c6 : _ = some (Value.int .u32 (s2.g.toNat : Int)) := HA2.out.a.cell 6
                  have c7 : _ = some (Value.int .u32 (s2.h.toNat : Int)) := HA2.out.a.cell 7
                  have i1 : (0 : Int) ≤ 64 := by decide
                  have i2 : (64 : Int) ≤ r2.length := by omega
                  go_wp2_with fail
                  refine wp_region_quiet_tail 3 (by kernel_rfl) (by kernel_rfl) ?_
                  simp only [List.take_succ_cons, List.take_zero, List.drop_succ_cons, List.drop_zero]
                  repeat go_big_quiet_step (fail)
                  refine wpQuiet_nil ?_
                  intro w2 hw2
                  have HA3 := Lib.hid (HA2.out.drewn hw2)
                  clear hw2 c0 c1 c2 c3 c4 c5 c6 c7
                  go_wp2_with fail
                  refine (hM.out w2 HA3.out.k).mono ?_
                  rintro e w3 ⟨rfl, hB3⟩
                  have HA4 := Lib.hid (HA3.out.below hB3)
                  have HX := Lib.hid (absorb_ge (s := s2) r64)
                  have HY := Lib.hid (leftover_ge r64)
                  obtain ⟨t, ht⟩ : ∃ t, t = mix s2 (r2.take 64) := ⟨_, rfl⟩
                  rw [← ht] at HX ⊢
                  clear ht hM hB3 HA3
                  have d0 : _ = some (Value.int .u32 (s2.a.toNat : Int)) := HA4.out.a.cell 0
                  have f0 := HA4.out.a.free 0
                  have d1 : _ = some (Value.int .u32 (s2.b.toNat : Int)) := HA4.out.a.cell 1
                  have f1 := HA4.out.a.free 1
                  have d2 : _ = some (Value.int .u32 (s2.c.toNat : Int)) := HA4.out.a.cell 2
                  have f2 := HA4.out.a.free 2
                  have d3 : _ = some (Value.int .u32 (s2.d.toNat : Int)) := HA4.out.a.cell 3
                  have f3 := HA4.out.a.free 3
                  have d4 : _ = some (Value.int .u32 (s2.e.toNat : Int)) := HA4.out.a.cell 4
                  have f4 := HA4.out.a.free 4
                  have d5 : _ = some (Value.int .u32 (s2.f.toNat : Int)) := HA4.out.a.cell 5
                  have f5 := HA4.out.a.free 5
                  have d6 : _ = some (Value.int .u32 (s2.g.toNat : Int)) := HA4.out.a.cell 6
                  have f6 := HA4.out.a.free 6
                  have d7 : _ = some (Value.int .u32 (s2.h.toNat : Int)) := HA4.out.a.cell 7
                  have f7 := HA4.out.a.free 7
                  go_wp2_with fail
                  go_roundg g
                  case measure => omega
                  case rel => exact ⟨t, r2.drop 64, by simp; omega, by simp; omega, rfl, by rw [HE2.out, HX.out], by rw [HL2.out, HY.out], HA4.out.put⟩
            | succ g =>
              have hi8 : i < 8 := by omega
              obtain ⟨c, hc⟩ : ∃ c : Nat, c = 56 - 8 * i := ⟨_, rfl⟩
              have hc2 : (56 : Int) - 8 * (i : Int) = (c : Int) := by omega
              have hc3 : c ≤ 56 := by omega
              have Hc := Lib.hid hc
              have hv := byteAt_val l.length i c hl hc
              have hcv := str1 wr (byteAt l.length i)
              have HT := Lib.hid (len8_succ l.length i hi8)
              obtain ⟨y, hy⟩ : ∃ y, y = byteAt l.length i := ⟨_, rfl⟩
              rw [← hy] at hv hcv HT
              rw [hv] at hcv
              have hap : bs p ++ bs [y] = bs (p ++ [y]) := bs_app p [y]
              have h1s : (bs [y]).size = 1 := rfl
              clear hc hv hy
              go_wp2_with fail
              go_roundg g
              case measure => omega
              case rel => exact ⟨i + 1, by omega, by rw [HT.out, ← List.append_assoc, ← Hp.out], by go_num, HA'.out.below ((Below.refl _ _).alloc (Nat.le_refl _) _)⟩
        | succ g =>
          have h56 : ((q : Int) % 64 != 56) = true := by
            have h1 := Hz.out
            have h2 := Hlen.out
            have : (q : Int) % 64 ≠ 56 := by omega
            exact bne_iff_ne.2 this
          clear hq hm
          go_wp2_with fail
          go_roundg g
          case measure => omega
          case rel => exact ⟨j + 1, by omega, by rw [← Hm.out], rfl⟩
    | succ g =>
      have r64 : 64 ≤ r.length := by omega
      have e1 : (bs r).extract 0 64 = bs (r.take 64) := by rw [bs_extract]; rfl
      have e2 : (bs r).extract 64 r.length = bs (r.drop 64) := by rw [bs_extract, List.take_length]
      have hM := Lib.hid (fun W hk => mix_any s (r.take 64) (by simp; omega) gq W hk)
      unfold St.cells B.u32 at hM
      have c0 : _ = some (Value.int .u32 (s.a.toNat : Int)) := HA.out.a.cell 0
      have c1 : _ = some (Value.int .u32 (s.b.toNat : Int)) := HA.out.a.cell 1
      have c2 : _ = some (Value.int .u32 (s.c.toNat : Int)) := HA.out.a.cell 2
      have c3 : _ = some (Value.int .u32 (s.d.toNat : Int)) := HA.out.a.cell 3
      have c4 : _ = some (Value.int .u32 (s.e.toNat : Int)) := HA.out.a.cell 4
      have c5 : _ = some (Value.int .u32 (s.f.toNat : Int)) := HA.out.a.cell 5
      have c6 : _ = some (Value.int .u32 (s.g.toNat : Int)) := HA.out.a.cell 6
      have c7 : _ = some (Value.int .u32 (s.h.toNat : Int)) := HA.out.a.cell 7
      have i1 : (0 : Int) ≤ 64 := by decide
      have i2 : (64 : Int) ≤ r.length := by omega
      go_wp2_with fail
      refine wp_region_quiet_tail 3 (by kernel_rfl) (by kernel_rfl) ?_
      simp only [List.take_succ_cons, List.take_zero, List.drop_succ_cons, List.drop_zero]
      repeat go_big_quiet_step (fail)
      refine wpQuiet_nil ?_
      intro w2 hw2
      have HA2 := Lib.hid (HA.out.drewn hw2)
      clear hw2 c0 c1 c2 c3 c4 c5 c6 c7
      go_wp2_with fail
      refine (hM.out w2 HA2.out.k).mono ?_
      rintro e w3 ⟨rfl, hB3⟩
      have HA3 := Lib.hid (HA2.out.below hB3)
      have HX := Lib.hid (absorb_ge (s := s) r64)
      have HY := Lib.hid (leftover_ge r64)
      obtain ⟨t, ht⟩ : ∃ t, t = mix s (r.take 64) := ⟨_, rfl⟩
      rw [← ht] at HX ⊢
      clear ht hM hB3 HA2
      have d0 : _ = some (Value.int .u32 (s.a.toNat : Int)) := HA3.out.a.cell 0
      have f0 := HA3.out.a.free 0
      have d1 : _ = some (Value.int .u32 (s.b.toNat : Int)) := HA3.out.a.cell 1
      have f1 := HA3.out.a.free 1
      have d2 : _ = some (Value.int .u32 (s.c.toNat : Int)) := HA3.out.a.cell 2
      have f2 := HA3.out.a.free 2
      have d3 : _ = some (Value.int .u32 (s.d.toNat : Int)) := HA3.out.a.cell 3
      have f3 := HA3.out.a.free 3
      have d4 : _ = some (Value.int .u32 (s.e.toNat : Int)) := HA3.out.a.cell 4
      have f4 := HA3.out.a.free 4
      have d5 : _ = some (Value.int .u32 (s.f.toNat : Int)) := HA3.out.a.cell 5
      have f5 := HA3.out.a.free 5
      have d6 : _ = some (Value.int .u32 (s.g.toNat : Int)) := HA3.out.a.cell 6
      have f6 := HA3.out.a.free 6
      have d7 : _ = some (Value.int .u32 (s.h.toNat : Int)) := HA3.out.a.cell 7
      have f7 := HA3.out.a.free 7
      go_wp2_with fail
      go_roundg g
      case measure => omega
      case rel => exact ⟨t, r.drop 64, by simp; omega, by simp; omega, rfl, by rw [HE.out, HX.out], by rw [HL.out, HY.out], HA3.out.put⟩
end Go.Proofs.YticnmogeknlmeaaGreatDoor.B
