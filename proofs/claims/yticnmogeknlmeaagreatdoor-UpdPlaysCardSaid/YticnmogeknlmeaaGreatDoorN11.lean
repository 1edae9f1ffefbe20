/- Helper: digits to the base 16, plainly; the program's reading of them, walked. the document's reading of digits to the base 16, walked. a line's word and what stands behind it, walked: of the program, and of the document. a number behind its word, walked: of the program. No condition. -/
import Derived.Test.YticnmogeknlmeaaGreatDoorN10
import Derived.Test.YticnmogeknlmeaaGreatDoorN01
namespace Go.Proofs.YticnmogeknlmeaaGreatDoor.B
open Go.RowKit Go.Proofs.YticnmogeknlmeaaGreatDoorW.PrintWords Go.Proofs.YticnmogeknlmeaaGreatDoor.Later
set_option maxRecDepth 100000
set_option maxHeartbeats 1600000
def hexN (c : UInt8) : Nat := if 48 ≤ c.toNat ∧ c.toNat ≤ 57 then c.toNat - 48 else if 97 ≤ c.toNat ∧ c.toNat ≤ 102 then c.toNat - 87 else 16
def hexD : List UInt8 := [48, 49, 50, 51, 52, 53, 54, 55, 56, 57, 97, 98, 99, 100, 101, 102]
theorem hex_all : ∀ n : Fin 256, Lib.indexByte hexD (UInt8.ofNat n.val) = (if hexN (UInt8.ofNat n.val) < 16 then (hexN (UInt8.ofNat n.val) : Int) else -1) := by decide +kernel
theorem hex_index (c : UInt8) : Lib.indexByte hexD c = if hexN c < 16 then (hexN c : Int) else -1 := by
  have h := hex_all ⟨c.toNat, c.toNat_lt⟩
  simpa using h
/-- Bytes out of their digits to the base 16. -/
def bytesL : List UInt8 → Option (List UInt8)
  | [] => some []
  | [_] => none
  | a :: b :: l => if hexN a < 16 ∧ hexN b < 16 then (bytesL l).map (fun r => UInt8.ofNat (hexN a * 16 + hexN b) :: r) else none
theorem bytesL_odd : ∀ l : List UInt8, l.length % 2 = 1 → bytesL l = none
  | [], h => by simp at h
  | [_], _ => rfl
  | a :: b :: l, h => by
    rw [bytesL, bytesL_odd l (by simp at h; omega)]
    split <;> rfl
def aft (out : List UInt8) (o : Option (List UInt8)) : Option (List UInt8) := o.map (out ++ ·)
theorem aft_step (out l : List UInt8) (a b : UInt8) (h : hexN a < 16 ∧ hexN b < 16) : aft out (bytesL (a :: b :: l)) = aft (out ++ [UInt8.ofNat (hexN a * 16 + hexN b)]) (bytesL l) := by
  rw [bytesL, if_pos h, aft, aft, Option.map_map]
  congr 1
  funext r
  simp
theorem aft_bad (out l : List UInt8) (a b : UInt8) (h : ¬ (hexN a < 16 ∧ hexN b < 16)) : aft out (bytesL (a :: b :: l)) = none := by
  rw [bytesL, if_neg h]; rfl
theorem index9 (l : List UInt8) (k : Nat) (h : k < l.length) (W : World) : (Instr.index 9 (.string (bs l)) (.int .i64 (k : Int))).run Tryz.prog W = .ok (.int .u8 ((l[k]'h).toNat : Int)) W := by
  have h2 : k < (bs l).size := by rw [bs_size]; exact h
  rw [run_index_string W 9 (bs l) .i64 (k : Int) Tryz.underlying9]
  rw [dif_pos ⟨by omega, by omega⟩]
  rfl
theorem or_hex (a b : Nat) (ha : a < 16) (hb : b < 16) : bits BinOp.or IntKind.i64 ((a : Int) * 16) (b : Int) = ((UInt8.ofNat (a * 16 + b)).toNat : Int) :=
  have h : ∀ a b : Fin 16, bits BinOp.or IntKind.i64 ((a.val : Int) * 16) (b.val : Int) = ((UInt8.ofNat (a.val * 16 + b.val)).toNat : Int) := by decide +kernel
  h ⟨a, ha⟩ ⟨b, hb⟩
/-- What the code answers of digits to the base 16. -/
def BytesOut (l : List UInt8) (e : Ending) : Prop := (∃ r, bytesL l = some r ∧ e = .returned (.tuple #[.string (bs r), .int .i64 0])) ∨ (bytesL l = none ∧ ∃ c : Int, c ≠ 0 ∧ e = .returned (.tuple #[.string (bs []), .int .i64 c]))
theorem hexbytes_any (l : List UInt8) (hl : l.length < 4294967281) (w : World) : Calls Tryz.prog 69 #[.string (bs l)] w fun e w' => BytesOut l e ∧ Below w.heap.size w w' := by
  have hsz := bs_size l
  have hB0 := Lib.hid (Below.refl w.heap.size w)
  by_cases hodd : l.length % 2 = 1
  · have hq : ((l.length : Int) % 2 == 1) = true := by rw [beq_iff_eq]; omega
    have hR := Lib.hid (bytesL_odd l hodd)
    go_enter Tryz.func69, Tryz.ntmps69
    go_wp2_with fail
    go_ret2
    exact ⟨.inr ⟨hR.out, 2, by decide, rfl⟩, hB0.out⟩
  · have hq : ((l.length : Int) % 2 == 1) = false := beq_eq_false_iff_ne.2 (by omega)
    go_enter Tryz.func69, Tryz.ntmps69
    go_wp2_with fail
    go_loopg [4, 5] (l.length + 1) (fun g v x wr => ∃ (j : Nat) (out : List UInt8), 2 * j + g = l.length + 1 ∧ 2 * j ≤ l.length ∧ x = .int .i64 ((2 * j : Nat) : Int) ∧ out.length = j ∧ Row wr w.heap.size v out ∧ Below w.heap.size w wr ∧ bytesL l = aft out (bytesL (l.drop (2 * j))))
    case atStart =>
      refine ⟨0, [], by omega, by omega, rfl, rfl, ?_, hB0.out, ?_⟩
      · exact ⟨rfl, .inl ⟨rfl, rfl⟩⟩
      · simp [aft]
    case round =>
      obtain ⟨j, out, hg, hj, rfl, ho, hR, hB, hE⟩ := hrel
      have HR := Lib.hid hR
      have HB := Lib.hid hB
      have HE := Lib.hid hE
      have hol : out.length ≤ l.length := by omega
      have Ho := Lib.hid ho
      clear hR hB hE ho
      by_cases hend : 2 * j < l.length
      · have h2 : 2 * j + 1 < l.length := by omega
        obtain ⟨k, hk⟩ : ∃ k, k = 2 * j := ⟨_, rfl⟩
        have hlt0 : decide (2 * (j : Int) < (l.length : Int)) = true := decide_eq_true (by omega)
        obtain ⟨k2, hk2⟩ : ∃ k2, k2 = k + 1 := ⟨_, rfl⟩
        rw [← hk] at hend h2 HE ⊢
        rw [← hk2] at h2
        obtain ⟨a, ha⟩ : ∃ a, a = l[k]'hend := ⟨_, rfl⟩
        obtain ⟨b, hb⟩ : ∃ b, b = l[k2]'h2 := ⟨_, rfl⟩
        have hp : k < (bs l).size := by rw [hsz]; exact hend
        have hp2 : k2 < (bs l).size := by rw [hsz]; exact h2
        have hga := (bs_get l k hend hp).trans ha.symm
        have hgb := (bs_get l k2 h2 hp2).trans hb.symm
        have Hdr := Lib.hid (show l.drop k = a :: b :: l.drop (k + 2) by
          rw [List.drop_eq_getElem_cons hend, ← ha, ← hk2, List.drop_eq_getElem_cons h2, ← hb, hk2])
        have ia := fun W => index9 l k hend W
        have ib := fun W => index9 l k2 h2 W
        rw [← ha] at ia
        rw [← hb] at ib
        have hka : (k : Int) + 1 = (k2 : Int) := by omega
        have hlt : decide ((k : Int) < (l.length : Int)) = true := decide_eq_true (by omega)
        have Hk := Lib.hid hk
        have Hk2 := Lib.hid hk2
        have Hj := Lib.hid hj
        have Hg := Lib.hid hg
        clear ha hb hk hk2 hlt0 hj hg
        by_cases hbad : hexN a < 16 ∧ hexN b < 16
        · have HN := Lib.hid (show bytesL l = aft (out ++ [UInt8.ofNat (hexN a * 16 + hexN b)]) (bytesL (l.drop (k + 2))) by rw [HE.out, Hdr.out, aft_step _ _ _ _ hbad])
          obtain ⟨na, hna⟩ : ∃ v, v = hexN a := ⟨_, rfl⟩
          obtain ⟨nb, hnb⟩ : ∃ v, v = hexN b := ⟨_, rfl⟩
          have ca : ∀ w, Calls Tryz.prog 88 #[.string ⟨#[48, 49, 50, 51, 52, 53, 54, 55, 56, 57, 97, 98, 99, 100, 101, 102]⟩, .int .u8 (a.toNat : Int)] w fun e w' => e = .returned (.int .i64 (na : Int)) ∧ w = w' := fun w => (Tryz.strings_IndexByte ⟨#[48, 49, 50, 51, 52, 53, 54, 55, 56, 57, 97, 98, 99, 100, 101, 102]⟩ (a.toNat : Int) w).mono fun e w' ⟨h1, h2⟩ => ⟨by
            have h3 := hex_index a
            rw [if_pos hbad.1] at h3
            rw [h1, hna, ← h3]; simp [hexD], h2.symm⟩
          have cb : ∀ w, Calls Tryz.prog 88 #[.string ⟨#[48, 49, 50, 51, 52, 53, 54, 55, 56, 57, 97, 98, 99, 100, 101, 102]⟩, .int .u8 (b.toNat : Int)] w fun e w' => e = .returned (.int .i64 (nb : Int)) ∧ w = w' := fun w => (Tryz.strings_IndexByte ⟨#[48, 49, 50, 51, 52, 53, 54, 55, 56, 57, 97, 98, 99, 100, 101, 102]⟩ (b.toNat : Int) w).mono fun e w' ⟨h1, h2⟩ => ⟨by
            have h3 := hex_index b
            rw [if_pos hbad.2] at h3
            rw [h1, hnb, ← h3]; simp [hexD], h2.symm⟩
          rw [← hna, ← hnb] at HN hbad
          obtain ⟨ha16, hb16⟩ := hbad
          have e1 : decide ((na : Int) < 0) = false := decide_eq_false (by omega)
          have e2 : decide ((nb : Int) < 0) = false := decide_eq_false (by omega)
          have Ca := Lib.hid ca
          have Cb := Lib.hid cb
          have hor := or_hex na nb ha16 hb16
          obtain ⟨y, hy⟩ : ∃ v, v = UInt8.ofNat (na * 16 + nb) := ⟨_, rfl⟩
          rw [← hy] at hor HN
          have hmod : (y.toNat : Int) % 256 = (y.toNat : Int) := by have := y.toNat_lt; omega
          clear hy
          clear hna hnb ca cb
          go_wp2_with fail
          refine wp_region_later (by kernel_rfl) (by kernel_rfl) ?_
          repeat go_big_quiet_step (fail)
          go_big_quiet_step ((go_at_call 88; exact calls_later_same (fun w3 _ => Ca.out w3) _))
          repeat go_big_quiet_step (fail)
          go_big_quiet_step ((go_at_call 88; exact calls_later_same (fun w3 _ => Cb.out w3) _))
          repeat go_big_quiet_step (fail)
          refine wpQuiet_nil ?_
          intro w2 hw2
          have HR2 := Lib.hid (show Row w2 w.heap.size u4 out from pw_own_below HR.out (later_of hw2))
          have HB2 := Lib.hid (HB.out.trans ((later_of hw2).mono HB.out.size))
          clear hw2
          cases gk with
          | zero => have := Hg.out; have := Hk.out; omega
          | succ gk2 =>
            cases gk2 with
            | zero => have := Hg.out; have := Hk.out; omega
            | succ g =>
              go_wp2_with (first
                | (at_builtin; (refine print_append_of (w0 := w) encB w.heap.size rfl (.tmp 33) (.tmp 39) 60 5 (.int .u8 0) 1 rfl Tryz.underlying60 info5 rfl (by decide) _ out y rfl rfl rfl HR2.out HB2.out ?s1 ?l1 ?_); (case s1 => exact HB2.out.size); (case l1 => omega); intro v1 w3 hR3 hB3 hg3 hat3; have HR3 := Lib.hid (show Row w3 w.heap.size v1 (out ++ [y]) from hR3); have HB3 := Lib.hid hB3; clear hR3 hB3 hg3 hat3))
              go_roundg g
              case measure => omega
              case rel => exact ⟨j + 1, out ++ [y], by have := Hg.out; have := Hk.out; omega, by have := Hk.out; have := Hk2.out; omega, by have := Hk.out; go_num, by simp [Ho.out], HR3.out, HB3.out, by rw [HN.out, Hk.out]; rfl⟩
        · have hR9 := Lib.hid (show bytesL l = none by rw [HE.out, Hdr.out, aft_bad _ _ _ _ hbad])
          have hneg : (Lib.indexByte hexD a < 0) ∨ (0 ≤ Lib.indexByte hexD a ∧ Lib.indexByte hexD b < 0) := by
            rw [hex_index, hex_index]
            split <;> split <;> omega
          obtain ⟨xa, hxa⟩ : ∃ v, v = Lib.indexByte hexD a := ⟨_, rfl⟩
          obtain ⟨xb, hxb⟩ : ∃ v, v = Lib.indexByte hexD b := ⟨_, rfl⟩
          have ca : ∀ w, Calls Tryz.prog 88 #[.string ⟨#[48, 49, 50, 51, 52, 53, 54, 55, 56, 57, 97, 98, 99, 100, 101, 102]⟩, .int .u8 (a.toNat : Int)] w fun e w' => e = .returned (.int .i64 xa) ∧ w = w' := fun w => (Tryz.strings_IndexByte ⟨#[48, 49, 50, 51, 52, 53, 54, 55, 56, 57, 97, 98, 99, 100, 101, 102]⟩ (a.toNat : Int) w).mono fun e w' ⟨h1, h2⟩ => ⟨by rw [h1, hxa]; simp [hexD], h2.symm⟩
          have cb : ∀ w, Calls Tryz.prog 88 #[.string ⟨#[48, 49, 50, 51, 52, 53, 54, 55, 56, 57, 97, 98, 99, 100, 101, 102]⟩, .int .u8 (b.toNat : Int)] w fun e w' => e = .returned (.int .i64 xb) ∧ w = w' := fun w => (Tryz.strings_IndexByte ⟨#[48, 49, 50, 51, 52, 53, 54, 55, 56, 57, 97, 98, 99, 100, 101, 102]⟩ (b.toNat : Int) w).mono fun e w' ⟨h1, h2⟩ => ⟨by rw [h1, hxb]; simp [hexD], h2.symm⟩
          rw [← hxa, ← hxb] at hneg
          have Ca := Lib.hid ca
          have Cb := Lib.hid cb
          clear hxa hxb hbad ca cb
          go_wp2_with fail
          refine wp_region_later (by kernel_rfl) (by kernel_rfl) ?_
          repeat go_big_quiet_step (fail)
          go_big_quiet_step ((go_at_call 88; exact calls_later_same (fun w3 _ => Ca.out w3) _))
          repeat go_big_quiet_step (fail)
          go_big_quiet_step ((go_at_call 88; exact calls_later_same (fun w3 _ => Cb.out w3) _))
          repeat go_big_quiet_step (fail)
          refine wpQuiet_nil ?_
          intro w2 hw2
          have hb2 := later_of hw2
          clear hw2
          by_cases hna : xa < 0
          · have e1 : decide (xa < 0) = true := decide_eq_true hna
            clear hneg
            go_wp2_with fail
            go_ret2
            exact ⟨.inr ⟨hR9.out, 3, by decide, rfl⟩, HB.out.trans (hb2.mono HB.out.size)⟩
          · have e1 : decide (xa < 0) = false := decide_eq_false hna
            have e2 : decide (xb < 0) = true := decide_eq_true (by omega)
            clear hneg
            go_wp2_with fail
            go_ret2
            exact ⟨.inr ⟨hR9.out, 3, by decide, rfl⟩, HB.out.trans (hb2.mono HB.out.size)⟩
      · have hlt : decide (((2 * j : Nat) : Int) < (l.length : Int)) = false := decide_eq_false (by omega)
        have hfin : 2 * j = l.length := by omega
        have hR2 := Lib.hid (show bytesL l = some out by rw [HE.out, hfin, List.drop_length]; simp [bytesL, aft])
        rcases HR.out.2 with ⟨rfl, hn⟩ | ⟨g0, cap, cur, rfl, _⟩
        · have hcv : ∀ W, (convert 60 9 (.slice none 0 0)).run Tryz.prog W = .ok (.string (bs [])) W := fun W => by rfl
          obtain rfl : out = [] := List.eq_nil_of_length_eq_zero hn
          go_wp2_with fail
          go_ret2
          exact ⟨.inl ⟨[], hR2.out, rfl⟩, HB.out⟩
        · have hst := HR.out.string 60 (by kernel_rfl)
          go_wp2_with fail
          go_ret2
          exact ⟨.inl ⟨out, hR2.out, rfl⟩, HB.out⟩
end Go.Proofs.YticnmogeknlmeaaGreatDoor.B
namespace Go.Proofs.YticnmogeknlmeaaGreatDoor.B
open Go.RowKit Go.Proofs.YticnmogeknlmeaaGreatDoorW.PrintWords Go.Proofs.YticnmogeknlmeaaGreatDoor.Later
set_option maxRecDepth 100000
set_option maxHeartbeats 1600000
def cc (a b : UInt8) (i : Nat) : UInt8 := if i = 0 then a else b
def accN (a b : UInt8) : Nat → Nat
  | 0 => 0
  | i + 1 => accN a b i * 16 + hexN (cc a b i)
theorem cc_get (l : List UInt8) (k i : Nat) (hk : k + 1 < l.length) (hi : i < 2) : l[k + i]'(by omega) = cc (l[k]'(by omega)) (l[k + 1]'hk) i := by
  have : i = 0 ∨ i = 1 := by omega
  rcases this with rfl | rfl <;> rfl
/-- What the document's code answers of digits to the base 16. -/
def BytesOut2 (l : List UInt8) (e : Ending) : Prop := (∃ r, bytesL l = some r ∧ e = .returned (.tuple #[.string (bs r), .bool true])) ∨ (bytesL l = none ∧ e = .returned (.tuple #[.string (bs []), .bool false]))
theorem refBytes_any (l : List UInt8) (hl : l.length < 4294967281) (w : World) : Calls Tryz.prog 84 #[.string (bs l)] w fun e w' => BytesOut2 l e ∧ Below w.heap.size w w' := by
  have hsz := bs_size l
  have hB0 := Lib.hid ((Below.refl w.heap.size w).alloc (Nat.le_refl _) (.cells #[] 5))
  by_cases hodd : l.length % 2 = 1
  · have hq : ((l.length : Int) % 2 == 1) = true := by rw [beq_iff_eq]; omega
    have hR := Lib.hid (bytesL_odd l hodd)
    go_enter Tryz.func84, Tryz.ntmps84
    go_wp2_with fail
    go_ret2
    exact ⟨.inr ⟨hR.out, rfl⟩, hB0.out⟩
  · have hq : ((l.length : Int) % 2 == 1) = false := beq_eq_false_iff_ne.2 (by omega)
    go_enter Tryz.func84, Tryz.ntmps84
    go_wp2_with fail
    go_loopg [4, 5] (l.length + 1) (fun g v x wr => ∃ (j : Nat) (out : List UInt8), 2 * j + g = l.length + 1 ∧ 2 * j ≤ l.length ∧ x = .int .i64 ((2 * j : Nat) : Int) ∧ out.length = j ∧ Row wr w.heap.size v out ∧ Below w.heap.size w wr ∧ bytesL l = aft out (bytesL (l.drop (2 * j))))
    case atStart =>
      refine ⟨0, [], by omega, by omega, rfl, rfl, ?_, hB0.out, ?_⟩
      · exact Row.lit w w.heap.size [] (Nat.le_refl _) (by decide)
      · simp [aft]
    case round =>
      obtain ⟨j, out, hg, hj, rfl, ho, hR, hB, hE⟩ := hrel
      have HR := Lib.hid hR
      have HB := Lib.hid hB
      have HE := Lib.hid hE
      have hol : out.length ≤ l.length := by omega
      have Ho := Lib.hid ho
      clear hR hB hE ho
      by_cases hend : 2 * j < l.length
      · have h2 : 2 * j + 1 < l.length := by omega
        obtain ⟨k, hk⟩ : ∃ k, k = 2 * j := ⟨_, rfl⟩
        rw [← hk] at hend h2 HE ⊢
        obtain ⟨a, ha⟩ : ∃ a, a = l[k]'hend := ⟨_, rfl⟩
        obtain ⟨b, hb⟩ : ∃ b, b = l[k + 1]'h2 := ⟨_, rfl⟩
        have Hdr := Lib.hid (show l.drop k = a :: b :: l.drop (k + 2) by
          rw [List.drop_eq_getElem_cons hend, ← ha, List.drop_eq_getElem_cons h2, ← hb])
        have HG := Lib.hid (show ∀ i (hi : i < 2) (hx : k + i < l.length), l[k + i]'hx = cc a b i from fun i hi hx => by rw [cc_get l k i h2 hi, ha, hb])
        have hlt : decide ((k : Int) < (l.length : Int)) = true := decide_eq_true (by omega)
        have Hk := Lib.hid hk
        have Hj := Lib.hid hj
        have Hg := Lib.hid hg
        clear ha hb hk hj hg
        go_wp2_with fail
        go_loopg [6, 7] 2 (fun g x y wx => ∃ i acc : Nat, i + g = 2 ∧ x = .int .i64 (acc : Int) ∧ y = .int .i64 (i : Int) ∧ acc = accN a b i ∧ acc < 16 ^ i ∧ (∀ m < i, hexN (cc a b m) < 16) ∧ wx = wr)
        case atStart => exact ⟨0, 0, by omega, rfl, rfl, rfl, by decide, fun m hm => absurd hm (Nat.not_lt_zero m), rfl⟩
        case round =>
          obtain ⟨i, acc, hi, rfl, rfl, hac, hlt16, hall, rfl⟩ := hrel
          have Hac := Lib.hid hac
          have Hall := Lib.hid hall
          clear hac hall
          cases gk with
          | zero =>
            obtain rfl : i = 2 := by omega
            have h0 := Hall.out 0 (by decide)
            have h1 := Hall.out 1 (by decide)
            have HN := Lib.hid (show bytesL l = aft (out ++ [UInt8.ofNat (hexN a * 16 + hexN b)]) (bytesL (l.drop (k + 2))) by rw [HE.out, Hdr.out, aft_step out _ a b ⟨h0, h1⟩])
            obtain ⟨y, hy⟩ : ∃ v, v = UInt8.ofNat (hexN a * 16 + hexN b) := ⟨_, rfl⟩
            rw [← hy] at HN
            have hay : acc = y.toNat := by
              have e1 : accN a b 2 = hexN a * 16 + hexN b := by simp [accN, cc]
              rw [Hac.out, e1, hy]
              have h3 : hexN a < 16 := h0
              have h4 : hexN b < 16 := h1
              simp
              omega
            subst hay
            have hmod : (y.toNat : Int) % 256 = (y.toNat : Int) := by have := y.toNat_lt; omega
            have hi2 : ¬ ((2 : Int) < 2) := by decide
            clear hy h0 h1 hi hi2
            go_wp2_with (first
              | (at_builtin; (refine print_append_of (w0 := w) encB w.heap.size rfl (.tmp 55) (.tmp 58) 60 5 (.int .u8 0) 1 rfl Tryz.underlying60 info5 rfl (by decide) _ out y rfl rfl rfl HR.out HB.out ?s1 ?l1 ?_); (case s1 => exact HB.out.size); (case l1 => omega); intro v1 w3 hR3 hB3 hg3 hat3; have HR3 := Lib.hid (show Row w3 w.heap.size v1 (out ++ [y]) from hR3); have HB3 := Lib.hid hB3; clear hR3 hB3 hg3 hat3))
            obtain ⟨g, rfl⟩ : ∃ g, gk = g + 2 := ⟨gk - 2, by have := Hg.out; have := Hk.out; omega⟩
            go_roundg g
            case measure => omega
            case rel => exact ⟨j + 1, out ++ [y], by have := Hg.out; have := Hk.out; omega, by have := Hk.out; omega, by have := Hk.out; go_num, by simp [Ho.out], HR3.out, HB3.out, by rw [HN.out, Hk.out]; rfl⟩
          | succ g =>
            have hi2 : i < 2 := by omega
            have hil : decide ((i : Int) < 2) = true := decide_eq_true (by omega)
            obtain ⟨kk, hkk⟩ : ∃ kk, kk = k + i := ⟨_, rfl⟩
            have hkl : kk < l.length := by omega
            have hgd := (bs_get l kk hkl (by rw [hsz]; exact hkl)).trans (show l[kk]'hkl = cc a b i by subst hkk; exact HG.out i hi2 hkl)
            have hp : kk < (bs l).size := by rw [hsz]; exact hkl
            have hkI : (k : Int) + (i : Int) = (kk : Int) := by omega
            have Hkk := Lib.hid hkk
            have Hbad := Lib.hid (show ¬ hexN (cc a b i) < 16 → bytesL l = none from fun h => by
              rw [HE.out, Hdr.out]
              refine aft_bad _ _ _ _ fun h2 => h ?_
              have : i = 0 ∨ i = 1 := by omega
              rcases this with rfl | rfl
              · exact h2.1
              · exact h2.2)
            have Hst := Lib.hid (show accN a b (i + 1) = acc * 16 + hexN (cc a b i) by rw [accN, ← Hac.out])
            have hacc : acc < 16 := by
              have : i = 0 ∨ i = 1 := by omega
              rcases this with rfl | rfl <;> omega
            have Hpw := Lib.hid (show 16 ^ (i + 1) = 16 ^ i * 16 from Nat.pow_succ _ _)
            have HltP := Lib.hid hlt16
            obtain ⟨c, hc⟩ : ∃ c, c = cc a b i := ⟨_, rfl⟩
            rw [← hc] at hgd Hbad Hst
            have Hc := Lib.hid hc
            clear hkk hc hlt16
            have hc8 : c.toNat < 256 := c.toNat_lt
            by_cases hd : 48 ≤ c.toNat ∧ c.toNat ≤ 57
            · have e1 : decide (48 ≤ (c.toNat : Int)) = true := decide_eq_true (by omega)
              have e2 : decide ((c.toNat : Int) ≤ 57) = true := decide_eq_true (by omega)
              have hx : hexN c = c.toNat - 48 := by rw [hexN, if_pos hd]
              have Hx := Lib.hid hx
              have ev : (acc : Int) * 16 + (c.toNat : Int) - 48 = ((acc * 16 + (c.toNat - 48) : Nat) : Int) := by omega
              clear hx
              go_wp2_with fail
              go_roundg g
              case measure => omega
              case rel => exact ⟨i + 1, acc * 16 + (c.toNat - 48), by omega, by go_num, by go_num, by rw [Hst.out, Hx.out], by have := HltP.out; rw [Hpw.out]; omega, fun m hm => by
                rcases Nat.lt_succ_iff_lt_or_eq.1 hm with h | h
                · exact Hall.out m h
                · rw [h, ← Hc.out, Hx.out]; omega, rfl⟩
            · by_cases hd2 : 97 ≤ c.toNat ∧ c.toNat ≤ 102
              · have e1 : decide (48 ≤ (c.toNat : Int)) = true := decide_eq_true (by omega)
                have e2 : decide ((c.toNat : Int) ≤ 57) = false := decide_eq_false (by omega)
                have e3 : decide (97 ≤ (c.toNat : Int)) = true := decide_eq_true (by omega)
                have e4 : decide ((c.toNat : Int) ≤ 102) = true := decide_eq_true (by omega)
                have hx : hexN c = c.toNat - 87 := by rw [hexN, if_neg hd, if_pos hd2]
                have Hx := Lib.hid hx
                have ev : (acc : Int) * 16 + (c.toNat : Int) - 97 + 10 = ((acc * 16 + (c.toNat - 87) : Nat) : Int) := by omega
                clear hx hd
                go_wp2_with fail
                go_roundg g
                case measure => omega
                case rel => exact ⟨i + 1, acc * 16 + (c.toNat - 87), by omega, by go_num, by go_num, by rw [Hst.out, Hx.out], by have := HltP.out; rw [Hpw.out]; omega, fun m hm => by
                  rcases Nat.lt_succ_iff_lt_or_eq.1 hm with h | h
                  · exact Hall.out m h
                  · rw [h, ← Hc.out, Hx.out]; omega, rfl⟩
              · have hR9 := Lib.hid (Hbad.out (by rw [hexN, if_neg hd, if_neg hd2]; omega))
                by_cases h48 : 48 ≤ c.toNat
                · have e1 : decide (48 ≤ (c.toNat : Int)) = true := decide_eq_true (by omega)
                  have e2 : decide ((c.toNat : Int) ≤ 57) = false := decide_eq_false (by omega)
                  by_cases h97 : 97 ≤ c.toNat
                  · have e3 : decide (97 ≤ (c.toNat : Int)) = true := decide_eq_true (by omega)
                    have e4 : decide ((c.toNat : Int) ≤ 102) = false := decide_eq_false (by omega)
                    clear hd hd2 h48 h97
                    go_wp2_with fail
                    go_ret2
                    exact ⟨.inr ⟨hR9.out, rfl⟩, HB.out⟩
                  · have e3 : decide (97 ≤ (c.toNat : Int)) = false := decide_eq_false (by omega)
                    clear hd hd2 h48 h97
                    go_wp2_with fail
                    go_ret2
                    exact ⟨.inr ⟨hR9.out, rfl⟩, HB.out⟩
                · have e1 : decide (48 ≤ (c.toNat : Int)) = false := decide_eq_false (by omega)
                  have e3 : decide (97 ≤ (c.toNat : Int)) = false := decide_eq_false (by omega)
                  clear hd hd2 h48
                  go_wp2_with fail
                  go_ret2
                  exact ⟨.inr ⟨hR9.out, rfl⟩, HB.out⟩
      · have hlt : decide (((2 * j : Nat) : Int) < (l.length : Int)) = false := decide_eq_false (by omega)
        have hfin : 2 * j = l.length := by omega
        have hR2 := Lib.hid (show bytesL l = some out by rw [HE.out, hfin, List.drop_length]; simp [bytesL, aft])
        rcases HR.out.2 with ⟨rfl, hn⟩ | ⟨g0, cap, cur, rfl, _⟩
        · have hcv : ∀ W, (convert 60 9 (.slice none 0 0)).run Tryz.prog W = .ok (.string (bs [])) W := fun W => by rfl
          obtain rfl : out = [] := List.eq_nil_of_length_eq_zero hn
          go_wp2_with fail
          go_ret2
          exact ⟨.inl ⟨[], hR2.out, rfl⟩, HB.out⟩
        · have hst := HR.out.string 60 (by kernel_rfl)
          go_wp2_with fail
          go_ret2
          exact ⟨.inl ⟨out, hR2.out, rfl⟩, HB.out⟩
end Go.Proofs.YticnmogeknlmeaaGreatDoor.B
namespace Go.Proofs.YticnmogeknlmeaaGreatDoor.B
open Go.RowKit Go.Proofs.YticnmogeknlmeaaGreatDoorW.PrintWords Go.Proofs.YticnmogeknlmeaaGreatDoor.Later
set_option maxRecDepth 100000
set_option maxHeartbeats 1600000
theorem bs_toList (l : List UInt8) : (bs l).toList = l := by rw [ByteArray.toList_eq, bs_list]
theorem bs_add (a : List UInt8) : bs a ++ ⟨#[32]⟩ = bs (a ++ [32]) := by
  apply ByteArray.ext
  simp [bs]
/-- What stands behind a word and a space. -/
def behindL (wd l : List UInt8) : Option (List UInt8) := if Lib.hasPrefix l (wd ++ [32]) = true then some (l.drop (wd.length + 1)) else none
def btv : Option (List UInt8) → Value
  | some r => .tuple #[.string (bs r), .bool true]
  | none => .tuple #[.string (bs []), .bool false]
theorem behind_any (l wd : List UInt8) (hw : wd.length < 4294967281) (w : World) : Calls Tryz.prog 82 #[.string (bs l), .string (bs wd)] w fun e w' => e = .returned (btv (behindL wd l)) ∧ w' = w := by
  have hsz := bs_size l
  have hszw := bs_size wd
  obtain ⟨n, hn⟩ : ∃ n, n = wd.length + 1 := ⟨_, rfl⟩
  have hnI : (wd.length : Int) + 1 = (n : Int) := by omega
  have hadd := bs_add wd
  have hpre := Lib.hid (Lib.hasPrefix_of_take l (wd ++ [32]))
  have hlw : (wd ++ [32]).length = n := by rw [hn]; simp
  have hnb : n < 4294967282 := by omega
  obtain ⟨ws, hws⟩ : ∃ ws, ws = wd ++ [32] := ⟨_, rfl⟩
  rw [← hws] at hadd hpre hlw
  have hB := Lib.hid (show behindL wd l = if Lib.hasPrefix l ws = true then some (l.drop n) else none by rw [behindL, ← hws, hn])
  have Hlw := Lib.hid hlw
  clear hn hws hlw
  by_cases hlen : l.length < n
  · have e1 : decide ((l.length : Int) < (n : Int)) = true := decide_eq_true (by omega)
    have hR := Lib.hid (show behindL wd l = none by rw [hB.out, if_neg]; rw [← hpre.out, Hlw.out, decide_eq_false (by omega)]; simp)
    go_enter Tryz.func82, Tryz.ntmps82
    go_wp2_with fail
    go_ret2
    rw [hR.out]
    exact ⟨rfl, rfl⟩
  · have e1 : decide ((l.length : Int) < (n : Int)) = false := decide_eq_false (by omega)
    have hx := bs_extract l 0 n
    rw [List.drop_zero] at hx
    have hx2 := bs_extract l n l.length
    rw [List.take_length] at hx2
    have t1 := bs_toList (l.take n)
    have t2 := bs_toList ws
    by_cases hq : l.take n = ws
    · have hR := Lib.hid (show behindL wd l = some (l.drop n) by rw [hB.out, if_pos]; rw [← hpre.out, Hlw.out, decide_eq_true (by omega), hq]; simp)
      have e2 : (l.take n == ws) = true := by rw [beq_iff_eq]; exact hq
      have hle : n ≤ l.length := by omega
      clear hq
      go_enter Tryz.func82, Tryz.ntmps82
      go_wp2_with fail
      go_ret2
      rw [hR.out]
      exact ⟨rfl, rfl⟩
    · have hR := Lib.hid (show behindL wd l = none by rw [hB.out, if_neg]; rw [← hpre.out, Hlw.out, beq_eq_false_iff_ne.2 hq]; simp)
      have e2 : (l.take n == ws) = false := beq_eq_false_iff_ne.2 hq
      have hle : n ≤ l.length := by omega
      clear hq
      go_enter Tryz.func82, Tryz.ntmps82
      go_wp2_with fail
      go_ret2
      rw [hR.out]
      exact ⟨rfl, rfl⟩
end Go.Proofs.YticnmogeknlmeaaGreatDoor.B
namespace Go.Proofs.YticnmogeknlmeaaGreatDoor.B
open Go.RowKit Go.Proofs.YticnmogeknlmeaaGreatDoorW.PrintWords Go.Proofs.YticnmogeknlmeaaGreatDoor.Later
set_option maxRecDepth 100000
set_option maxHeartbeats 1600000
/-- The number behind a word, if it is no more than the limit. -/
def numL2 (wd l : List UInt8) (lim : Nat) : Option Nat := ((behindL wd l).bind countL).filter (fun n => decide (n ≤ lim))
theorem cut_any (l ws : List UInt8) (w : World) : Calls Tryz.prog 68 #[.string (bs l), .string (bs ws)] w fun e w' => e = .returned (.tuple #[.string (bs (if Lib.hasPrefix l ws = true then l.drop ws.length else l)), .bool (Lib.hasPrefix l ws)]) ∧ w' = w :=
  (Tryz.strings_CutPrefix (bs l) (bs ws) w).mono fun e w' ⟨h1, h2⟩ => ⟨by rw [h1, bs_list, bs_list]; rfl, h2⟩
def NumOut (o : Option Nat) (e : Ending) : Prop := ∃ (n : Nat) (ok : Bool), e = .returned (.tuple #[.int .i64 (n : Int), .bool ok]) ∧ n < 2147483648 ∧ o = if ok = true then some n else none
theorem countP_lt : ∀ (l : List UInt8) (b : Bool) (n m : Nat), n < 2147483648 → countP b n l = some m → m < 2147483648
  | [], b, n, m, h, h2 => by simp [countP] at h2; omega
  | c :: l, b, n, m, h, h2 => by
    rw [countP] at h2
    split at h2
    · simp at h2
    · split at h2
      · simp at h2
      · exact countP_lt l false _ m (by omega) h2
theorem countL_lt (l : List UInt8) (m : Nat) (h : countL l = some m) : m < 2147483648 := by
  unfold countL at h
  split at h
  · simp at h
  · exact countP_lt l true 0 m (by decide) h
theorem number_any (l wd : List UInt8) (lim : Nat) (hl : l.length < 4294967281) (hw : wd.length < 4294967281) (w : World) : Calls Tryz.prog 67 #[.string (bs l), .string (bs wd), .int .i64 (lim : Int)] w fun e w' => NumOut (numL2 wd l lim) e ∧ Below w.heap.size w w' := by
  have hadd := bs_add wd
  have hn2 := Lib.hid (show numL2 wd l lim = ((behindL wd l).bind countL).filter (fun n => decide (n ≤ lim)) from rfl)
  have hb2 := Lib.hid (show behindL wd l = if Lib.hasPrefix l (wd ++ [32]) = true then some (l.drop (wd ++ [32]).length) else none by rw [behindL]; simp)
  obtain ⟨ws, hws⟩ : ∃ ws, ws = wd ++ [32] := ⟨_, rfl⟩
  rw [← hws] at hadd hb2
  have hszw : (bs wd).size = wd.length := bs_size wd
  clear hws
  have hc := fun w => cut_any l ws w
  have Hc := Lib.hid hc
  clear hc
  by_cases hp : Lib.hasPrefix l ws = true
  · rw [if_pos hp] at hb2
    obtain ⟨r, hr⟩ : ∃ r, r = l.drop ws.length := ⟨_, rfl⟩
    have Hc2 := Lib.hid (show ∀ w, Calls Tryz.prog 68 #[.string (bs l), .string (bs ws)] w fun e w' => e = .returned (.tuple #[.string (bs r), .bool true]) ∧ w' = w from fun w => (Hc.out w).mono fun e w' ⟨h1, h2⟩ => ⟨by rw [h1, hp, if_pos rfl, hr], h2⟩)
    have hrl : r.length < 4294967281 := by rw [hr]; simp; omega
    rw [← hr] at hb2
    clear hr
    have Hct := Lib.hid (fun w => count_any r hrl w)
    have Hf := Lib.hid (show numL2 wd l lim = (countL r).filter (fun n => decide (n ≤ lim)) by rw [hn2.out, hb2.out]; rfl)
    clear hp hrl hl
    cases ho : countL r with
    | none =>
      have hf := Lib.hid (show numL2 wd l lim = none by rw [Hf.out, ho]; rfl)
      have Hct2 := Lib.hid (fun w => (show Calls Tryz.prog 86 #[.string (bs r)] w fun e w' => e = .returned (.tuple #[.int .i64 0, .bool false]) ∧ Below w.heap.size w w' from by have := Hct.out w; rw [ho] at this; exact this))
      clear ho
      go_enter Tryz.func67, Tryz.ntmps67
      go_wp2_with (first
        | (go_at_call 68; refine (Hc2.out _).mono ?_; rintro e1 w1 ⟨rfl, rfl⟩)
        | (go_at_call 86; refine (Hct2.out _).mono ?_; rintro e2 w2 ⟨rfl, hb⟩; have HB := Lib.hid hb; clear hb))
      go_ret2
      exact ⟨⟨0, false, rfl, by decide, by rw [hf.out]; rfl⟩, HB.out⟩
    | some n =>
      have hnl := countL_lt r n ho
      have Hct2 := Lib.hid (fun w => (show Calls Tryz.prog 86 #[.string (bs r)] w fun e w' => e = .returned (.tuple #[.int .i64 (n : Int), .bool true]) ∧ Below w.heap.size w w' from by have := Hct.out w; rw [ho] at this; exact this))
      have hf := Lib.hid (show numL2 wd l lim = if n ≤ lim then some n else none by rw [Hf.out, ho]; simp [Option.filter])
      clear ho
      by_cases hle : n ≤ lim
      · have e1 : decide ((n : Int) ≤ (lim : Int)) = true := decide_eq_true (by omega)
        go_enter Tryz.func67, Tryz.ntmps67
        go_wp2_with (first
          | (go_at_call 68; refine (Hc2.out _).mono ?_; rintro e1 w1 ⟨rfl, rfl⟩)
          | (go_at_call 86; refine (Hct2.out _).mono ?_; rintro e2 w2 ⟨rfl, hb⟩; have HB := Lib.hid hb; clear hb))
        go_ret2
        exact ⟨⟨n, true, rfl, hnl, by rw [hf.out, if_pos hle]; rfl⟩, HB.out⟩
      · have e1 : decide ((n : Int) ≤ (lim : Int)) = false := decide_eq_false (by omega)
        go_enter Tryz.func67, Tryz.ntmps67
        go_wp2_with (first
          | (go_at_call 68; refine (Hc2.out _).mono ?_; rintro e1 w1 ⟨rfl, rfl⟩)
          | (go_at_call 86; refine (Hct2.out _).mono ?_; rintro e2 w2 ⟨rfl, hb⟩; have HB := Lib.hid hb; clear hb))
        go_ret2
        exact ⟨⟨n, false, rfl, hnl, by rw [hf.out, if_neg hle]; rfl⟩, HB.out⟩
  · rw [if_neg hp] at hb2
    have hpf : Lib.hasPrefix l ws = false := by simpa using hp
    have Hc2 := Lib.hid (show ∀ w, Calls Tryz.prog 68 #[.string (bs l), .string (bs ws)] w fun e w' => e = .returned (.tuple #[.string (bs l), .bool false]) ∧ w' = w from fun w => (Hc.out w).mono fun e w' ⟨h1, h2⟩ => ⟨by rw [h1, hpf, if_neg (by decide)], h2⟩)
    have Hct := Lib.hid (fun w => count_any l hl w)
    have Hf := Lib.hid (show numL2 wd l lim = none by rw [hn2.out, hb2.out]; rfl)
    clear hp hpf hl
    cases ho : countL l with
    | none =>
      have Hct2 := Lib.hid (fun w => (show Calls Tryz.prog 86 #[.string (bs l)] w fun e w' => e = .returned (.tuple #[.int .i64 0, .bool false]) ∧ Below w.heap.size w w' from by have := Hct.out w; rw [ho] at this; exact this))
      clear ho
      go_enter Tryz.func67, Tryz.ntmps67
      go_wp2_with (first
        | (go_at_call 68; refine (Hc2.out _).mono ?_; rintro e1 w1 ⟨rfl, rfl⟩)
        | (go_at_call 86; refine (Hct2.out _).mono ?_; rintro e2 w2 ⟨rfl, hb⟩; have HB := Lib.hid hb; clear hb))
      go_ret2
      exact ⟨⟨0, false, rfl, by decide, by rw [Hf.out]; rfl⟩, HB.out⟩
    | some n =>
      have hnl := countL_lt l n ho
      have Hct2 := Lib.hid (fun w => (show Calls Tryz.prog 86 #[.string (bs l)] w fun e w' => e = .returned (.tuple #[.int .i64 (n : Int), .bool true]) ∧ Below w.heap.size w w' from by have := Hct.out w; rw [ho] at this; exact this))
      clear ho
      go_enter Tryz.func67, Tryz.ntmps67
      go_wp2_with (first
        | (go_at_call 68; refine (Hc2.out _).mono ?_; rintro e1 w1 ⟨rfl, rfl⟩)
        | (go_at_call 86; refine (Hct2.out _).mono ?_; rintro e2 w2 ⟨rfl, hb⟩; have HB := Lib.hid hb; clear hb))
      go_ret2
      exact ⟨⟨n, false, rfl, hnl, by rw [Hf.out]; rfl⟩, HB.out⟩
end Go.Proofs.YticnmogeknlmeaaGreatDoor.B
