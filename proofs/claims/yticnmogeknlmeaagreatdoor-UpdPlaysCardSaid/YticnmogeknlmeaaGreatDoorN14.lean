/- Helper: a number's digits, walked. a manifest checked and made, walked. bytes by digits to the base 16, walked. the document's text of a manifest, walked. a manifest's text read back, plainly. No condition. -/
import Derived.Test.YticnmogeknlmeaaGreatDoorN13
import Derived.Test.YticnmogeknlmeaaGreatDoorN06
import Derived.Test.YticnmogeknlmeaaGreatDoorN02
import Derived.Test.YticnmogeknlmeaaGreatDoorN11
import Derived.Test.YticnmogeknlmeaaGreatDoorN09
namespace Go.Proofs.YticnmogeknlmeaaGreatDoor.B
open Go.RowKit Go.Proofs.YticnmogeknlmeaaGreatDoorW.PrintWords Go.Proofs.YticnmogeknlmeaaGreatDoor.Later
set_option maxRecDepth 100000
set_option maxHeartbeats 1600000
def digL (n : Nat) : List UInt8 := if h : n < 10 then [UInt8.ofNat (48 + n)] else digL (n / 10) ++ [UInt8.ofNat (48 + n % 10)]
termination_by n
decreasing_by omega
theorem digL_small {n : Nat} (h : n < 10) : digL n = [UInt8.ofNat (48 + n)] := by rw [digL, dif_pos h]
theorem digL_big {n : Nat} (h : ¬ n < 10) : digL n = digL (n / 10) ++ [UInt8.ofNat (48 + n % 10)] := by rw [digL, dif_neg h]
theorem digL_len (n : Nat) : (digL n).length ≤ n + 1 := by
  induction n using Nat.strongRecOn with
  | ind n ih =>
    by_cases h : n < 10
    · rw [digL_small h]; simp
    · rw [digL_big h, List.length_append]
      have := ih (n / 10) (by omega)
      simp only [List.length_cons, List.length_nil]
      omega
/-- What holds of the values of the operations of the great arm. -/
def digR (w : World) (q : Nat) (y : UInt8) (n : Nat) (i : Nat) (v : Value) (W : World) : Prop :=
  if i = 0 ∨ i = 3 then v = .int .i64 (n : Int)
  else if i = 1 then v = .int .i64 (q : Int)
  else if i = 2 then v = .string (bs (digL q))
  else if i = 4 then v = .int .i64 ((n : Int) % 10)
  else if i = 5 then v = .int .i64 (y.toNat : Int)
  else if i = 6 then v = .int .u8 (y.toNat : Int)
  else if i = 7 then Row W w.heap.size v [y]
  else if i = 8 then v = .string (bs [y])
  else v = .string (bs (digL n))
theorem len11 {vs : List Value} (h : vs.length = 11) : ∃ a b c d e f g i j k l, vs = [a, b, c, d, e, f, g, i, j, k, l] := by
  match vs, h with
  | [a, b, c, d, e, f, g, i, j, k, l], _ => exact ⟨a, b, c, d, e, f, g, i, j, k, l, rfl⟩
theorem digits_any (n : Nat) : n < 2147483648 → ∀ w : World, Calls Tryz.prog 73 #[.int .i64 (n : Int)] w fun e w' => e = .returned (.string (bs (digL n))) ∧ Below w.heap.size w w' := by
  induction n using Nat.strongRecOn with
  | ind n ih =>
    intro hn w
    by_cases h : n < 10
    · have hd := Lib.hid (digL_small h)
      have e1 : decide ((n : Int) < 10) = true := decide_eq_true (by omega)
      obtain ⟨y, hy⟩ : ∃ y, y = UInt8.ofNat (48 + n) := ⟨_, rfl⟩
      have hyn : y.toNat = 48 + n := by rw [hy]; simp; omega
      rw [← hy] at hd
      have hv : (48 + (n : Int)) = (y.toNat : Int) := by omega
      have hm : (y.toNat : Int) % 256 = (y.toNat : Int) := by have := y.toNat_lt; omega
      have hc := str1 w y
      simp only [encB] at hc
      clear hy hyn ih
      go_enter Tryz.func73, Tryz.ntmps73
      go_wp2_with fail
      go_ret
      rw [hd.out]
      exact ⟨rfl, (Below.refl _ _).alloc (Nat.le_refl _) _⟩
    · have hd := Lib.hid (digL_big h)
      have e1 : decide ((n : Int) < 10) = false := decide_eq_false (by omega)
      obtain ⟨y, hy⟩ : ∃ y, y = UInt8.ofNat (48 + n % 10) := ⟨_, rfl⟩
      have hyn : y.toNat = 48 + n % 10 := by rw [hy]; simp; omega
      rw [← hy] at hd
      obtain ⟨q, hq⟩ : ∃ q, q = n / 10 := ⟨_, rfl⟩
      have hq2 : (n : Int) / 10 = (q : Int) := by omega
      rw [← hq] at hd
      have Hih := Lib.hid (fun w => ih q (by omega) (by omega) w)
      have hv : (48 + (n : Int) % 10) = (y.toNat : Int) := by omega
      have hm : (y.toNat : Int) % 256 = (y.toNat : Int) := by have := y.toNat_lt; omega
      have hql : (digL q).length ≤ 2147483648 := by have := digL_len q; omega
      clear hy hyn ih hq
      go_enter Tryz.func73, Tryz.ntmps73
      go_wp2_with fail
      refine wp_region_rel (l := _) (digR w q y n) (by kernel_rfl) (by kernel_rfl) (by decide) ?_ ?_ ?_
      · intro i v w1 w2 hb h
        by_cases h7 : i = 7
        · subst h7
          exact pw_own_below h hb
        · have e : digR w q y n i v w2 = digR w q y n i v w1 := by
            unfold digR
            simp only [if_neg h7]
          rw [e]
          exact h
      · intro i o vs w' hi hlen hB hdep A hA
        obtain ⟨v0, v1, v2, v3, v4, v5, v6, v7, v8, v9, v10, rfl⟩ := len11 hlen
        have hi11 : i < 11 := by
          have := (List.getElem?_eq_some_iff.1 hi).1
          exact this
        simp only [putAll, Act.put, List.setIfInBounds_toArray, List.set_cons_zero, List.set_cons_succ] at hA
        rcases (show i = 0 ∨ i = 1 ∨ i = 2 ∨ i = 3 ∨ i = 4 ∨ i = 5 ∨ i = 6 ∨ i = 7 ∨ i = 8 ∨ i = 9 ∨ i = 10 by omega) with rfl | rfl | rfl | rfl | rfl | rfl | rfl | rfl | rfl | rfl | rfl
        · obtain rfl := Option.some.inj hi
          subst hA
          refine wpOp_one rfl rfl (fun K hK => ?_)
          go_wp2_with fail
          exact hK.out _ _ ⟨_, rfl, rfl, Below.refl _ _⟩
        · obtain rfl := Option.some.inj hi
          obtain rfl : v0 = .int .i64 (n : Int) := hdep ⟨0, .data⟩ (by simp) rfl v0 rfl
          subst hA
          refine wpOp_one rfl rfl (fun K hK => ?_)
          go_wp2_with fail
          exact hK.out _ _ ⟨_, rfl, rfl, Below.refl _ _⟩
        · obtain rfl := Option.some.inj hi
          obtain rfl : v1 = .int .i64 (q : Int) := hdep ⟨1, .data⟩ (by simp) rfl v1 rfl
          subst hA
          refine wpOp_one rfl rfl (fun K hK => ?_)
          go_wp2_with fail
          refine (Hih.out _).mono ?_
          rintro e w1 ⟨rfl, hb⟩
          go_wp2_with fail
          exact hK.out _ _ ⟨_, rfl, rfl, hb⟩
        · obtain rfl := Option.some.inj hi
          subst hA
          refine wpOp_one rfl rfl (fun K hK => ?_)
          go_wp2_with fail
          exact hK.out _ _ ⟨_, rfl, rfl, Below.refl _ _⟩
        · obtain rfl := Option.some.inj hi
          obtain rfl : v3 = .int .i64 (n : Int) := hdep ⟨3, .data⟩ (by simp) rfl v3 rfl
          subst hA
          refine wpOp_one rfl rfl (fun K hK => ?_)
          go_wp2_with fail
          exact hK.out _ _ ⟨_, rfl, rfl, Below.refl _ _⟩
        · obtain rfl := Option.some.inj hi
          obtain rfl : v4 = .int .i64 ((n : Int) % 10) := hdep ⟨4, .data⟩ (by simp) rfl v4 rfl
          subst hA
          refine wpOp_one rfl rfl (fun K hK => ?_)
          go_wp2_with fail
          exact hK.out _ _ ⟨_, rfl, rfl, Below.refl _ _⟩
        · obtain rfl := Option.some.inj hi
          obtain rfl : v5 = .int .i64 (y.toNat : Int) := hdep ⟨5, .data⟩ (by simp) rfl v5 rfl
          subst hA
          refine wpOp_one rfl rfl (fun K hK => ?_)
          go_wp2_with fail
          exact hK.out _ _ ⟨_, rfl, rfl, Below.refl _ _⟩
        · obtain rfl := Option.some.inj hi
          obtain rfl : v6 = .int .u8 (y.toNat : Int) := hdep ⟨6, .data⟩ (by simp) rfl v6 rfl
          subst hA
          refine wpOp_one rfl rfl (fun K hK => ?_)
          go_wp2_with fail
          exact hK.out _ _ ⟨_, rfl, Row.lit w' w.heap.size [y] hB.size (by simp), (Below.refl _ _).alloc (Nat.le_refl _) _⟩
        · obtain rfl := Option.some.inj hi
          have h7 : Row w' w.heap.size v7 [y] := hdep ⟨7, .data⟩ (by simp) rfl v7 rfl
          obtain ⟨g, cap, rfl, _, _⟩ := h7.form (by simp)
          have hst : (convert 60 9 (.slice (some ⟨g, 0, none⟩) 1 cap)).run Tryz.prog w' = .ok (.string (bs [y])) w' := h7.string 60 (by kernel_rfl)
          clear h7
          subst hA
          refine wpOp_one rfl rfl (fun K hK => ?_)
          go_wp2_with fail
          exact hK.out _ _ ⟨_, rfl, rfl, Below.refl _ _⟩
        · obtain rfl := Option.some.inj hi
          obtain rfl : v2 = .string (bs (digL q)) := hdep ⟨2, .data⟩ (by simp) rfl v2 rfl
          obtain rfl : v8 = .string (bs [y]) := hdep ⟨8, .data⟩ (by simp) rfl v8 rfl
          have hs1 := bs_size (digL q)
          have hs2 : (bs [y]).size = 1 := bs_size [y]
          have happ := bs_app (digL q) [y]
          subst hA
          refine wpOp_one rfl rfl (fun K hK => ?_)
          go_wp2_with fail
          exact hK.out _ _ ⟨_, rfl, by show Value.string _ = .string (bs (digL n)); rw [hd.out], Below.refl _ _⟩
        · obtain rfl := Option.some.inj hi
          obtain rfl : v9 = .string (bs (digL n)) := hdep ⟨9, .data⟩ (by simp) rfl v9 rfl
          subst hA
          refine wpOp_one rfl rfl (fun K hK => ?_)
          go_wp2_with fail
          exact hK.out _ _ ⟨_, rfl, rfl, Below.refl _ _⟩
      · intro vs w' hlen hB hR
        obtain ⟨v0, v1, v2, v3, v4, v5, v6, v7, v8, v9, v10, rfl⟩ := len11 hlen
        obtain rfl : v10 = .string (bs (digL n)) := hR 10 v10 rfl
        clear hR
        simp only [putAll, Act.put, List.setIfInBounds_toArray, List.set_cons_zero, List.set_cons_succ]
        go_wp2_with fail
        go_ret
        exact ⟨rfl, hB⟩
end Go.Proofs.YticnmogeknlmeaaGreatDoor.B
namespace Go.Proofs.YticnmogeknlmeaaGreatDoor.B
open Go.RowKit Go.Proofs.YticnmogeknlmeaaGreatDoorW.PrintWords
set_option maxRecDepth 100000
set_option maxHeartbeats 1600000
/-- Whether three values are a manifest's. -/
def manOk (v n : Int) (d : List UInt8) : Bool := decide (1 ≤ v) && decide (v ≤ 1073741824) && decide (0 ≤ n) && decide (n ≤ 1048576) && ((d.length : Int) == 32)
theorem mcheck_any (v n : Int) (d : List UInt8) (w : World) : Calls Tryz.prog 53 #[.agg #[.int .i64 v, .int .i64 n, .string (bs d)]] w fun e w' => e = .returned (.bool (manOk v n d)) ∧ Below w.heap.size w w' := by
  have hsz := bs_size d
  have hB := Lib.hid ((Below.refl w.heap.size w).alloc (Nat.le_refl _) (.cells #[.int .i64 v, .int .i64 n, .string (bs d)] 34))
  have hm := Lib.hid (show manOk v n d = (decide (1 ≤ v) && decide (v ≤ 1073741824) && decide (0 ≤ n) && decide (n ≤ 1048576) && ((d.length : Int) == 32)) from rfl)
  cases h1 : decide (1 ≤ v) with
  | false =>
    rw [h1] at hm
    go_enter Tryz.func53, Tryz.ntmps53
    go_wp2_with fail
    go_ret
    rw [hm.out]
    exact ⟨rfl, hB.out⟩
  | true =>
    cases h2 : decide (v ≤ 1073741824) with
    | false =>
      rw [h1, h2] at hm
      go_enter Tryz.func53, Tryz.ntmps53
      go_wp2_with fail
      go_ret
      rw [hm.out]
      exact ⟨rfl, hB.out⟩
    | true =>
      cases h3 : decide (0 ≤ n) with
      | false =>
        rw [h1, h2, h3] at hm
        go_enter Tryz.func53, Tryz.ntmps53
        go_wp2_with fail
        go_ret
        rw [hm.out]
        exact ⟨rfl, hB.out⟩
      | true =>
        cases h4 : decide (n ≤ 1048576) with
        | false =>
          rw [h1, h2, h3, h4] at hm
          go_enter Tryz.func53, Tryz.ntmps53
          go_wp2_with fail
          go_ret
          rw [hm.out]
          exact ⟨rfl, hB.out⟩
        | true =>
          rw [h1, h2, h3, h4] at hm
          go_enter Tryz.func53, Tryz.ntmps53
          go_wp2_with fail
          go_ret
          rw [hm.out]
          exact ⟨rfl, hB.out⟩
def ManV (v n : Int) (d : List UInt8) : Value := .agg #[.int .i64 v, .int .i64 n, .string (bs d)]
theorem of_any (v : Int) (l : List UInt8) (hl : l.length < 4294967281) (w : World) : Calls Tryz.prog 52 #[.int .i64 v, .string (bs l)] w fun e w' => e = .returned (ManV v (l.length : Int) (shaL l)) ∧ Below w.heap.size w w' := by
  have hsz := bs_size l
  have Hs := Lib.hid (fun w => sum_any l (by omega) w)
  go_enter Tryz.func52, Tryz.ntmps52
  go_wp2_with (first
    | (go_at_call 75; refine (Hs.out _).mono ?_; rintro e1 w1 ⟨rfl, hb⟩; have HR := Lib.hid (show Blk w1 w.heap.size #[.int .i64 0, .int .i64 0, .string ByteArray.empty] 34 from (Blk.new w _ 34).below hb); have HB := Lib.hid (((Below.refl w.heap.size w).alloc (Nat.le_refl _) _).trans (hb.mono (by simp))); have r0 : w1.cell? ⟨w.heap.size, 0, none⟩ = some (.int .i64 0) := Blk.cell HR.out 0; have r1 : w1.cell? ⟨w.heap.size, 1, none⟩ = some (.int .i64 0) := Blk.cell HR.out 1; have r2 : w1.cell? ⟨w.heap.size, 2, none⟩ = some (.string ByteArray.empty) := Blk.cell HR.out 2; have rf := fun i => Blk.free HR.out i; clear hb))
  have h3 := Blk.set (Blk.set (Blk.set HR.out 0 (.int .i64 v)) 1 (.int .i64 (l.length : Int))) 2 (.string (bs (shaL l)))
  refine bodyPost_ret (results_cell_row (p := 4) (ty := 34) (by kernel_rfl) _ _ w.heap.size 34 #[.int .i64 v, .int .i64 (l.length : Int), .string (bs (shaL l))] (0, 0) _ rfl h3 Tryz.underlying34 rfl (by kernel_rfl)) rfl ?_
  exact ⟨rfl, below_put3 HB.out (Nat.le_refl _) _ _ _⟩
end Go.Proofs.YticnmogeknlmeaaGreatDoor.B
namespace Go.Proofs.YticnmogeknlmeaaGreatDoor.B
open Go.RowKit Go.Proofs.YticnmogeknlmeaaGreatDoorW.PrintWords Go.Proofs.YticnmogeknlmeaaGreatDoor.Later
set_option maxRecDepth 100000
set_option maxHeartbeats 1600000
def hexC (n : Nat) : UInt8 := if n < 10 then UInt8.ofNat (48 + n) else UInt8.ofNat (87 + n)
def hexL (l : List UInt8) : List UInt8 := l.flatMap fun b => [hexC (b.toNat / 16), hexC (b.toNat % 16)]
theorem hexL_len (l : List UInt8) : (hexL l).length = 2 * l.length := by
  induction l with
  | nil => rfl
  | cons b l ih => simp only [hexL, List.flatMap_cons, List.length_append, List.length_cons] at *; simp at *; omega
theorem hexL_snoc (l : List UInt8) (b : UInt8) : hexL (l ++ [b]) = hexL l ++ [hexC (b.toNat / 16), hexC (b.toNat % 16)] := by simp [hexL]
theorem hexC_small {c : Nat} (h : c < 10) : (hexC c).toNat = 48 + c := by rw [hexC, if_pos h]; simp; omega
theorem hexC_big {c : Nat} (h : ¬ c < 10) (h' : c < 16) : (hexC c).toNat = 87 + c := by rw [hexC, if_neg h]; simp; omega
theorem hex_any (l : List UInt8) (hl : l.length < 1000000) (w : World) : Calls Tryz.prog 74 #[.string (bs l)] w fun e w' => e = .returned (.string (bs (hexL l))) ∧ Below w.heap.size w w' := by
  have hsz := bs_size l
  go_enter Tryz.func74, Tryz.ntmps74
  go_wp2_with fail
  go_loopg [3, 4] l.length (fun g x y wx => ∃ i : Nat, i + g = l.length ∧ y = .int .i64 (i : Int) ∧ x = .string (bs (hexL (l.take i))) ∧ Below w.heap.size w wx)
  case atStart => exact ⟨0, by omega, rfl, rfl, Below.refl _ _⟩
  case round =>
    obtain ⟨i, hi, rfl, rfl, hB⟩ := hrel
    have HB := Lib.hid hB
    clear hB
    cases gk with
    | zero =>
      obtain rfl : i = l.length := by omega
      have hd : decide ((l.length : Int) < (l.length : Int)) = false := decide_eq_false (by omega)
      rw [List.take_length]
      go_wp2_with fail
      go_ret
      exact ⟨rfl, HB.out⟩
    | succ g =>
      have hlt : i < l.length := by omega
      have hd : decide ((i : Int) < (l.length : Int)) = true := decide_eq_true (by omega)
      have HS := Lib.hid (show hexL (l.take (i + 1)) = hexL (l.take i) ++ [hexC (l[i].toNat / 16), hexC (l[i].toNat % 16)] by rw [List.take_succ_eq_append_getElem hlt, hexL_snoc])
      have hxi := fun W => index9 l i hlt W
      have HL := Lib.hid (show (hexL (l.take i)).length < 2000000 by rw [hexL_len, List.length_take]; omega)
      obtain ⟨b, hb⟩ : ∃ b, b = l[i] := ⟨_, rfl⟩
      rw [← hb] at hxi HS
      have hb256 := b.toNat_lt
      obtain ⟨acc, hacc⟩ : ∃ acc, acc = hexL (l.take i) := ⟨_, rfl⟩
      rw [← hacc] at HS HL ⊢
      obtain ⟨c0, hc0⟩ : ∃ c, c = b.toNat / 16 := ⟨_, rfl⟩
      obtain ⟨c1, hc1⟩ : ∃ c, c = b.toNat % 16 := ⟨_, rfl⟩
      have e0 : (b.toNat : Int) / 16 = (c0 : Int) := by omega
      have e1 : (b.toNat : Int) % 16 = (c1 : Int) := by omega
      have HC0 := Lib.hid (show c0 < 16 by omega)
      have HC1 := Lib.hid (show c1 < 16 by omega)
      rw [← hc0, ← hc1] at HS
      clear hb hacc hc0 hc1
      go_wp2_with fail
      go_region
      have hk : Blk (wr.alloc (.cells #[.int .u8 (c0 : Int), .int .u8 (c1 : Int)] 5)).drew wr.heap.size #[.int .u8 (c0 : Int), .int .u8 (c1 : Int)] 5 := Blk.new wr _ 5
      have hB2 : Below w.heap.size w (wr.alloc (.cells #[.int .u8 (c0 : Int), .int .u8 (c1 : Int)] 5)).drew := below_drewN (HB.out.alloc HB.out.size _) 1
      have HG := Lib.hid HB.out.size
      obtain ⟨gb, hgb⟩ : ∃ gb, gb = wr.heap.size := ⟨_, rfl⟩
      rw [← hgb] at hk HG ⊢
      revert hk hB2
      generalize (wr.alloc (.cells #[.int .u8 (c0 : Int), .int .u8 (c1 : Int)] 5)).drew = w2
      intro hB2 hk
      have HK := Lib.hid hk
      have HB2 := Lib.hid hB2
      clear hk hB2 hgb hxi hd
      go_wp2_with fail
      go_loopg [3, 23] 2 (fun g x y wx => ∃ (j : Nat) (o : List UInt8), j + g = 2 ∧ y = .int .i64 (j : Int) ∧ x = .string (bs (acc ++ o)) ∧ o = [hexC c0, hexC c1].take j ∧ Blk wx gb #[.int .u8 (c0 : Int), .int .u8 (c1 : Int)] 5 ∧ Below w.heap.size w wx)
      case atStart => exact ⟨0, [], by omega, rfl, by rw [List.append_nil], rfl, HK.out, HB2.out⟩
      case round =>
        obtain ⟨j, o, hj, rfl, rfl, ho, hk, hB⟩ := hrel
        have HK := Lib.hid hk
        have HB := Lib.hid hB
        have HO := Lib.hid ho
        clear hk hB ho
        cases gk with
        | zero =>
          obtain rfl : j = 2 := by omega
          have ho : o = [hexC c0, hexC c1] := HO.out
          subst ho
          rw [← HS.out]
          go_wp2_with fail
          go_roundg g
          case measure => omega
          case rel => exact ⟨i + 1, by omega, by go_num, rfl, HB.out⟩
        | succ g2 =>
          have hcj : ∃ c : Nat, wr.cell? ⟨gb, j, none⟩ = some (.int .u8 (c : Int)) ∧ c < 16 ∧ [hexC c0, hexC c1].take (j + 1) = o ++ [hexC c] := by
            rcases (show j = 0 ∨ j = 1 by omega) with rfl | rfl
            · exact ⟨c0, HK.out.cell 0, HC0.out, by rw [HO.out]; rfl⟩
            · exact ⟨c1, HK.out.cell 1, HC1.out, by rw [HO.out]; rfl⟩
          obtain ⟨c, hc, hc16, HT⟩ := hcj
          have HT := Lib.hid HT
          have hj2 : decide ((j : Int) < 2) = true := decide_eq_true (by omega)
          have ha : (acc ++ o).length < 2000002 := by
            rw [HO.out, List.length_append, List.length_take]
            have := HL.out
            have h2 : min j [hexC c0, hexC c1].length ≤ 2 := Nat.min_le_right _ _
            omega
          have HA := Lib.hid ha
          clear ha
          have HE := Lib.hid (show acc ++ o ++ [hexC c] = acc ++ [hexC c0, hexC c1].take (j + 1) by rw [HT.out, List.append_assoc])
          obtain ⟨s, hs⟩ : ∃ s, s = acc ++ o := ⟨_, rfl⟩
          rw [← hs] at HA HE ⊢
          clear hs
          obtain ⟨y, hy⟩ : ∃ y, y = hexC c := ⟨_, rfl⟩
          have happ := bs_app s [y]
          have hs1 := bs_size s
          have hs2 : (bs [y]).size = 1 := bs_size [y]
          have hsl : s.length ≤ 2147483648 := by have := HA.out; omega
          have hcv := str1 wr y
          simp only [encB] at hcv
          have hy256 := y.toNat_lt
          by_cases h10 : c < 10
          · have hv : (48 : Int) + (c : Int) = (y.toNat : Int) := by rw [hy, hexC_small h10]; omega
            have hm : (y.toNat : Int) % 256 = (y.toNat : Int) := by omega
            have hd : decide ((c : Int) < 10) = true := decide_eq_true (by omega)
            rw [← hy] at HE HT
            clear hy
            go_wp2_with fail
            go_roundg g2
            case measure => omega
            case rel => exact ⟨j + 1, _, by omega, by go_num, by rw [HE.out], rfl, HK.out.below ((Below.refl _ _).alloc (Nat.le_refl _) _), HB.out.alloc HB.out.size _⟩
          · have hv : (97 : Int) + (c : Int) - 10 = (y.toNat : Int) := by rw [hy, hexC_big h10 hc16]; omega
            have hm : (y.toNat : Int) % 256 = (y.toNat : Int) := by omega
            have hd : decide ((c : Int) < 10) = false := decide_eq_false (by omega)
            rw [← hy] at HE HT
            clear hy
            go_wp2_with fail
            go_roundg g2
            case measure => omega
            case rel => exact ⟨j + 1, _, by omega, by go_num, by rw [HE.out], rfl, HK.out.below ((Below.refl _ _).alloc (Nat.le_refl _) _), HB.out.alloc HB.out.size _⟩
end Go.Proofs.YticnmogeknlmeaaGreatDoor.B
namespace Go.Proofs.YticnmogeknlmeaaGreatDoor.B
open Go.RowKit Go.Proofs.YticnmogeknlmeaaGreatDoorW.PrintWords Go.Proofs.YticnmogeknlmeaaGreatDoor.Later
set_option maxRecDepth 100000
set_option maxHeartbeats 1600000
def wA : List UInt8 := [116, 105, 110, 100, 101, 114, 98, 111, 120, 32, 105, 109, 97, 103, 101, 10, 118, 101, 114, 115, 105, 111, 110, 32]
def wB : List UInt8 := [10, 108, 101, 110, 103, 116, 104, 32]
def wC : List UInt8 := [10, 100, 105, 103, 101, 115, 116, 32]
/-- A manifest as lines. -/
def manT (m : Man) : List UInt8 := wA ++ digL m.v ++ wB ++ digL m.n ++ wC ++ hexL m.d ++ [10]
theorem digL_ten : ∀ (k n : Nat), n < 10 ^ (k + 1) → (digL n).length ≤ k + 1
  | 0, n, h => by rw [digL_small (by simpa using h)]; simp
  | k + 1, n, h => by
    by_cases h10 : n < 10
    · rw [digL_small h10]; simp
    · rw [digL_big h10, List.length_append]
      have := digL_ten k (n / 10) (by rw [Nat.pow_succ] at h; omega)
      simp only [List.length_cons, List.length_nil]
      omega
theorem rtext_any (m : Man) (hv : m.v < 2147483648) (hn : m.n < 2147483648) (hd : m.d.length ≤ 10000) (w : World) : Calls Tryz.prog 44 #[.agg m.cells] w fun e w' => e = .returned (.string (bs (manT m))) ∧ Below w.heap.size w w' := by
  have hm := Lib.hid (show manT m = wA ++ digL m.v ++ wB ++ digL m.n ++ wC ++ hexL m.d ++ [10] from rfl)
  have l1 : (digL m.v).length ≤ 10 := digL_ten 9 _ (by omega)
  have l2 : (digL m.n).length ≤ 10 := digL_ten 9 _ (by omega)
  have l3 : (hexL m.d).length ≤ 20000 := by rw [hexL_len]; omega
  have HV := Lib.hid (fun w => digits_any m.v hv w)
  have HN := Lib.hid (fun w => digits_any m.n hn w)
  have HD := Lib.hid (fun w => hex_any m.d (by omega) w)
  obtain ⟨P1, h1⟩ : ∃ P, P = digL m.v := ⟨_, rfl⟩
  obtain ⟨P2, h2⟩ : ∃ P, P = digL m.n := ⟨_, rfl⟩
  obtain ⟨P3, h3⟩ : ∃ P, P = hexL m.d := ⟨_, rfl⟩
  rw [← h1] at hm l1 HV
  rw [← h2] at hm l2 HN
  rw [← h3] at hm l3 HD
  have z1 := bs_size P1
  have z2 := bs_size P2
  have z3 := bs_size P3
  clear h1 h2 h3 hv hn hd
  show Calls Tryz.prog 44 #[.agg #[.int .i64 (m.v : Int), .int .i64 (m.n : Int), .string (bs m.d)]] w _
  go_enter Tryz.func44, Tryz.ntmps44
  go_upto_region 1 with fail
  obtain ⟨w1, hw1⟩ : ∃ w1, w1 = w.alloc (.cells #[.int .i64 (m.v : Int), .int .i64 (m.n : Int), .string (bs m.d)] 34) := ⟨_, rfl⟩
  have hB1 : Below w.heap.size w w1 := by rw [hw1]; exact (Below.refl _ _).alloc (Nat.le_refl _) _
  have hb1 : Blk w1 w.heap.size #[.int .i64 (m.v : Int), .int .i64 (m.n : Int), .string (bs m.d)] 34 := by rw [hw1]; exact Blk.new w _ 34
  rw [← hw1]
  have c0 : w1.cell? ⟨w.heap.size, 0, none⟩ = some (.int .i64 (m.v : Int)) := hb1.cell 0
  have c1 : w1.cell? ⟨w.heap.size, 1, none⟩ = some (.int .i64 (m.n : Int)) := hb1.cell 1
  have c2 : w1.cell? ⟨w.heap.size, 2, none⟩ = some (.string (bs m.d)) := hb1.cell 2
  have HB1 := Lib.hid hB1
  have k0 := fun n => later_cell c0 n
  have k1 := fun n => later_cell c1 n
  have k2 := fun n => later_cell c2 n
  clear hw1 hB1 hb1 c0 c1 c2
  refine wp_region_later (by kernel_rfl) (by kernel_rfl) ?_
  repeat go_big_quiet_step (fail)
  go_big_quiet_step (with_reducible exact calls_later (fun w1 _ => HV.out w1) _)
  repeat go_big_quiet_step (fail)
  go_big_quiet_step (with_reducible exact calls_later (fun w1 _ => HN.out w1) _)
  repeat go_big_quiet_step (fail)
  go_big_quiet_step (with_reducible exact calls_later (fun w1 _ => HD.out w1) _)
  repeat go_big_quiet_step (fail)
  refine wpQuiet_nil ?_
  intro w2 hw2
  have HB2 := Lib.hid (HB1.out.trans ((later_of hw2).mono HB1.out.size))
  clear hw2 k0 k1 k2
  go_wp2_with fail
  go_ret
  refine ⟨?_, HB2.out⟩
  rw [hm.out]
  show Ending.returned (.string (bs wA ++ bs P1 ++ bs wB ++ bs P2 ++ bs wC ++ bs P3 ++ bs [10])) = _
  simp only [bs_app]
/-- A law's text of an image. -/
theorem ltext_any (v : Nat) (l : List UInt8) (hv : v < 2147483648) (hl : l.length < 2147483648) (w : World) : Calls Tryz.prog 15 #[.int .i64 (v : Int), .string (bs l)] w fun e w' => e = .returned (.string (bs (manT ⟨v, l.length, shaL l⟩))) ∧ Below w.heap.size w w' := by
  have hsz := bs_size l
  have hs := Lib.hid (shaL_len l)
  go_enter Tryz.func15, Tryz.ntmps15
  go_wp2_with fail
  refine (refSum_any l (by omega) _).mono ?_
  rintro e w1 ⟨rfl, hB⟩
  have HB := Lib.hid hB
  clear hB
  go_wp2_with fail
  refine (rtext_any ⟨v, l.length, shaL l⟩ hv hl (by rw [hs.out]; decide) _).mono ?_
  rintro e w2 ⟨rfl, hB⟩
  have HB2 := Lib.hid (HB.out.trans (hB.mono HB.out.size))
  clear hB
  go_wp2_with fail
  go_ret
  exact ⟨rfl, HB2.out⟩
theorem few_any (l : List UInt8) (n : Nat) (hn : n ≤ 100) (w : World) : Calls Tryz.prog 8 #[.string (bs l), .int .i64 (n : Int)] w fun e w' => e = .returned (.string (bs (l.take (n * 64)))) ∧ w' = w := by
  have hsz := bs_size l
  by_cases h : n * 64 < l.length
  · have hd : decide ((n : Int) * 64 < (l.length : Int)) = true := decide_eq_true (by omega)
    have hx : (bs l).extract 0 (n * 64) = bs (l.take (n * 64)) := by rw [bs_extract, List.drop_zero]
    go_enter Tryz.func8, Tryz.ntmps8
    go_wp2_with fail
    go_ret
    exact ⟨congrArg (fun x => Ending.returned (Value.string x)) hx, rfl⟩
  · have hd : decide ((n : Int) * 64 < (l.length : Int)) = false := decide_eq_false (by omega)
    rw [List.take_of_length_le (by omega)]
    go_enter Tryz.func8, Tryz.ntmps8
    go_wp2_with fail
    go_ret
    exact ⟨rfl, rfl⟩
end Go.Proofs.YticnmogeknlmeaaGreatDoor.B
namespace Go.Proofs.YticnmogeknlmeaaGreatDoor.B
open Go.RowKit
def Man.Ok (m : Man) : Prop := 1 ≤ m.v ∧ m.v ≤ 1073741824 ∧ m.n ≤ 1048576 ∧ m.d.length = 32
theorem linesL_app : ∀ (a b : List UInt8), (∀ c ∈ a, c ≠ 10) → linesL (a ++ 10 :: b) = a :: linesL b
  | [], b, _ => by rw [List.nil_append, linesL, if_pos rfl]
  | c :: a, b, h => by
    rw [List.cons_append, linesL_cons c _ (h c List.mem_cons_self), linesL_app a b (fun x hx => h x (List.mem_cons_of_mem _ hx))]
    rfl
theorem dig_of (n : Nat) (h : n < 10) : (UInt8.ofNat (48 + n)).toNat = 48 + n := by simp; omega
theorem digL_all (n : Nat) : (digL n).all dig = true := by
  induction n using Nat.strongRecOn with
  | ind n ih =>
    by_cases h : n < 10
    · rw [digL_small h]
      simp only [List.all_cons, List.all_nil, dig, dig_of n h]
      simp; omega
    · rw [digL_big h, List.all_append, ih (n / 10) (by omega)]
      simp only [List.all_cons, List.all_nil, dig, dig_of (n % 10) (by omega)]
      simp; omega
theorem digL_val (n : Nat) : valN 0 (digL n) = n := by
  induction n using Nat.strongRecOn with
  | ind n ih =>
    by_cases h : n < 10
    · rw [digL_small h]
      simp only [valN, List.foldl_cons, List.foldl_nil, dig_of n h]
      omega
    · have := ih (n / 10) (by omega)
      rw [digL_big h]
      unfold valN at *
      rw [List.foldl_append, this]
      simp only [List.foldl_cons, List.foldl_nil, dig_of (n % 10) (by omega)]
      omega
theorem digL_ne (n : Nat) : digL n ≠ [] := by
  by_cases h : n < 10
  · rw [digL_small h]; simp
  · rw [digL_big h]; simp
theorem digL_head (n : Nat) : 10 ≤ n → (digL n).getD 0 0 ≠ 48 := by
  induction n using Nat.strongRecOn with
  | ind n ih =>
    intro h10
    rw [digL_big (by omega)]
    have hne := digL_ne (n / 10)
    have e : (digL (n / 10) ++ [UInt8.ofNat (48 + n % 10)]).getD 0 0 = (digL (n / 10)).getD 0 0 := by
      cases hq : digL (n / 10) with
      | nil => exact absurd hq hne
      | cons a l => rfl
    rw [e]
    by_cases h : n / 10 < 10
    · rw [digL_small h]
      intro e
      have := congrArg UInt8.toNat (show UInt8.ofNat (48 + n / 10) = 48 from e)
      rw [dig_of _ h] at this
      have : 48 + n / 10 = 48 := this
      omega
    · exact ih (n / 10) (by omega) (by omega)
theorem count_dig (n : Nat) (h : n < 2147483648) : countL (digL n) = some n := by
  rw [← count_same, countR, digL_all, digL_val, if_neg, if_pos rfl, if_neg (by omega)]
  rintro (h1 | h1 | ⟨h1, h2⟩)
  · exact digL_ne n h1
  · have := digL_ten 9 n (by omega)
    omega
  · by_cases h10 : n < 10
    · rw [digL_small h10] at h1; simp at h1
    · exact digL_head n (by omega) h2
theorem hexN_hexC : ∀ c : Fin 16, hexN (hexC c.val) = c.val := by decide +kernel
theorem hexN_c (c : Nat) (h : c < 16) : hexN (hexC c) = c := hexN_hexC ⟨c, h⟩
theorem bytes_hex : ∀ d : List UInt8, bytesL (hexL d) = some d
  | [] => rfl
  | b :: d => by
    have hb := b.toNat_lt
    have h1 := hexN_c (b.toNat / 16) (by omega)
    have h2 := hexN_c (b.toNat % 16) (by omega)
    have e : hexL (b :: d) = hexC (b.toNat / 16) :: hexC (b.toNat % 16) :: hexL d := rfl
    rw [e, bytesL, if_pos ⟨by rw [h1]; omega, by rw [h2]; omega⟩, bytes_hex d, h1, h2]
    simp only [Option.map_some]
    congr 2
    apply UInt8.toNat.inj
    simp
    omega
theorem behind_app (wd r : List UInt8) : behindL wd (wd ++ 32 :: r) = some r := by
  unfold behindL
  have e : wd ++ 32 :: r = (wd ++ [32]) ++ r := by simp
  rw [if_pos (by rw [e]; exact by unfold Lib.hasPrefix; exact List.isPrefixOf_iff_prefix.2 (List.prefix_append _ _)), e, List.drop_left' (by simp)]
theorem hexC_ne (c : Nat) (h : c < 16) : hexC c ≠ 10 := by
  intro e
  have := hexN_c c h
  rw [e] at this
  have h2 : hexN 10 = 16 := by decide +kernel
  omega
theorem parse_text (m : Man) (h : m.Ok) : parseL (manT m) = some m := by
  obtain ⟨h1, h2, h3, h4⟩ := h
  have hd10 : ∀ n, ∀ c ∈ digL n, c ≠ 10 := fun n c hc e => by
    have := List.all_eq_true.1 (digL_all n) c hc
    subst e
    revert this
    decide
  have hh10 : ∀ c ∈ hexL m.d, c ≠ 10 := fun c hc => by
    obtain ⟨b, _, hb⟩ := List.mem_flatMap.1 hc
    have := b.toNat_lt
    simp only [List.mem_cons, List.not_mem_nil, or_false] at hb
    rcases hb with rfl | rfl
    · exact hexC_ne _ (by omega)
    · exact hexC_ne _ (by omega)
  have e : manT m = wHead ++ 10 :: ((wVer ++ 32 :: digL m.v) ++ 10 :: ((wLen ++ 32 :: digL m.n) ++ 10 :: ((wDig ++ 32 :: hexL m.d) ++ 10 :: []))) := by
    simp [manT, wA, wB, wC, wHead, wVer, wLen, wDig]
  have app : ∀ (wd r : List UInt8), (∀ c ∈ wd, c ≠ 10) → (∀ c ∈ r, c ≠ 10) → ∀ c ∈ wd ++ 32 :: r, c ≠ 10 := fun wd r a b c hc => by
    rcases List.mem_append.1 hc with k | k
    · exact a c k
    · rcases List.mem_cons.1 k with rfl | k
      · decide
      · exact b c k
  have hl : linesL (manT m) = [wHead, wVer ++ 32 :: digL m.v, wLen ++ 32 :: digL m.n, wDig ++ 32 :: hexL m.d, []] := by
    rw [e, linesL_app _ _ (by decide), linesL_app _ _ (app _ _ (by decide) (hd10 _)), linesL_app _ _ (app _ _ (by decide) (hd10 _)), linesL_app _ _ (app _ _ (by decide) hh10)]
    rfl
  have n1 : numL2 wVer (wVer ++ 32 :: digL m.v) 1073741824 = some m.v := by
    unfold numL2
    rw [behind_app, Option.bind_some, count_dig _ (by omega)]
    simp [Option.filter, h2]
  have n2 : numL2 wLen (wLen ++ 32 :: digL m.n) 1048576 = some m.n := by
    unfold numL2
    rw [behind_app, Option.bind_some, count_dig _ (by omega)]
    simp [Option.filter, h3]
  have n3 : (behindL wDig (wDig ++ 32 :: hexL m.d)).bind bytesL = some m.d := by rw [behind_app, Option.bind_some, bytes_hex]
  unfold parseL
  rw [hl]
  simp only [parseTo, lnA, List.length_cons, List.length_nil, stepM]
  simp [n1, n2, h1]
  rw [n3]
  simp [h4]
end Go.Proofs.YticnmogeknlmeaaGreatDoor.B
