/- Helper: the document's check of bytes; walked. No condition. -/
import Derived.Test.YteilmbhnbmmcjaaKa
namespace Go.Proofs.Yteilmbhnbmmcjaa.B
open Go.RowKit Go.Proofs.YteilmbhnbmmcjaaW.PrintWords
set_option maxRecDepth 100000
set_option maxHeartbeats 800000
def TurnRel (n b : Nat) (x o i : Value) : Prop := ∃ k : Nat, k ≤ b ∧ i = .int .i64 k ∧ x = .int .u32 ((n >>> k : Nat) : Int) ∧ o = .int .u32 (turn n k)
theorem turned_any (n b : Nat) (hn : n < 4294967296) (hb : b ≤ 32) (w : World) : Calls Try.prog 55 #[.int .u32 (n : Int), .int .i64 (b : Int)] w fun e w' => e = .returned (.int .u32 (turn n b)) ∧ w = w' := by
  go_enter Try.func55, Try.ntmps55
  go_wp2
  go_loop [0, 5, 6] (fun x o i => TurnRel n b x o i) (fun _ _ i => b - (intOf i).toNat)
  case atStart => exact ⟨0, by omega, rfl, by simp, rfl⟩
  case round =>
    obtain ⟨k, hk, rfl, rfl, rfl⟩ := hrel
    by_cases hlt : k < b
    · have h1 := turn_lt n k
      have h2 : turn n k < 2147483648 := Nat.lt_of_lt_of_le h1 (Nat.le_trans (Nat.pow_le_pow_right (by decide) (show k ≤ 31 by omega)) (by decide))
      have h3 : n >>> k < 4294967296 := Nat.lt_of_le_of_lt (by rw [Nat.shiftRight_eq_div_pow]; exact Nat.div_le_self _ _) hn
      have Ht := Lib.hid (show turn n (k + 1) = 2 * turn n k + (n >>> k) % 2 from rfl)
      have Hs := Lib.hid (show n >>> (k + 1) = (n >>> k) / 2 by rw [Nat.shiftRight_eq_div_pow, Nat.shiftRight_eq_div_pow, Nat.pow_succ, Nat.div_div_eq_div_mul])
      obtain ⟨m, hm⟩ : ∃ m, m = n >>> k := ⟨_, rfl⟩
      obtain ⟨t, ht⟩ : ∃ t, t = turn n k := ⟨_, rfl⟩
      rw [← hm] at h3 Hs Ht ⊢
      rw [← ht] at h2 Ht ⊢
      clear h1 hm ht hn
      go_wp2
      exact ⟨⟨k + 1, by omega, by go_num, congrArg (Value.int .u32) (by rw [Hs.out]; omega), congrArg (Value.int .u32) (by rw [Ht.out]; omega)⟩, by simp [intOf]; omega⟩
    · obtain rfl : k = b := by omega
      go_wp2
      go_ret
      exact ⟨rfl, rfl⟩
theorem turned_8 (n : Nat) (hn : n < 4294967296) (w : World) : Calls Try.prog 55 #[.int .u32 (n : Int), .int .i64 8] w fun e w' => e = .returned (.int .u32 (turn n 8)) ∧ w = w' := turned_any n 8 hn (by omega) w
theorem turned_32 (n : Nat) (hn : n < 4294967296) (w : World) : Calls Try.prog 55 #[.int .u32 (n : Int), .int .i64 32] w fun e w' => e = .returned (.int .u32 (turn n 32)) ∧ w = w' := turned_any n 32 hn (by omega) w
def RefIn (c : BitVec 32) (x v : Value) : Prop := ∃ k : Nat, k ≤ 8 ∧ v = .int .i64 k ∧ x = u32 (iter8 stepR k c)
def RefOut (c : BitVec 32) (l : List UInt8) (x v : Value) : Prop := ∃ k : Nat, k ≤ l.length ∧ v = .int .i64 k ∧ x = u32 (crcR c (l.take k))
theorem crcR_snoc (c : BitVec 32) (l : List UInt8) (k : Nat) (h : k < l.length) : crcR c (l.take (k + 1)) = byteR (crcR c (l.take k)) l[k] := by
  rw [List.take_succ_eq_append_getElem h, crcR, crcR, List.foldl_append]
  rfl
theorem top32 (a : BitVec 32) : a.getLsbD 31 = decide ((2147483648 : Int) ≤ (a.toNat : Int)) := by
  simp only [BitVec.getLsbD, Nat.testBit_eq_decide_div_mod_eq]
  have := a.isLt
  rw [decide_eq_decide]
  omega
theorem rev_rev (a : BitVec 32) : a.reverse.reverse = a := by
  apply BitVec.eq_of_getLsbD_eq
  intro i hi
  rw [BitVec.getLsbD_reverse, BitVec.getMsbD_reverse]
theorem shl32 (a : BitVec 32) : (a.toNat : Int) * (2 : Int) % (4294967296 : Int) = ((a <<< 1).toNat : Int) := by
  rw [BitVec.toNat_shiftLeft, Nat.shiftLeft_eq]
  have := a.isLt
  omega
theorem refsum_any (l : List UInt8) (hl : l.length ≤ 9223372036854775807) (w : World) : Calls Try.prog 25 #[.string (bs l)] w fun e w' => e = .returned (u32 (crc l)) ∧ w = w' := by
  have hsz := bs_size l
  have Hl := Lib.hid hl
  clear hl
  go_enter Try.func25, Try.ntmps25
  go_wp2
  have hl := Hl.out
  go_loop [3, 4] (fun x v => RefOut 0xffffffff#32 l x v) (fun _ v => l.length - (intOf v).toNat)
  case atStart => exact ⟨0, by omega, rfl, rfl⟩
  case round =>
    obtain ⟨k, hk, rfl, rfl⟩ := hrel
    by_cases hlt : k < l.length
    · have Hs := Lib.hid (crcR_snoc 0xffffffff#32 l k hlt)
      obtain ⟨c, hc⟩ : ∃ c, c = crcR 0xffffffff#32 (l.take k) := ⟨_, rfl⟩
      rw [← hc] at Hs ⊢
      clear hc
      unfold u32
      have hb := (l[k]).toNat_lt
      have htl := turn_lt l[k].toNat 8
      have hbm : l[k].toNat < 4294967296 := by omega
      have Hx := Lib.hid (show bits .xor .u32 (c.toNat : Int) ((turn l[k].toNat 8 : Int) * 16777216 % 4294967296) = ((c ^^^ (BitVec.ofNat 32 l[k].toNat).reverse).toNat : Int) by
        rw [← turn_rev8 l[k].toNat (by omega), ← xor32k c _ (by omega)]
        congr 1
        omega)
      have HT := turned_8 l[k].toNat hbm w
      obtain ⟨t8, ht8⟩ : ∃ t, t = turn l[k].toNat 8 := ⟨_, rfl⟩
      rw [← ht8] at HT Hx htl
      have HT := Lib.hid HT
      clear htl ht8
      have e : ((bs l)[k]'(by rw [hsz]; exact hlt)) = l[k] := by simp [bs, ByteArray.getElem_eq_getElem_data]
      go_wp2_with fail
      refine HT.out.mono ?_
      rintro e w1 ⟨rfl, rfl⟩
      go_wp2
      go_loop [3, 5] (fun x v => RefIn (c ^^^ (BitVec.ofNat 32 (l[k]).toNat).reverse) x v) (fun _ v => 8 - (intOf v).toNat)
      case atStart => exact ⟨0, by omega, rfl, congrArg (Value.int .u32) Hx.out⟩
      case round =>
        obtain ⟨j, hj, rfl, rfl⟩ := hrel
        obtain ⟨d, hd⟩ : ∃ d, d = iter8 stepR j (c ^^^ (BitVec.ofNat 32 (l[k]).toNat).reverse) := ⟨_, rfl⟩
        rw [← hd]
        have Hd := Lib.hid hd
        clear hd
        unfold u32
        by_cases hjl : j < 8
        · have Ha := Lib.hid (top32 d)
          obtain ⟨n, hn⟩ : ∃ n, n = d.toNat := ⟨_, rfl⟩
          rw [← hn] at Ha ⊢
          have Hn := Lib.hid hn
          clear hn
          cases hb : d.getLsbD 31
          · rw [hb] at Ha
            have hd := Ha.out.symm
            have Hb := Lib.hid (show ¬ d.getLsbD 31 = true by rw [hb]; simp)
            clear hb Ha
            go_wp2
            rw [Hn.out]
            go_round
            case rel => exact ⟨j + 1, by omega, by go_num, congrArg (Value.int .u32) (by rw [iter8, ← Hd.out, stepR, if_neg Hb.out]; exact shl32 d)⟩
            case measure => simp [intOf]; omega
          · rw [hb] at Ha
            have hd := Ha.out.symm
            have Hb := Lib.hid hb
            clear hb Ha
            go_wp2
            rw [Hn.out]
            go_round
            case rel => exact ⟨j + 1, by omega, by go_num, congrArg (Value.int .u32) (by rw [iter8, ← Hd.out, stepR, if_pos Hb.out, shl32]; exact xor32k (d <<< 1) 517762881 (by omega))⟩
            case measure => simp [intOf]; omega
        · obtain rfl : j = 8 := by omega
          go_wp2
          go_round
          case rel => exact ⟨k + 1, by omega, by go_num, congrArg (Value.int .u32) (by rw [Hs.out, byteR, ← Hd.out])⟩
          case measure => simp [intOf]; omega
    · obtain rfl : k = l.length := by omega
      have ht : l.take l.length = l := List.take_length
      rw [ht]
      have hr := rev_crc l 0xffffffff#32
      rw [show (0xffffffff#32).reverse = 0xffffffff#32 by decide +kernel] at hr
      have hT := turned_32 (crcR 0xffffffff#32 l).toNat (crcR 0xffffffff#32 l).isLt w
      have hrr : turn (crcR 0xffffffff#32 l).toNat 32 = (crcP 0xffffffff#32 l).toNat := by
        have h1 := turn_rev32 (crcR 0xffffffff#32 l)
        rw [← hr, rev_rev] at h1
        rw [← hr]
        have h2 := congrArg BitVec.toNat h1
        rw [BitVec.toNat_ofNat, Nat.mod_eq_of_lt (Nat.lt_of_lt_of_le (turn_lt _ 32) (by decide))] at h2
        exact h2
      rw [hrr] at hT
      have HT := Lib.hid hT
      obtain ⟨q, hq⟩ : ∃ q, q = crcR 0xffffffff#32 l := ⟨_, rfl⟩
      rw [← hq] at HT ⊢
      clear hT hrr hr hq
      unfold u32
      have hx := Lib.hid (xor32k (crcP 0xffffffff#32 l) 4294967295 (by omega))
      go_wp2_with fail
      refine HT.out.mono ?_
      rintro e w1 ⟨rfl, rfl⟩
      go_wp2
      go_ret
      exact ⟨congrArg (fun x => Ending.returned (Value.int .u32 x)) hx.out, rfl⟩
end Go.Proofs.Yteilmbhnbmmcjaa.B
