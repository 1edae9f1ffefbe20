/- Helper: the check of bytes, of the program and of the document; walked. No condition. -/
import Derived.Test.YteilmbhnbmmcjaaCd
import Derived.Test.YteilmbhnbmmcjaaPc
namespace Go.Proofs.Yteilmbhnbmmcjaa.B
open Go.RowKit Go.Proofs.YteilmbhnbmmcjaaW.PrintWords
set_option maxRecDepth 100000
set_option maxHeartbeats 800000
def u32 (c : BitVec 32) : Value := .int .u32 (c.toNat : Int)
theorem ofInt_toNat (a : BitVec 32) : BitVec.ofInt 32 (a.toNat : Int) = a := by simp
theorem wrap_u32 (a : BitVec 32) : IntKind.u32.wrap (a.toNat : Int) = a.toNat := by
  have := a.isLt
  simp [IntKind.wrap, IntKind.bits, IntKind.signed]; omega
theorem xor32 (a b : BitVec 32) : bits .xor .u32 (a.toNat : Int) (b.toNat : Int) = ((a ^^^ b).toNat : Int) := by
  show IntKind.u32.wrap ((BitVec.ofInt 32 (a.toNat : Int) ^^^ BitVec.ofInt 32 (b.toNat : Int)).toNat : Int) = _
  rw [ofInt_toNat, ofInt_toNat, wrap_u32]
theorem xor32k (a : BitVec 32) (k : Nat) (hk : k < 4294967296) : bits .xor .u32 (a.toNat : Int) (k : Int) = ((a ^^^ BitVec.ofNat 32 k).toNat : Int) := by
  have := xor32 a (BitVec.ofNat 32 k)
  rw [BitVec.toNat_ofNat, Nat.mod_eq_of_lt (by omega)] at this
  exact this
theorem and32 (a : BitVec 32) : bits .and .u32 (a.toNat : Int) 1 = if a.getLsbD 0 then 1 else 0 := by
  show IntKind.u32.wrap ((BitVec.ofInt 32 (a.toNat : Int) &&& BitVec.ofInt 32 1).toNat : Int) = _
  rw [ofInt_toNat, wrap_u32]
  have : (a &&& BitVec.ofInt 32 1).toNat = a.toNat % 2 := by
    rw [BitVec.toNat_and, show (BitVec.ofInt 32 1).toNat = 1 from rfl, Nat.and_one_is_mod]
  rw [this]
  simp only [BitVec.getLsbD, Nat.testBit_zero]
  by_cases h : a.toNat % 2 = 1
  · simp [h]
  · have h0 : a.toNat % 2 = 0 := by omega
    simp [h0]
theorem shr32 (a : BitVec 32) : (a.toNat : Int) / (2 : Int) = ((a >>> 1).toNat : Int) := by
  rw [BitVec.toNat_ushiftRight, Nat.shiftRight_eq_div_pow]
  simp
def MoreIn (c : BitVec 32) (x v : Value) : Prop := ∃ k : Nat, k ≤ 8 ∧ v = .int .i64 k ∧ x = u32 (iter8 stepP k c)
def MoreOut (c : BitVec 32) (l : List UInt8) (x v : Value) : Prop := ∃ k : Nat, k ≤ l.length ∧ v = .int .i64 k ∧ x = u32 (crcP c (l.take k))
theorem crc_snoc (c : BitVec 32) (l : List UInt8) (k : Nat) (h : k < l.length) : crcP c (l.take (k + 1)) = byteP (crcP c (l.take k)) l[k] := by
  rw [List.take_succ_eq_append_getElem h, crcP, crcP, List.foldl_append]
  rfl
theorem more_any (l : List UInt8) (hl : l.length ≤ 9223372036854775807) (w : World) : Calls Try.prog 79 #[.int .u32 0, .string (bs l)] w fun e w' => e = .returned (u32 (crcP 0xffffffff#32 l ^^^ 0xffffffff#32)) ∧ w = w' := by
  have hsz := bs_size l
  have h0 : bits .xor .u32 IntKind.u32.max 0 = 4294967295 := by decide +kernel
  have Hl := Lib.hid hl
  clear hl
  go_enter Try.func79, Try.ntmps79
  go_wp2
  have hl := Hl.out
  go_loop [5, 11] (fun x v => MoreOut 0xffffffff#32 l x v) (fun _ v => l.length - (intOf v).toNat)
  case atStart => exact ⟨0, by omega, rfl, rfl⟩
  case round =>
    obtain ⟨k, hk, rfl, rfl⟩ := hrel
    by_cases hlt : k < l.length
    · have Hs := Lib.hid (crc_snoc 0xffffffff#32 l k hlt)
      obtain ⟨c, hc⟩ : ∃ c, c = crcP 0xffffffff#32 (l.take k) := ⟨_, rfl⟩
      rw [← hc] at Hs ⊢
      clear hc
      unfold u32
      have Hx := Lib.hid (show bits .xor .u32 (c.toNat : Int) (((bs l)[k]'(by rw [hsz]; exact hlt)).toNat % 4294967296 : Int) = ((c ^^^ BitVec.ofNat 32 (l[k]).toNat).toNat : Int) by
        have e : ((bs l)[k]'(by rw [hsz]; exact hlt)) = l[k] := by simp [bs, ByteArray.getElem_eq_getElem_data]
        have hb := (l[k]).toNat_lt
        rw [e, ← xor32k c _ (by omega)]
        congr 1
        omega)
      go_wp2
      go_loop [5, 20] (fun x v => MoreIn (c ^^^ BitVec.ofNat 32 (l[k]).toNat) x v) (fun _ v => 8 - (intOf v).toNat)
      case atStart => exact ⟨0, by omega, rfl, congrArg (Value.int .u32) Hx.out⟩
      case round =>
        obtain ⟨j, hj, rfl, rfl⟩ := hrel
        obtain ⟨d, hd⟩ : ∃ d, d = iter8 stepP j (c ^^^ BitVec.ofNat 32 (l[k]).toNat) := ⟨_, rfl⟩
        rw [← hd]
        have Hd := Lib.hid hd
        clear hd
        unfold u32
        by_cases hjl : j < 8
        · have ha := and32 d
          by_cases hb : d.getLsbD 0 = true
          · rw [if_pos hb] at ha
            have Hb := Lib.hid hb
            clear hb
            go_wp2
            go_round
            case rel => exact ⟨j + 1, by omega, by go_num, congrArg (Value.int .u32) (by rw [iter8, ← Hd.out, stepP, if_pos Hb.out, shr32]; exact xor32k (d >>> 1) 2197175160 (by omega))⟩
            case measure => simp [intOf]; omega
          · rw [if_neg hb] at ha
            have Hb := Lib.hid hb
            clear hb
            go_wp2
            go_round
            case rel => exact ⟨j + 1, by omega, by go_num, congrArg (Value.int .u32) (by rw [iter8, ← Hd.out, stepP, if_neg Hb.out, shr32])⟩
            case measure => simp [intOf]; omega
        · obtain rfl : j = 8 := by omega
          go_wp2
          go_round
          case rel => exact ⟨k + 1, by omega, by go_num, congrArg (Value.int .u32) (by rw [Hs.out, byteP, ← Hd.out])⟩
          case measure => simp [intOf]; omega
    · obtain rfl : k = l.length := by omega
      have ht : l.take l.length = l := List.take_length
      rw [ht]
      unfold u32
      have hx := xor32k (crcP 0xffffffff#32 l) 4294967295 (by omega)
      have Hx := Lib.hid hx
      clear hx
      go_wp2
      go_ret
      exact ⟨congrArg (fun x => Ending.returned (Value.int .u32 x)) Hx.out, rfl⟩
def crc (l : List UInt8) : BitVec 32 := crcP 0xffffffff#32 l ^^^ 0xffffffff#32
theorem sum_any (l : List UInt8) (hl : l.length ≤ 9223372036854775807) (w : World) : Calls Try.prog 54 #[.string (bs l)] w fun e w' => e = .returned (u32 (crc l)) ∧ w = w' := by
  have Hm := Lib.hid (more_any l hl w)
  clear hl
  go_enter Try.func54, Try.ntmps54
  go_wp2_with fail
  refine Hm.out.mono ?_
  rintro e w1 ⟨rfl, rfl⟩
  unfold u32
  go_wp2
  go_ret
  exact ⟨rfl, rfl⟩
def bucket (l : List UInt8) : Nat := (crc l).toNat % 4
theorem bucket_any (l : List UInt8) (hl : l.length ≤ 9223372036854775807) (w : World) : Calls Try.prog 24 #[.string (bs l)] w fun e w' => e = .returned (.int .i64 (bucket l)) ∧ w = w' := by
  have Hm := Lib.hid (sum_any l hl w)
  clear hl
  go_enter Try.func24, Try.ntmps24
  go_wp2_with fail
  refine Hm.out.mono ?_
  rintro e w1 ⟨rfl, rfl⟩
  unfold u32
  go_wp2
  go_ret
  exact ⟨by simp [bucket], rfl⟩
end Go.Proofs.Yteilmbhnbmmcjaa.B
