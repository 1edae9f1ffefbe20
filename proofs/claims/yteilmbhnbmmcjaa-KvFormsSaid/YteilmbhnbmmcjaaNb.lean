/- Helper: the statement that a page in which something else stands is told; walked. No condition. -/
import Derived.Test.YteilmbhnbmmcjaaNa
namespace Go.Proofs.Yteilmbhnbmmcjaa.B
open Go.RowKit Go.Proofs.YteilmbhnbmmcjaaW.PrintWords Go.Proofs.Yteilmbhnbmmcjaa.Later
set_option maxRecDepth 100000
set_option maxHeartbeats 3200000
theorem i64_and3 (n : Int) : bits .and .i64 n 3 = n % 4 := by
  have h3 : (BitVec.ofInt 64 3).toNat = 2 ^ 2 - 1 := by decide
  have key : (BitVec.ofInt 64 n &&& BitVec.ofInt 64 3).toNat = (n % ((2 ^ 64 : Nat) : Int)).toNat % 2 ^ 2 := by
    rw [BitVec.toNat_and, BitVec.toNat_ofInt, h3, Nat.and_two_pow_sub_one_eq_mod]
  show IntKind.i64.wrap ((BitVec.ofInt 64 n &&& BitVec.ofInt 64 3).toNat : Nat) = n % 4
  rw [key, IntKind.wrap_i64]
  omega
/-- A page alone. -/
def pg1 (k : Nat) (t : List UInt8) : Nat → Option (List UInt8) := fun j => if j = k then some t else none
theorem pg1_other {k j : Nat} (t : List UInt8) (h : j ≠ k) : loadP (pg1 k t j) j = (0, []) := by rw [pg1, if_neg h]; rfl
theorem pg1_at (k : Nat) (t : List UInt8) : pg1 k t k = some t := if_pos rfl
theorem pg1_flat (k : Nat) (hk : k < 4) (t : List UInt8) : flatP (pg1 k t) 4 = (loadP (some t) k).2 := by
  have h := fun j hj => congrArg Prod.snd (pg1_other (j := j) (k := k) t hj)
  have e : flatP (pg1 k t) 4 = (loadP (pg1 k t 0) 0).2 ++ ((loadP (pg1 k t 1) 1).2 ++ ((loadP (pg1 k t 2) 2).2 ++ (loadP (pg1 k t 3) 3).2)) := by
    simp [flatP, List.range_succ]
  rw [e]
  rcases (show k = 0 ∨ k = 1 ∨ k = 2 ∨ k = 3 by omega) with rfl | rfl | rfl | rfl
  · rw [h 1 (by omega), h 2 (by omega), h 3 (by omega), pg1_at]; simp
  · rw [h 0 (by omega), h 2 (by omega), h 3 (by omega), pg1_at]; simp
  · rw [h 0 (by omega), h 1 (by omega), h 3 (by omega), pg1_at]; simp
  · rw [h 0 (by omega), h 1 (by omega), h 2 (by omega), pg1_at]; simp
def FormRel (L : List Pr) (w : World) (c : Value) (wr : World) : Prop := ∃ i : Nat, i ≤ L.length ∧ c = .int .i64 i ∧ Below w.heap.size w wr
theorem KvForms_any (s : ByteArray) (hs : s.size ≤ 140737488351232) (at' : Int) (w : World) : Calls Try.prog 7 #[.string s, .int .i64 at'] w fun e w' => e = .returned (.bool true) ∧ Below w.heap.size w w' := by
  rw [← bs_of s]
  obtain ⟨l, hl⟩ : ∃ l, l = s.data.toList := ⟨_, rfl⟩
  rw [← hl]
  have hsz := bs_size l
  have hll : l.length ≤ 140737488351232 := by rw [← bs_size l, hl, bs_of]; exact hs
  clear hl hs
  go_enter Try.func7, Try.ntmps7
  go_wp2_with fail
  refine (kdisk_any w).mono ?_
  rintro e w1 ⟨a, rfl, ha, hM, hB1⟩
  have HB1 := Lib.hid hB1
  have HM := Lib.hid hM
  clear hB1 hM
  go_upto_region 2 with fail
  rw [i64_and3]
  obtain ⟨k, hk, ek⟩ : ∃ k : Nat, k < 4 ∧ at' % 4 = (k : Int) := ⟨(at' % 4).toNat, by omega, by omega⟩
  rw [ek]
  clear ek
  go_wp2_with fail
  refine (kmake_ok a w1 HM.out).mono ?_
  rintro e w2 ⟨rfl, h2, hm2⟩
  have H2 := Lib.hid h2
  have HB2 := Lib.hid (Below.mut HB1.out hm2 HB1.out.size ha)
  clear h2 hm2 HM HB1
  go_wp2_with fail
  refine (begin_any _ a w2 H2.out).mono ?_
  rintro e w3 ⟨rfl, h3, hm3⟩
  have H3 := Lib.hid (show MdAt w3 a (mkM (LT 5 4 noPages false) (some (LT 5 4 noPages false)) 0) from h3)
  have HB3 := Lib.hid (Below.mut HB2.out hm3 HB2.out.size ha)
  clear h3 hm3 H2 HB2
  go_upto_region 5 with fail
  have et : (bs l).extract 0 (min (l.length : Int) 60).toNat = bs (l.take 60) := by
    rw [bs_extract, List.drop_zero]
    by_cases h : l.length ≤ 60
    · rw [show (min (l.length : Int) 60).toNat = l.length by omega, List.take_length, List.take_of_length_le h]
    · rw [show (min (l.length : Int) 60).toNat = 60 by omega]
  rw [et]
  obtain ⟨t, ht⟩ : ∃ t, t = l.take 60 := ⟨_, rfl⟩
  rw [← ht]
  have htl : t.length ≤ 60 := by rw [ht]; simp; omega
  have hts := bs_size t
  clear et ht
  go_wp2_with fail
  refine (dput_ok ⟨by omega, by omega, by omega, by omega⟩ (LT 5 4 noPages false) noPages noPg4 0 (by omega) (by omega) (k : Int) (by omega) (by omega) (bs t) (by rw [bs_size]; omega) a w3 H3.out).mono ?_
  rintro e w4 ⟨rfl, h4, hm4⟩
  have H4 := Lib.hid h4
  have HB4 := Lib.hid (Below.mut HB3.out hm4 HB3.out.size ha)
  clear h4 hm4 H3 HB3
  go_wp2_with fail
  refine (commit_m _ a w4 H4.out).mono ?_
  rintro e w5 ⟨rfl, h5, hm5⟩
  have q1 : ∀ j : Nat, j < 4 → upP noPages k (some (bs t)) (j : Int) = (pg1 k t j).map bs := fun j hj => by
    by_cases e : j = k
    · subst e; simp [upP, pg1]
    · have e2 : ((j : Int) = (k : Int)) = False := by simp; omega
      simp only [upP, e2, if_false, pg1, e]; rfl
  have q2 : ∀ j, j < 4 → ∀ s, pg1 k t j = some s → s.length ≤ 64 := fun j hj s hs => by
    unfold pg1 at hs
    split at hs
    · cases hs; omega
    · cases hs
  have hd : KvDev w5 a (pg1 k t) := ⟨upP noPages k (some (bs t)), 0 + 1, noPg4.up (by omega) (by omega) _, q1, q2, h5⟩
  have HD := Lib.hid hd
  have HB5 := Lib.hid (Below.mut HB4.out hm5 HB4.out.size ha)
  clear h5 hm5 H4 HB4 hd q1 q2
  go_wp2_with fail
  refine (kopen_size a 64 w5).mono ?_
  rintro e w6 ⟨⟨v, rfl, hv⟩, hb6⟩
  obtain ⟨rfl, hg⟩ := hv rfl
  obtain ⟨g, hg'⟩ : ∃ g, g = w5.heap.size := ⟨_, rfl⟩
  rw [← hg'] at hg ⊢
  have e0 : openE 64 = 0 := rfl
  rw [e0]
  have Hg := Lib.hid hg
  have HD6 := Lib.hid (HD.out.below hb6)
  have HB6 := Lib.hid (HB5.out.trans (hb6.mono HB5.out.size))
  clear hv hb6 hg hg' HD HB5 e0
  obtain ⟨z, hz⟩ : ∃ z, z = (loadP (some t) k).1 := ⟨_, rfl⟩
  obtain ⟨L, hL⟩ : ∃ L, L = (loadP (some t) k).2 := ⟨_, rfl⟩
  have hall : ∀ W, Below w6.heap.size w6 W → Calls Try.prog 30 #[.pointer (some ⟨g, 0, none⟩)] W fun e w' => (∃ A c, (z ≠ 0 → e = .returned (.tuple #[.slice none 0 0, .int .i64 z])) ∧ (z = 0 → e = .returned (.tuple #[.slice A L.length c, .int .i64 0]) ∧ Kd.C prK w' A L.length L)) ∧ Below W.heap.size W w' := fun W hW => by
    obtain ⟨F, many, hF, hFp, hlen, hM⟩ := HD6.out.below hW
    have hpb : pgB (pg1 k t) (mkM (LT 5 4 F false) none many).see := fun k hk => ⟨(page_LT5 F false k).trans (hFp k hk), hlen k hk⟩
    refine (kall_any _ a g (pg1 k t) hpb (fun j hj => by have := loadP_len (pg1 k t j) j (hlen j hj); omega) W hM (Hg.out.below hW)).mono ?_
    rintro e w' ⟨h, hb⟩
    refine ⟨?_, hb⟩
    rcases h with ⟨j, hj, _, hne, rfl⟩ | ⟨h0, L', A, c, hp, hs, rfl, hC⟩
    · have : j = k := by
        by_cases e : j = k
        · exact e
        · exact absurd (congrArg Prod.fst (pg1_other t e)) hne
      subst this
      rw [pg1_at, ← hz] at hne ⊢
      exact ⟨none, 0, fun _ => rfl, fun h => absurd h hne⟩
    · have h1 := h0 k hk
      rw [pg1_at, ← hz] at h1
      rw [pg1_flat k hk, ← hL] at hp
      have hst : St L := st_of_rises (by rw [hL]; exact (loadP_good (some t) k (by rw [← hz]; exact h1)).1)
      obtain rfl := sorted_perm hst hp hs
      exact ⟨A, c, fun h => absurd h1 h, fun _ => ⟨rfl, hC⟩⟩
  have Hall := Lib.hid hall
  have HzL := Lib.hid (⟨hz, hL⟩ : z = (loadP (some t) k).1 ∧ L = (loadP (some t) k).2)
  clear hall hz hL
  go_wp2_with fail
  refine (Hall.out w6 (Below.refl _ _)).mono ?_
  rintro e w7 ⟨⟨A1, c1, h1, h1'⟩, hb7⟩
  by_cases hz : z = 0
  · subst hz
    obtain ⟨rfl, hC1⟩ := h1' rfl
    have HB7 := Lib.hid (HB6.out.trans (hb7.mono HB6.out.size))
    have Hb7 := Lib.hid hb7
    clear h1 h1' hb7
    go_wp2_with fail
    refine (Hall.out w7 Hb7.out).mono ?_
    rintro e w8 ⟨⟨A2, c2, h2, h2'⟩, hb8⟩
    obtain ⟨rfl, hC2⟩ := h2' (by trivial)
    have HB8 := Lib.hid (HB7.out.trans (hb8.mono HB7.out.size))
    clear h2 h2' hb8 hC1
    have HC8 := Lib.hid hC2
    clear hC2
    go_wp2_with fail
    refine (awake_any w8).mono ?_
    rintro e w9 ⟨rfl, hb9⟩
    have HB9 := Lib.hid (HB8.out.trans (hb9.mono HB8.out.size))
    have HC9 := Lib.hid (Kd.C_below HC8.out hb9)
    clear hb9 HB8 HC8 Hall
    have hgd : Good k L := by rw [HzL.out.2]; exact loadP_good (some t) k HzL.out.1.symm
    have hLl : L.length ≤ 65 := by rw [HzL.out.2]; exact loadP_len (some t) k (fun s hs => by cases hs; omega)
    have Hgd := Lib.hid hgd
    clear hgd
    go_wp2
    go_loopw [16] (fun c wr => FormRel L w9 c wr) (fun c _ => L.length - (intOf c).toNat)
    case atStart => exact ⟨0, by omega, rfl, Below.refl _ _⟩
    case round =>
      obtain ⟨i, hi, rfl, hB⟩ := hrel
      have HB := Lib.hid hB
      clear hB
      by_cases hlt : i < L.length
      · have hC := Kd.C_below HC9.out HB.out
        obtain ⟨ad, e, d0, d1⟩ := at_pr hC (i : Int) (by omega) (by omega)
        cases e
        rw [Int.toNat_natCast] at d0 d1
        obtain ⟨x, hx⟩ : ∃ x, x = prA L i := ⟨_, rfl⟩
        rw [← hx] at d0 d1
        have hm : x ∈ L := by rw [hx, prA_get L i hlt]; exact List.getElem_mem _
        obtain ⟨h1, h2, h3, h4⟩ := Hgd.out.2 x hm
        have hgk : goodK x.k x.v = true := by simp [goodK, h1, h3, h4]
        obtain ⟨N, hN⟩ : ∃ N, N = (crc x.k).toNat := ⟨_, rfl⟩
        have hNk : ((N : Int) % 4) = (k : Int) := by
          have : k = N % 4 := by rw [← h2, hN]; rfl
          omega
        have hN32 : N < 4294967296 := by rw [hN]; exact (crc x.k).isLt
        have m1 := calls_later_same (P := Try.prog) (f := 25) (w := wr) (v := .int .u32 (N : Int)) (fun W _ => by rw [hN]; exact refsum_any x.k (by omega) W)
        have m2 := calls_later (P := Try.prog) (f := 32) (w := wr) (v := .bool true) (fun W _ => by rw [← hgk]; exact lgood_any x.k x.v (by omega) (by omega) W)
        have k0 := fun n => later_cell d0 n
        have k1 := fun n => later_cell d1 n
        have i0 : (0 : Int) ≤ (i : Int) := by omega
        have i1 : (i : Int) < (L.length : Int) := by omega
        have hX := bs_toList x.k
        have Hr := Lib.hid Hgd.out.1
        by_cases h0 : i = 0
        · have hpos : decide (0 < i) = false := by simp [h0]
          clear h0
          clear hx hm h1 h2 h3 h4 hgk hN hC
          go_upto_region 16 with fail
          refine wp_region_later (by kernel_rfl) (by kernel_rfl) ?_
          repeat (any_goals (first | go_big_quiet_step ((first | (with_reducible exact m1 _) | (with_reducible exact m2 _))) | quiet_step ((first | (with_reducible exact m1 _) | (with_reducible exact m2 _)))))
          refine wpQuiet_nil ?_
          intro w10 hw10
          have HB10 := Lib.hid (HB.out.trans ((later_of hw10).mono HB.out.size))
          clear hw10 m1 m2 k0 k1
          go_wp2
          go_roundw
          case rel => exact ⟨i + 1, by omega, by go_num, HB10.out⟩
          case measure => simp [intOf]; omega
        · obtain ⟨j, rfl⟩ : ∃ j, i = j + 1 := ⟨i - 1, by omega⟩
          have hr := Hr.out j (j + 1) (by omega) hlt
          rw [← hx] at hr
          obtain ⟨ad', e', f0, f1⟩ := at_pr hC (j : Int) (by omega) (by omega)
          cases e'
          rw [Int.toNat_natCast] at f0 f1
          obtain ⟨y, hy⟩ : ∃ y, y = prA L j := ⟨_, rfl⟩
          rw [← hy] at f0 f1 hr
          have hYX : Go.Op.bytesLess y.k x.k = true := hr
          have hY := bs_toList y.k
          have k2 := fun n => later_cell f0 n
          have en : ((j : Int) + 1 - 1) = (j : Int) := by omega
          have j0 : (0 : Int) ≤ (j : Int) := by omega
          have j1 : (j : Int) < (L.length : Int) := by omega
          have j2 : (0 : Int) < (j : Int) + 1 := by omega
          clear hx hm h1 h2 h3 h4 hgk hN hC hr hy f1
          go_upto_region 16 with fail
          refine wp_region_later (by kernel_rfl) (by kernel_rfl) ?_
          repeat (any_goals (first | go_big_quiet_step ((first | (with_reducible exact m1 _) | (with_reducible exact m2 _))) | quiet_step ((first | (with_reducible exact m1 _) | (with_reducible exact m2 _)))))
          refine wpQuiet_nil ?_
          intro w10 hw10
          have HB10 := Lib.hid (HB.out.trans ((later_of hw10).mono HB.out.size))
          clear hw10 m1 m2 k0 k1 k2
          go_wp2
          go_roundw
          case rel => exact ⟨j + 1 + 1, by omega, by go_num, HB10.out⟩
          case measure => simp [intOf]; omega
      · obtain rfl : i = L.length := by omega
        go_wp2
        go_ret
        exact ⟨rfl, HB9.out.trans (HB.out.mono HB9.out.size)⟩
  · obtain rfl := h1 hz
    have HB7 := Lib.hid (HB6.out.trans (hb7.mono HB6.out.size))
    have Hb7 := Lib.hid hb7
    have hzb : (z != 0) = true := bne_iff_ne.2 hz
    clear h1 h1' hb7
    go_wp2_with fail
    refine (Hall.out w7 Hb7.out).mono ?_
    rintro e w8 ⟨⟨A2, c2, h2, h2'⟩, hb8⟩
    obtain rfl := h2 hz
    have HB8 := Lib.hid (HB7.out.trans (hb8.mono HB7.out.size))
    have Hb8 := Lib.hid (Hb7.out.trans (hb8.mono Hb7.out.size))
    clear h2 h2' hb8
    go_wp2_with fail
    refine (awake_any w8).mono ?_
    rintro e w9 ⟨rfl, hb9⟩
    have HB9 := Lib.hid (HB8.out.trans (hb9.mono HB8.out.size))
    have hd9 := (HD6.out.below Hb8.out).below hb9
    have hg9 := (Hg.out.below Hb8.out).below hb9
    obtain ⟨w10, hw10⟩ : ∃ w10, w10 = w9.alloc (.cells #[.string (bs [97]), .string (bs [])] 63) := ⟨_, rfl⟩
    have hb10 : Below w9.heap.size w9 w10 := by rw [hw10]; exact (Below.refl _ _).alloc (Nat.le_refl _) _
    have hk10 : Blk w10 w9.heap.size #[.string (bs [97]), .string (bs [])] 63 := by rw [hw10]; exact Blk.new w9 _ 63
    have hset := kset_bad a g (pg1 k t) w10 (hd9.below hb10) (hg9.below hb10) [⟨[97], []⟩] (by simp) (fun x hx => by obtain rfl := List.mem_singleton.1 hx; constructor <;> simp) (by simp; decide) (some ⟨w9.heap.size, 0, none⟩) 1 (lit_C w10 w9.heap.size ⟨[97], []⟩ hk10) k hk (fun j hj => congrArg Prod.fst (pg1_other t (by omega))) (by rw [pg1_at, ← HzL.out.1]; exact hz)
    rw [pg1_at, ← HzL.out.1, hw10] at hset
    have Hset := Lib.hid hset
    have HB10 := Lib.hid (HB9.out.trans (hb10.mono HB9.out.size))
    rw [hw10] at HB10
    clear hset hd9 hg9 hk10 hb10 hw10 hb9 HB9
    go_wp2_with fail
    refine Hset.out.mono ?_
    rintro e w11 ⟨rfl, hb11⟩
    have HB11 := Lib.hid (HB10.out.trans (hb11.mono HB10.out.size))
    clear hb11
    go_wp2
    go_ret
    exact ⟨by simp, HB11.out⟩
end Go.Proofs.Yteilmbhnbmmcjaa.B
