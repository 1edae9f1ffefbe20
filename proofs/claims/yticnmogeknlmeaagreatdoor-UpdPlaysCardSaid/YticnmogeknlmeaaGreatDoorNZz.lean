/- Helper: the law UpdPlays; walked. No condition. -/
import Derived.Test.YticnmogeknlmeaaGreatDoorNZy
namespace Go.Proofs.YticnmogeknlmeaaGreatDoor.B
open Go.RowKit Go.Maps Go.Proofs.YticnmogeknlmeaaGreatDoorW.PrintWords Go.Proofs.YticnmogeknlmeaaGreatDoor.Later
set_option maxRecDepth 100000
set_option maxHeartbeats 8000000
/-- Something that is done. -/
structure Ac where
  k : Int
  n : Int
  t : ByteArray
instance : Inhabited Ac := ⟨⟨0, 0, ⟨#[]⟩⟩⟩
def acK : Kd Ac := Kd.iso (Kd.pair (Kd.int .i64) (Kd.pair (Kd.int .i64) Kd.string)) (fun x => (x.k, x.n, x.t))
def acA (l : List Ac) (i : Nat) : Ac := l.getD i default
theorem at_ac {w : World} {A : Option Addr} {n : Nat} {xs : List Ac} (h : Kd.C acK w A n xs) (i : Int) (h0 : 0 ≤ i) (h1 : i < n) :
    ∃ ad, A = some ad ∧ w.cell? (ad.add (i.toNat * 3)) = some (.int .i64 (acA xs i.toNat).k) ∧ w.cell? ⟨(ad.add (i.toNat * 3)).block, (ad.add (i.toNat * 3)).off + 1, none⟩ = some (.int .i64 (acA xs i.toNat).n) ∧ w.cell? ⟨(ad.add (i.toNat * 3)).block, (ad.add (i.toNat * 3)).off + 2, none⟩ = some (.string (acA xs i.toNat).t) := by
  obtain ⟨ad, c, e, _, hK, hc0⟩ := Kd.C_get h default i h0 h1
  have hc : ∀ j u, c[j]? = some u → w.cell? (ad.add (i.toNat * 3 + j)) = some u := hc0
  obtain ⟨_, _, rfl, rfl, _, _, rfl, rfl, rfl⟩ := hK
  refine ⟨ad, e, hc 0 _ rfl, ?_, ?_⟩
  · rw [← add_field _ _ 1 (by omega)]; exact hc 1 _ rfl
  · rw [← add_field _ _ 2 (by omega)]; exact hc 2 _ rfl
def pl01 (V : Nat) : Pl := ⟨3, ⟨false, false, false, 0, V, V, 0⟩, fun _ => man0, fun _ => [], man0, [], false⟩
def pl02 (V : Nat) (s : List UInt8) : Pl := { pl01 V with m := setB (pl01 V).m false ⟨V, s.length, shaL s⟩ }
def pl0 (V : Nat) (s : List UInt8) : Pl := ⟨3, ⟨false, false, false, 0, V, V, 0⟩, setB (fun _ => man0) false ⟨V, s.length, shaL s⟩, setB (fun _ => []) false s, man0, [], false⟩
theorem rl0 (V : Nat) (s : List UInt8) : Rl (pl0 V s) (first 3 V ⟨V, s.length, shaL s⟩ s) := by
  refine ⟨rfl, rfl, fun t => ?_, rfl, fun _ => ⟨rfl, rfl⟩, (show 0 ≤ 1048576 by decide), fun m g e => by cases e⟩
  cases t <;> rfl
theorem uplays_walk (v : Int) (V : Nat) (hv : (1 : Int) + bits .and .i64 v 7 = (V : Int)) (hV : 1 ≤ V ∧ V ≤ 8) (l s : List UInt8) (hl : l.length < 9223372036854775807) (hs : s = l.take (3 * 64)) (c : List Ac) (hcl : c.length ≤ 9223372036854775807) (A : Option Addr) (cap : Nat) (w : World) (hC : Kd.C acK w A c.length c) :
    Calls Tryz.prog 3 #[.int .i64 v, .string (bs l), .slice A c.length cap] w fun e w' => e = .returned (.bool true) ∧ Below w.heap.size w w' := by
  have hsz := bs_size l
  have hss := bs_size s
  have hsl : s.length ≤ 192 := by rw [hs, List.length_take]; omega
  have Hfew := Lib.hid (fun W => (show Calls Tryz.prog 8 #[.string (bs l), .int .i64 3] W fun e w' => e = .returned (.string (bs s)) ∧ w' = W from by rw [hs]; exact few_any l 3 (by decide) W))
  have Hb := Lib.hid (fun W => (show Calls Tryz.prog 9 #[.int .i64 3, .int .i64 (V : Int), .string (bs s)] W _ from begun_any 3 V (by decide) (by decide) hV.1 (by omega) s (by omega) W))
  have Hsum := Lib.hid (fun W => refSum_any s (by omega) W)
  have hi0 : (first 3 V ⟨V, s.length, shaL s⟩ s).Inv := first_inv hV.1 (by omega) (by decide) (by decide) (by omega)
  have HI0 := Lib.hid hi0
  have HR0 := Lib.hid (rl0 V s)
  have HC := Lib.hid hC
  obtain ⟨q, hq⟩ : ∃ q, q = bits .and .i64 v 7 := ⟨_, rfl⟩
  have hq' : bits .and .i64 v 7 = q := hq.symm
  rw [← hq] at hv
  have hqb : 0 ≤ q ∧ q ≤ 7 := by omega
  clear hs hC hi0 hq
  go_enter Tryz.func3, Tryz.ntmps3
  go_wp2_with fail
  refine (Hfew.out _).mono ?_
  rintro e w1 ⟨rfl, rfl⟩
  go_wp2_with fail
  refine (Hb.out _).mono ?_
  rintro e w2 ⟨u, a, rfl, hu, ha, hU, hB⟩
  have H2 := Lib.hid hU
  have HB2 := Lib.hid hB
  clear hU hB
  go_wp2_with fail
  refine (awake_any _).mono ?_
  rintro e w3 ⟨rfl, hB⟩
  have HB3 := Lib.hid (HB2.out.trans (hB.mono HB2.out.size))
  have H3 := Lib.hid (H2.out.below hB)
  have hal := H3.out.al
  have hul := H3.out.ul
  clear hB hv hq' hqb
  have K4 := Lib.hid (show Blk (w3.alloc (.cells #[.int .i64 0, .int .i64 0, .bool false, .int .i64 0, .int .i64 0, .int .i64 0, .int .i64 0, .bool false, .bool false, .int .i64 0, .int .i64 0, .string { data := #[] }, .int .i64 0, .int .i64 0, .string { data := #[] }, .string { data := #[] }, .string { data := #[] }, .int .i64 0, .int .i64 0, .string { data := #[] }, .string { data := #[] }, .bool false] 38)) w3.heap.size zero22 38 from Blk.new w3 zero22 38)
  have hba : Below w3.heap.size w3 (w3.alloc (.cells #[.int .i64 0, .int .i64 0, .bool false, .int .i64 0, .int .i64 0, .int .i64 0, .int .i64 0, .bool false, .bool false, .int .i64 0, .int .i64 0, .string { data := #[] }, .int .i64 0, .int .i64 0, .string { data := #[] }, .string { data := #[] }, .string { data := #[] }, .int .i64 0, .int .i64 0, .string { data := #[] }, .string { data := #[] }, .bool false] 38)) := (Below.refl _ _).alloc (Nat.le_refl _) _
  have hw3 := HB3.out.size
  go_upto_region 6 with (first
    | (refine wpList_store_row rfl 38 (.tmp 12) (.tmp 36) rfl w3.heap.size #[.int .i64 3, .int .i64 0, .bool false, .int .i64 0, .int .i64 0, .int .i64 0, .int .i64 0, .bool false, .bool false, .int .i64 0, .int .i64 0, .string { data := #[] }, .int .i64 0, .int .i64 0, .string { data := #[] }, .string { data := #[] }, .string { data := #[] }, .int .i64 0, .int .i64 0, .string { data := #[] }, .string { data := #[] }, .bool false] rfl rfl 38 zero22 K4.out (by rw [size38]; rfl) rfl (by simp [Value.oneCell']) ?_)
    | fail)
  have hb5 : Below w3.heap.size w3 ((w3.alloc (.cells #[.int .i64 0, .int .i64 0, .bool false, .int .i64 0, .int .i64 0, .int .i64 0, .int .i64 0, .bool false, .bool false, .int .i64 0, .int .i64 0, .string { data := #[] }, .int .i64 0, .int .i64 0, .string { data := #[] }, .string { data := #[] }, .string { data := #[] }, .int .i64 0, .int .i64 0, .string { data := #[] }, .string { data := #[] }, .bool false] 38)).setRow w3.heap.size #[.int .i64 3, .int .i64 0, .bool false, .int .i64 0, .int .i64 0, .int .i64 0, .int .i64 0, .bool false, .bool false, .int .i64 0, .int .i64 0, .string { data := #[] }, .int .i64 0, .int .i64 0, .string { data := #[] }, .string { data := #[] }, .string { data := #[] }, .int .i64 0, .int .i64 0, .string { data := #[] }, .string { data := #[] }, .bool false]) := below_setRow hba (Nat.le_refl _) _
  have K5 := Lib.hid (show Blk ((w3.alloc (.cells #[.int .i64 0, .int .i64 0, .bool false, .int .i64 0, .int .i64 0, .int .i64 0, .int .i64 0, .bool false, .bool false, .int .i64 0, .int .i64 0, .string { data := #[] }, .int .i64 0, .int .i64 0, .string { data := #[] }, .string { data := #[] }, .string { data := #[] }, .int .i64 0, .int .i64 0, .string { data := #[] }, .string { data := #[] }, .bool false] 38)).setRow w3.heap.size #[.int .i64 3, .int .i64 0, .bool false, .int .i64 0, .int .i64 0, .int .i64 0, .int .i64 0, .bool false, .bool false, .int .i64 0, .int .i64 0, .string { data := #[] }, .int .i64 0, .int .i64 0, .string { data := #[] }, .string { data := #[] }, .string { data := #[] }, .int .i64 0, .int .i64 0, .string { data := #[] }, .string { data := #[] }, .bool false]) w3.heap.size #[.int .i64 3, .int .i64 0, .bool false, .int .i64 0, .int .i64 0, .int .i64 0, .int .i64 0, .bool false, .bool false, .int .i64 0, .int .i64 0, .string { data := #[] }, .int .i64 0, .int .i64 0, .string { data := #[] }, .string { data := #[] }, .string { data := #[] }, .int .i64 0, .int .i64 0, .string { data := #[] }, .string { data := #[] }, .bool false] 38 from K4.out.row _)
  have H5 := Lib.hid (H3.out.below hb5)
  have HB5 := Lib.hid (HB3.out.trans (hb5.mono hw3))
  have HW5 := Lib.hid hb5
  clear hba hb5 K4
  generalize ((w3.alloc (.cells #[.int .i64 0, .int .i64 0, .bool false, .int .i64 0, .int .i64 0, .int .i64 0, .int .i64 0, .bool false, .bool false, .int .i64 0, .int .i64 0, .string { data := #[] }, .int .i64 0, .int .i64 0, .string { data := #[] }, .string { data := #[] }, .string { data := #[] }, .int .i64 0, .int .i64 0, .string { data := #[] }, .string { data := #[] }, .bool false] 38)).setRow w3.heap.size #[.int .i64 3, .int .i64 0, .bool false, .int .i64 0, .int .i64 0, .int .i64 0, .int .i64 0, .bool false, .bool false, .int .i64 0, .int .i64 0, .string { data := #[] }, .int .i64 0, .int .i64 0, .string { data := #[] }, .string { data := #[] }, .string { data := #[] }, .int .i64 0, .int .i64 0, .string { data := #[] }, .string { data := #[] }, .bool false]) = W5 at K5 H5 HB5 HW5 ⊢
  have e1 : overA #[.int .i64 3, .int .i64 0, .bool false, .int .i64 0, .int .i64 0, .int .i64 0, .int .i64 0, .bool false, .bool false, .int .i64 0, .int .i64 0, .string { data := #[] }, .int .i64 0, .int .i64 0, .string { data := #[] }, .string { data := #[] }, .string { data := #[] }, .int .i64 0, .int .i64 0, .string { data := #[] }, .string { data := #[] }, .bool false] 1 (#[.int .i64 0, .bool false, .int .i64 0, .int .i64 (V : Int), .int .i64 (V : Int), .int .i64 0, .bool true, .bool false] : Array Value).toList = (pl01 V).V := rfl
  have K6 := K5.out.row (pl01 V).V
  have HB6 := Lib.hid (below_setRow HB5.out hw3 (pl01 V).V)
  have H6 := Lib.hid (H3.out.below (below_setRow (B := w3.heap.size) (w := w3) (w' := W5) HW5.out (Nat.le_refl _) (pl01 V).V))
  have K6' := Lib.hid K6
  have HE1 := Lib.hid e1
  clear K6 e1
  go_upto_region 7 with (first
    | (refine wpList_store_blk rfl 32 (.tmp 42) (.tmp 41) rfl w3.heap.size 1 #[.int .i64 0, .bool false, .int .i64 0, .int .i64 (V : Int), .int .i64 (V : Int), .int .i64 0, .bool true, .bool false] rfl rfl 38 #[.int .i64 3, .int .i64 0, .bool false, .int .i64 0, .int .i64 0, .int .i64 0, .int .i64 0, .bool false, .bool false, .int .i64 0, .int .i64 0, .string { data := #[] }, .int .i64 0, .int .i64 0, .string { data := #[] }, .string { data := #[] }, .string { data := #[] }, .int .i64 0, .int .i64 0, .string { data := #[] }, .string { data := #[] }, .bool false] K5.out (by rw [size32]; rfl) (by show 1 + 8 ≤ 22; omega) (by simp [Value.oneCell']) ?_; rw [HE1.out])
    | fail)
  generalize (W5.setRow w3.heap.size (pl01 V).V) = W6 at K6' HB6 H6 ⊢
  clear K5 H5 HB5 HW5 HE1
  go_wp2_with fail
  refine (Hsum.out _).mono ?_
  rintro _ w7 ⟨rfl, hB⟩
  have HB7 := Lib.hid (HB6.out.trans (hB.mono HB6.out.size))
  have H7 := Lib.hid (H6.out.below hB)
  have K7 := K6'.out.below hB
  clear hB
  have e2 : overA (pl01 V).V 9 (manC ⟨V, s.length, shaL s⟩).toArray.toList = (pl02 V s).V := (pl01 V).set_m false ⟨V, s.length, shaL s⟩
  have e3 : (pl02 V s).V.setIfInBounds 15 (.string (bs s)) = (pl0 V s).V := (pl02 V s).set_i false s
  have K8 := K7.row (pl02 V s).V
  have k15 : (w7.setRow w3.heap.size (pl02 V s).V).cell? ⟨w3.heap.size, 15, none⟩ = some (.string (bs ((pl02 V s).im false))) := by rw [K8.cell]; exact (pl02 V s).ci false
  have f15 := K8.free 15
  have K9 := K8.set 15 (.string (bs s))
  rw [e3] at K9
  have hm9 : Mut (only w3.heap.size) w7 ((w7.setRow w3.heap.size (pl02 V s).V).setCell ⟨w3.heap.size, 15, none⟩ (.string (bs s))) := (Mut.rowAt w7 w3.heap.size (pl02 V s).V).set (p := ⟨w3.heap.size, 15, none⟩) rfl (.string (bs s))
  have H9 := Lib.hid (H7.out.mut1 hm9 K7 (by omega) (by omega))
  have HB9 := Lib.hid ((below_setRow HB7.out hw3 (pl02 V s).V).setCell (p := ⟨w3.heap.size, 15, none⟩) hw3 (.string (bs s)))
  have HK7 := Lib.hid K7
  have HK9 := Lib.hid K9
  have HE2 := Lib.hid e2
  clear e2 e3 K7 K8 K9 hm9
  go_upto_region 8 with (first
    | (refine wpList_store_blk rfl 34 (.tmp 51) (.tmp 48) rfl w3.heap.size 9 (manC ⟨V, s.length, shaL s⟩).toArray rfl rfl 38 (pl01 V).V HK7.out (manC_i _) (by rw [Pl.n]; show 9 + 3 ≤ 22; omega) (manC_o _) ?_; rw [HE2.out])
    | fail)
  generalize ((w7.setRow w3.heap.size (pl02 V s).V).setCell ⟨w3.heap.size, 15, none⟩ (.string (bs s))) = W9 at H9 HB9 HK9 ⊢
  clear K6' HB6 H6 HB7 H7 HK7 HE2 k15 f15
  go_wp2_with fail
  go_loopg [13] (c.length + 1) (fun g' v13 wx => ∃ (i : Nat) (P : Pl) (x : US), i + g' = c.length + 1 ∧ i ≤ c.length ∧ v13 = .int .i64 (i : Int) ∧ Blk wx w3.heap.size P.V 38 ∧ UsAt wx u a x ∧ Rl P x ∧ x.Inv ∧ x.pg = 3 ∧ Below w1.heap.size w1 wx)
  case atStart => exact ⟨0, pl0 V s, _, by omega, Nat.zero_le _, rfl, HK9.out, H9.out, HR0.out, HI0.out, rfl, HB9.out⟩
  case round =>
    obtain ⟨i, P, x, hg, hi, rfl, hK, hU, hR, hI, h3, hB⟩ := hrel
    have K := Lib.hid hK
    have HU := Lib.hid hU
    have HR := Lib.hid hR
    have HI := Lib.hid hI
    have H3 := Lib.hid h3
    have HB := Lib.hid hB
    have HG := Lib.hid (And.intro hg hi)
    clear hK hU hR hI h3 hB HR0 HI0
    by_cases hin : i < c.length ∧ i < 25
    · have d1 : decide ((i : Int) < (c.length : Int)) = true := decide_eq_true (by omega)
      have d2 : decide ((i : Int) < 25) = true := decide_eq_true (by omega)
      obtain ⟨ad, rfl, c0, c1, c2⟩ := at_ac (Kd.C_below HC.out HB.out) (i : Int) (by omega) (by omega)
      have hii : (i : Int) < (c.length : Int) := by omega
      clear hg hi
      obtain ⟨tl, htl⟩ : ∃ tl, tl = (acA c i).t.data.toList := ⟨_, rfl⟩
      have e0 : (acA c ((i : Int)).toNat).t = bs tl := by rw [htl, bs_of]; rfl
      rw [e0] at c2
      rw [Int.toNat_natCast] at c0 c1 c2
      obtain ⟨kd, hkd⟩ : ∃ kd, kd = (acA c i).k := ⟨_, rfl⟩
      obtain ⟨nn, hnn⟩ : ∃ nn, nn = (acA c i).n := ⟨_, rfl⟩
      rw [← hkd] at c0
      rw [← hnn] at c1
      obtain ⟨ti, hti⟩ : ∃ ti, ti = tl.take 400 := ⟨_, rfl⟩
      have hts := bs_size tl
      obtain ⟨E, hE⟩ : ∃ E : Nat, E = min tl.length 400 := ⟨_, rfl⟩
      have hmin : min (tl.length : Int) 400 = (E : Int) := by omega
      have hx : (bs tl).extract 0 E = bs ti := by
        rw [bs_extract, List.drop_zero, hti, hE]
        congr 1
        rcases Nat.le_total tl.length 400 with h | h
        · rw [Nat.min_eq_left h, List.take_of_length_le (Nat.le_refl _), List.take_of_length_le h]
        · rw [Nat.min_eq_right h]
      have hE1 : (E : Int) ≤ (tl.length : Int) := by omega
      have htil : ti.length ≤ 400 := by rw [hti, List.length_take]; omega
      have Hti := Lib.hid htil
      have HI25 := Lib.hid hin
      clear hkd hnn hti hE e0 htl htil hin
      have c0' := fun o => (((Below.refl wr.heap.size wr).alloc (Nat.le_refl _) o).cell (World.block_lt_of_cell? wr _ c0)).trans c0
      have c1' := fun o => (((Below.refl wr.heap.size wr).alloc (Nat.le_refl _) o).cell (World.block_lt_of_cell? wr _ c1)).trans c1
      have c2' := fun o => (((Below.refl wr.heap.size wr).alloc (Nat.le_refl _) o).cell (World.block_lt_of_cell? wr _ c2)).trans c2
      go_upto_region 11 with fail
      go_region
      have hb11 : Below wr.heap.size wr (wr.alloc (.cells #[.int .i64 kd, .int .i64 nn, .string (bs ti)] 41)).drew := below_drewN ((Below.refl _ _).alloc (Nat.le_refl _) _) 1
      have A11 := Lib.hid (show Blk (wr.alloc (.cells #[.int .i64 kd, .int .i64 nn, .string (bs ti)] 41)).drew wr.heap.size #[.int .i64 kd, .int .i64 nn, .string (bs ti)] 41 from Blk.new wr _ 41)
      have K11 := Lib.hid (K.out.below hb11)
      have HU11 := Lib.hid (HU.out.below hb11)
      have HB11 := Lib.hid (HB.out.trans (hb11.mono HB.out.size))
      have hgr := K.out.lt
      clear hb11 c0 c1 c2 c0' c1' c2' hmin hx hE1 hts d1 d2 hii
      generalize (wr.alloc (.cells #[.int .i64 kd, .int .i64 nn, .string (bs ti)] 41)).drew = W11 at A11 K11 HU11 HB11 ⊢
      have m0 : W11.cell? ⟨wr.heap.size, 0, none⟩ = some (.int .i64 kd) := A11.out.cell 0
      have m1 : W11.cell? ⟨wr.heap.size, 1, none⟩ = some (.int .i64 nn) := A11.out.cell 1
      have m2 : W11.cell? ⟨wr.heap.size, 2, none⟩ = some (.string (bs ti)) := A11.out.cell 2
      go_wp2_with (first
        | (refine wpList_load_row rfl 38 (.tmp 12) rfl w3.heap.size rfl 38 P.V (0, 0) _ K11.out Tryz.underlying38 rfl P.i ?_)
        | fail)
      clear m0 m1 m2
      refine (act_any HR.out HI.out H3.out HU11.out kd nn ti Hti.out).mono ?_
      rintro _ w13 ⟨P', x', cc, rfl, hR', hI', hpg', hU', hm⟩
      have hs13 := hm.size
      have HU13 := Lib.hid hU'
      have K13 := Lib.hid (K11.out.kept hm (fun e => by have : w3.heap.size = a := e; omega))
      have HB13 := Lib.hid (hm.over HB11.out ha)
      have HR' := Lib.hid hR'
      have HI' := Lib.hid hI'
      have H3' := Lib.hid hpg'
      clear hU' hm hR' hI' hpg'
      have hg13 := K13.out.lt
      have hba : Below w13.heap.size w13 (w13.alloc (.cells #[.int .i64 0, .int .i64 0, .bool false, .int .i64 0, .int .i64 0, .int .i64 0, .int .i64 0, .bool false, .bool false, .int .i64 0, .int .i64 0, .string { data := #[] }, .int .i64 0, .int .i64 0, .string { data := #[] }, .string { data := #[] }, .string { data := #[] }, .int .i64 0, .int .i64 0, .string { data := #[] }, .string { data := #[] }, .bool false] 38)) := (Below.refl _ _).alloc (Nat.le_refl _) _
      have K14 := Lib.hid (show Blk (w13.alloc (.cells #[.int .i64 0, .int .i64 0, .bool false, .int .i64 0, .int .i64 0, .int .i64 0, .int .i64 0, .bool false, .bool false, .int .i64 0, .int .i64 0, .string { data := #[] }, .int .i64 0, .int .i64 0, .string { data := #[] }, .string { data := #[] }, .string { data := #[] }, .int .i64 0, .int .i64 0, .string { data := #[] }, .string { data := #[] }, .bool false] 38)) w13.heap.size zero22 38 from Blk.new w13 zero22 38)
      have hb14 : Below w13.heap.size w13 ((w13.alloc (.cells #[.int .i64 0, .int .i64 0, .bool false, .int .i64 0, .int .i64 0, .int .i64 0, .int .i64 0, .bool false, .bool false, .int .i64 0, .int .i64 0, .string { data := #[] }, .int .i64 0, .int .i64 0, .string { data := #[] }, .string { data := #[] }, .string { data := #[] }, .int .i64 0, .int .i64 0, .string { data := #[] }, .string { data := #[] }, .bool false] 38)).setRow w13.heap.size P'.V) := below_setRow hba (Nat.le_refl _) _
      have K15 := Lib.hid (K14.out.row P'.V)
      have K16 := Lib.hid (K13.out.below hb14)
      have HU14 := Lib.hid (HU13.out.below hb14)
      have HB14 := Lib.hid (HB13.out.trans (hb14.mono HB13.out.size))
      have hcc : (cc != cc) = false := by simp
      clear hba hb14
      go_upto_region 15 with (first
        | (refine wpList_store_row rfl 38 (.tmp 15) (.tmp 93) rfl w13.heap.size P'.V rfl rfl 38 zero22 K14.out P'.i (by rw [P'.n]; rfl) P'.o ?_)
        | fail)
      clear K14
      generalize ((w13.alloc (.cells #[.int .i64 0, .int .i64 0, .bool false, .int .i64 0, .int .i64 0, .int .i64 0, .int .i64 0, .bool false, .bool false, .int .i64 0, .int .i64 0, .string { data := #[] }, .int .i64 0, .int .i64 0, .string { data := #[] }, .string { data := #[] }, .string { data := #[] }, .int .i64 0, .int .i64 0, .string { data := #[] }, .string { data := #[] }, .bool false] 38)).setRow w13.heap.size P'.V) = W14 at K15 K16 HU14 HB14 ⊢
      have HU15 := Lib.hid (HU14.out.mut1 (Mut.rowAt W14 w3.heap.size P'.V) K16.out (by omega) (by omega))
      have HB15 := Lib.hid (below_setRow HB14.out hw3 P'.V)
      have K17 := Lib.hid (K16.out.row P'.V)
      go_upto_region 16 with (first
        | (refine wpList_load_row rfl 38 (.tmp 15) rfl w13.heap.size rfl 38 P'.V (0, 0) _ K15.out Tryz.underlying38 rfl P'.i ?_)
        | (refine wpList_store_row rfl 38 (.tmp 12) (.tmp 99) rfl w3.heap.size P'.V rfl rfl 38 P.V K16.out P'.i (by rw [P'.n, P.n]) P'.o ?_)
        | fail)
      generalize (W14.setRow w3.heap.size P'.V) = W15 at HU15 HB15 K17 ⊢
      clear K15 K16 HU14 HB14
      go_wp2_with (first
        | (refine wpList_load_row rfl 38 (.tmp 12) rfl w3.heap.size rfl 38 P'.V (0, 0) _ K17.out Tryz.underlying38 rfl P'.i ?_)
        | fail)
      refine (same_any HR'.out HI'.out H3'.out HU15.out).mono ?_
      rintro _ w16 ⟨rfl, hB⟩
      have HU16 := Lib.hid (HU15.out.below hB)
      have HB16 := Lib.hid (HB15.out.trans (hB.mono HB15.out.size))
      have K18 := Lib.hid (K17.out.below hB)
      clear hB
      have hi25 : (i : Int) ≤ 9223372036854775000 := by have := HI25.out; omega
      go_wp2_with fail
      go_roundg (c.length - i)
      case measure => have := HG.out; omega
      case rel => exact ⟨i + 1, P', x', by have := HG.out; have := HI25.out; omega, by have := HI25.out; omega, rfl, K18.out, HU16.out, HR'.out, HI'.out, H3'.out, HB16.out⟩
    · have hd : decide ((i : Int) < (c.length : Int)) = false ∨ (decide ((i : Int) < (c.length : Int)) = true ∧ decide ((i : Int) < 25) = false) := by
        by_cases h1 : i < c.length
        · exact .inr ⟨decide_eq_true (by omega), decide_eq_false (by omega)⟩
        · exact .inl (decide_eq_false (by omega))
      rcases hd with d1 | ⟨d1, d2⟩
      all_goals
        go_wp2_with fail
        all_goals
          go_ret
          exact ⟨rfl, HB.out⟩
theorem uplays_any (v : Int) (l : List UInt8) (hl : l.length < 9223372036854775807) (c : List Ac) (hcl : c.length ≤ 9223372036854775807) (A : Option Addr) (cap : Nat) (w : World) (hC : Kd.C acK w A c.length c) :
    Calls Tryz.prog 3 #[.int .i64 v, .string (bs l), .slice A c.length cap] w fun e w' => e = .returned (.bool true) ∧ Below w.heap.size w w' := by
  have hq : bits .and .i64 v 7 = v % 8 := and_powD 3 (by decide) 7 v rfl
  exact uplays_walk v (1 + (v % 8).toNat) (by rw [hq]; omega) (by omega) l _ hl rfl c hcl A cap w hC
end Go.Proofs.YticnmogeknlmeaaGreatDoor.B
