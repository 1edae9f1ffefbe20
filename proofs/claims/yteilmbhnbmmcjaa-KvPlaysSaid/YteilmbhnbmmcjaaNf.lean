/- Helper: what a key has, in a store that says a row of pairs; acts that come in; walked. No condition. -/
import Derived.Test.YteilmbhnbmmcjaaNd
import Derived.Test.YteilmbhnbmmcjaaNe
namespace Go.Proofs.Yteilmbhnbmmcjaa.B
open Go.RowKit Go.Proofs.YteilmbhnbmmcjaaW.PrintWords Go.Proofs.Yteilmbhnbmmcjaa.Later
set_option maxRecDepth 100000
set_option maxHeartbeats 3200000
theorem isAt_ex : ∀ {l : List Pr} (_ : St l) (key : List UInt8), ∃ n, IsAt l key n
  | [], _, key => ⟨0, by simp, fun i h => by omega, fun i _ h => by simp at h⟩
  | y :: t, h, key => by
    have p1 := List.pairwise_cons.1 h
    by_cases hy : kLt y.k key = true
    · obtain ⟨n, h1, h2, h3⟩ := isAt_ex p1.2 key
      refine ⟨n + 1, by simp; omega, fun i hi => ?_, fun i hi hl => ?_⟩
      · rcases i with _ | i
        · exact hy
        · exact h2 i (by omega)
      · rcases i with _ | i
        · omega
        · exact h3 i (by omega) (by simpa using hl)
    · have hy' : kLt y.k key = false := by simpa using hy
      refine ⟨0, by omega, fun i hi => by omega, fun i _ hl => ?_⟩
      rcases i with _ | i
      · exact hy'
      · have hl' : i < t.length := by simpa using hl
        have hm : prA t i ∈ t := by rw [prA_get t i hl']; exact List.getElem_mem _
        have h4 := p1.1 _ hm
        show kLt (prA t i).k key = false
        cases h5 : kLt (prA t i).k key with
        | false => rfl
        | true => have := kLt_trans _ _ _ h4 h5; rw [this] at hy'; cases hy'
theorem hasKey_mem {l : List Pr} {x : Pr} {n : Nat} (hs : St l) (hx : x ∈ l) (hat : IsAt l x.k n) : hasKey l x.k n = true ∧ prA l n = x := by
  obtain ⟨i, hi, rfl⟩ := prA_mem hx
  have hr := rises_of_st hs
  have e : n = i := by
    rcases Nat.lt_trichotomy n i with h | h | h
    · have h1 := hr n i h hi
      rw [hat.2.2 n (Nat.le_refl _) (by omega)] at h1; cases h1
    · exact h
    · have h1 := hat.2.1 i h
      rw [kLt_irr] at h1; cases h1
  subst e
  exact ⟨by simp [hasKey, hi], rfl⟩
theorem hasKey_not {l : List Pr} {key : List UInt8} {n : Nat} (h : ∀ x ∈ l, x.k ≠ key) : hasKey l key n = false := by
  cases hh : hasKey l key n with
  | false => rfl
  | true =>
    simp [hasKey] at hh
    exact absurd hh.2 (h _ (by rw [prA_get l n hh.1]; exact List.getElem_mem _))
/-- What a key has: its value, or that there is none. -/
def GetQ (m : List Pr) (key : List UInt8) (s : List UInt8) (z : Int) : Prop := (∀ x ∈ m, x.k = key → s = x.v ∧ z = 0) ∧ ((∀ x ∈ m, x.k ≠ key) → z = 181)
theorem kget_any (a g : Nat) (pg : Nat → Option (List UInt8)) (m : List Pr) (hS : Says pg m) (w : World) (hD : KvDev w a pg) (hg : Blk w g (stC a) 113) (key : List UInt8) (hk : goodK key [] = true) :
    Calls Try.prog 36 #[.pointer (some ⟨g, 0, none⟩), .string (bs key)] w fun e w' => ∃ s z, e = .returned (.tuple #[.string (bs s), .int .i64 z]) ∧ GetQ m key s z ∧ Below w.heap.size w w' := by
  have hkl : key.length ≤ 16 := ((goodK_iff _ _).1 hk).2.1
  obtain ⟨n, hat⟩ := isAt_ex (st_fl hS.st (bucket key)) key
  have hload := hS.load (bucket key) (bucket_lt key)
  by_cases hh : hasKey (fl (bucket key) m) key n = true
  · have hlen : (fl (bucket key) m).length ≤ 10000 := by
      have := says_len hS hD.choose_spec.choose_spec.2.2.1
      have : (fl (bucket key) m).length ≤ m.length := List.length_filter_le _ _
      omega
    refine (kget_got a g pg w hD hg key hk (by omega) _ hload (rises_of_st (st_fl hS.st _)) hlen n hat hh).mono ?_
    rintro e w' ⟨rfl, hb⟩
    refine ⟨_, _, rfl, ⟨fun x hx e => ?_, fun hno => ?_⟩, hb⟩
    · subst e
      have hx2 : x ∈ fl (bucket x.k) m := (mem_fl _ _ _).2 ⟨hx, rfl⟩
      rw [(hasKey_mem (st_fl hS.st _) hx2 hat).2]
      exact ⟨rfl, rfl⟩
    · have := hasKey_not (l := fl (bucket key) m) (key := key) (n := n) (fun x hx => hno x ((mem_fl _ _ _).1 hx).1)
      rw [this] at hh; cases hh
  · have hh' : hasKey (fl (bucket key) m) key n = false := by simpa using hh
    have hnone : ∀ x ∈ m, x.k ≠ key := fun x hx e => by
      subst e
      have hx2 : x ∈ fl (bucket x.k) m := (mem_fl _ _ _).2 ⟨hx, rfl⟩
      rw [(hasKey_mem (st_fl hS.st _) hx2 hat).1] at hh'; cases hh'
    have hlen : (fl (bucket key) m).length ≤ 10000 := by
      have := says_len hS hD.choose_spec.choose_spec.2.2.1
      have : (fl (bucket key) m).length ≤ m.length := List.length_filter_le _ _
      omega
    have hq := nilEq55 g
    have hgk := good_any key [] (by omega) (by simp)
    rw [hk] at hgk
    have hbk := bucket_any key (by omega)
    have hbl := bucket_lt key
    have hr := rises_of_st (st_fl hS.st (bucket key))
    obtain ⟨F, many, hF, hFp, hlen2, hM⟩ := hD
    have hpb : pgB pg (mkM (LT 5 4 F false) none many).see := fun k hk => ⟨(page_LT5 F false k).trans (hFp k hk), hlen2 k hk⟩
    have hld := fun W (hW : Below w.heap.size w W) => load_any _ a g pg hpb (bucket key) hbl W (hM.below hW) (hg.below hW)
    rw [hload] at hld
    obtain ⟨L, hL⟩ : ∃ L, L = fl (bucket key) m := ⟨_, rfl⟩
    rw [← hL] at hld hr hat hh' hlen
    obtain ⟨B, hB⟩ : ∃ B, B = bucket key := ⟨_, rfl⟩
    rw [← hB] at hbk hld
    have Hgk := Lib.hid hgk
    have Hbk := Lib.hid hbk
    have Hld := Lib.hid hld
    have Hat := Lib.hid hat
    have Hh := Lib.hid hh'
    have Hno := Lib.hid hnone
    clear hgk hbk hld hM hg hF hFp hlen2 hpb hB hk hat hh' hh hload hL hnone hS
    go_enter Try.func36, Try.ntmps36
    go_wp2_with fail
    refine (Hgk.out w).mono ?_
    rintro e w1 ⟨rfl, hb1⟩
    have HB1 := Lib.hid hb1
    clear hb1
    go_wp2_with fail
    refine (Hbk.out w1).mono ?_
    rintro e w2 ⟨rfl, rfl⟩
    go_wp2_with fail
    refine (Hld.out w1 HB1.out).mono ?_
    rintro e w3 ⟨⟨v, rfl, h1, h2⟩, hb3⟩
    obtain ⟨A, c, rfl, hlc, hC⟩ := Kd.R_reads (h1 rfl)
    have HB3 := Lib.hid (HB1.out.trans (hb3.mono HB1.out.size))
    have hfd := find_any L hr hlen key A c w3 hC
    have Hfd := Lib.hid hfd
    clear h1 h2 hb3 hC hfd
    go_wp2_with fail
    refine Hfd.out.mono ?_
    rintro e w4 ⟨⟨j, rfl, hat2⟩, hb4⟩
    obtain rfl := hat2.uniq Hat.out
    rw [Hh.out]
    have HB4 := Lib.hid (HB3.out.trans (hb4.mono HB3.out.size))
    clear hb4 hat2
    go_wp2
    go_ret2
    exact ⟨[], 181, rfl, ⟨fun x hx e => absurd e (Hno.out x hx), fun _ => rfl⟩, HB4.out⟩
/-- An act that comes in. -/
structure Ac where
  k : Int
  l : List Pr
instance : Inhabited Ac := ⟨⟨0, []⟩⟩
def acK : Kd Ac := Kd.iso (Kd.pair (Kd.int .i64) (Kd.slice 63 prK)) (fun x => (x.k, x.l))
theorem acK_open {w : World} {x : Ac} {cs : List Value} (h : acK.K w x cs) : ∃ A c, cs = [.int .i64 x.k, .slice A x.l.length c] ∧ x.l.length ≤ c ∧ Kd.C prK w A x.l.length x.l := by
  obtain ⟨_, _, rfl, rfl, A, c, rfl, hl, hC⟩ := h
  exact ⟨A, c, rfl, hl, hC⟩
def acA (l : List Ac) (i : Nat) : Ac := l.getD i default
theorem acA_get (l : List Ac) (i : Nat) (h : i < l.length) : acA l i = l[i] := by simp [acA, List.getD_eq_getElem?_getD, List.getElem?_eq_getElem h]
theorem at_ac {w : World} {A : Option Addr} {n : Nat} {xs : List Ac} (h : Kd.C acK w A n xs) (i : Int) (h0 : 0 ≤ i) (h1 : i < n) :
    ∃ ad, A = some ad ∧ w.cell? (ad.add (i.toNat * 2)) = some (.int .i64 (acA xs i.toNat).k) ∧ ∃ B c, (acA xs i.toNat).l.length ≤ c ∧ w.cell? ⟨(ad.add (i.toNat * 2)).block, (ad.add (i.toNat * 2)).off + 1, none⟩ = some (.slice B (acA xs i.toNat).l.length c) ∧ Kd.C prK w B (acA xs i.toNat).l.length (acA xs i.toNat).l := by
  obtain ⟨ad, c, e, _, hK, hc0⟩ := Kd.C_get h default i h0 h1
  have hc : ∀ j u, c[j]? = some u → w.cell? (ad.add (i.toNat * 2 + j)) = some u := hc0
  obtain ⟨B, cc, rfl, hl, hC⟩ := acK_open hK
  exact ⟨ad, e, hc 0 _ rfl, B, cc, hl, by rw [← add_field _ _ 1 (by omega)]; exact hc 1 _ rfl, hC⟩
end Go.Proofs.Yteilmbhnbmmcjaa.B
