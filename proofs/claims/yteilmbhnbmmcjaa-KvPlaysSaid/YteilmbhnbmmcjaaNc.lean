/- Helper: pairs set, or let go, in a store; walked. No condition. -/
import Derived.Test.YteilmbhnbmmcjaaKz
import Derived.Test.YteilmbhnbmmcjaaNa
namespace Go.Proofs.Yteilmbhnbmmcjaa.B
open Go.RowKit Go.Proofs.YteilmbhnbmmcjaaW.PrintWords Go.Proofs.Yteilmbhnbmmcjaa.Later
set_option maxRecDepth 100000
set_option maxHeartbeats 3200000
/-- All may be. -/
def AllGood (m : List Pr) : Prop := ∀ x ∈ m, goodK x.k x.v = true
theorem goodK_iff (k v : List UInt8) : goodK k v = true ↔ k ≠ [] ∧ k.length ≤ 16 ∧ v.length ≤ 30 := by
  simp [goodK, Bool.and_eq_true, and_assoc]
theorem fit_fl {m : List Pr} (h : AllGood m) (k : Nat) : ∀ x ∈ fl k m, Fit k x := fun x hx => by
  obtain ⟨h1, h2⟩ := (mem_fl k m x).1 hx
  obtain ⟨a, b, c⟩ := (goodK_iff _ _).1 (h x h1)
  exact ⟨a, h2, b, c⟩
theorem small_of_good {x : Pr} (h : goodK x.k x.v = true) : x.small := by
  obtain ⟨_, b, c⟩ := (goodK_iff _ _).1 h
  exact ⟨by omega, by omega⟩
theorem load_fl {m : List Pr} (hs : St m) (h : AllGood m) (k : Nat) : loadP (some (prsB (fl k m))) k = (0, fl k m) := loadP_round k _ (fit_fl h k) (rises_of_st (st_fl hs k))
theorem prsB_inj {m m' : List Pr} (hs : St m) (h : AllGood m) (hs' : St m') (h' : AllGood m') {k : Nat} (e : prsB (fl k m) = prsB (fl k m')) : fl k m = fl k m' := by
  have h1 := load_fl hs h k
  rw [e, load_fl hs' h' k] at h1
  exact (congrArg Prod.snd h1).symm
/-- What a store has: its pages say it. -/
structure Says (pg : Nat → Option (List UInt8)) (m : List Pr) : Prop where
  st : St m
  good : AllGood m
  load : ∀ k, k < 4 → loadP (pg k) k = (0, fl k m)
theorem Says.next {pg : Nat → Option (List UInt8)} {m m' : List Pr} (h : Says pg m) (hs : St m') (hg : AllGood m') : Says (pgN pg (fun k => fl k m) (fun k => fl k m')) m' := by
  refine ⟨hs, hg, fun k hk => ?_⟩
  unfold pgN
  split
  · rename_i e
    rw [h.load k hk, prsB_inj h.st h.good hs hg e.symm]
  · exact load_fl hs hg k
theorem Says.none : Says (fun _ => none) [] := ⟨List.Pairwise.nil, fun _ h => absurd h List.not_mem_nil, fun _ _ => rfl⟩
theorem says_len {pg : Nat → Option (List UInt8)} {m : List Pr} (h : Says pg m) (hp : ∀ k, k < 4 → ∀ s, pg k = some s → s.length ≤ 64) : m.length ≤ 260 := by
  have h1 := fun k hk => loadP_len (pg k) k (hp k hk)
  have h2 := (flat_perm m).length_eq
  simp only [List.length_append] at h2
  have e := fun k hk => congrArg (fun x : Int × List Pr => x.2.length) (h.load k hk)
  simp only at e
  have a0 := h1 0 (by omega)
  have a1 := h1 1 (by omega)
  have a2 := h1 2 (by omega)
  have a3 := h1 3 (by omega)
  rw [e 0 (by omega)] at a0
  rw [e 1 (by omega)] at a1
  rw [e 2 (by omega)] at a2
  rw [e 3 (by omega)] at a3
  omega
/-- What is bad of a pair. -/
def badP (x : Pr) : Bool := !goodK x.k x.v
theorem good_of_any {p : List Pr} (h : p.any badP = false) : AllGood p := fun x hx => by
  have := List.any_eq_false.1 h x hx
  simpa [badP] using this
theorem foldA_good {b : Bool} {m p : List Pr} (hs : St m) (hm : AllGood m) (hp : p.any badP = false) (n : Nat) (hn : n ≤ p.length) : AllGood (foldA b m p n) :=
  foldA_all hs hm (fun _ => good_of_any hp) n hn
/-- What comes of a change. -/
def ChgQ (b : Bool) (m p : List Pr) (pg : Nat → Option (List UInt8)) (a : Nat) (w : World) (z : Int) (w2 : World) : Prop :=
  (p.any badP = true ∧ z = 1 ∧ Below w.heap.size w w2) ∨
  (p.any badP = false ∧ (∃ k, k < 4 ∧ 64 < (prsB (fl k (foldA b m p p.length))).length) ∧ z = 172 ∧ Below w.heap.size w w2) ∨
  (p.any badP = false ∧ (∀ k, k < 4 → (prsB (fl k (foldA b m p p.length))).length ≤ 64) ∧ z = 0 ∧ KvDev w2 a (pgN pg (fun k => fl k m) (fun k => fl k (foldA b m p p.length))) ∧ Mut (only a) w w2)
theorem kchg_any (b : Bool) (a g : Nat) (pg : Nat → Option (List UInt8)) (m : List Pr) (hS : Says pg m) (w : World) (hD : KvDev w a pg) (hg : Blk w g (stC a) 113) (p : List Pr) (hpn : p.length ≤ 1000) (hpf : ∀ x ∈ p, Fine x) (A : Option Addr) (c : Nat) (hC : Kd.C prK w A p.length p) :
    Calls Try.prog 61 #[.pointer (some ⟨g, 0, none⟩), .slice A p.length c, .func (.func (actF b)) #[] #[]] w fun e w2 => ∃ z, e = .returned (.int .i64 z) ∧ ChgQ b m p pg a w z w2 := by
  have hD0 := hD
  obtain ⟨F, many, hF, hFp, hlen, hM⟩ := hD
  have hml := says_len hS hlen
  have hpb : pgB pg (mkM (LT 5 4 F false) none many).see := fun k hk => ⟨(page_LT5 F false k).trans (hFp k hk), hlen k hk⟩
  have hPM : ∀ n, PM (fun k => fl k m) (act1 b) p n = fun k => fl k (foldA b m p n) := fun n => funext (fun k => PM_fold hS.st p n k)
  have hlens : ∀ n, n ≤ p.length → ∀ k, (fl k (foldA b m p n)).length ≤ 10000 := fun n hn k => by
    have h1 := foldA_len b m p n
    have h2 : (fl k (foldA b m p n)).length ≤ (foldA b m p n).length := List.length_filter_le _ _
    omega
  refine change_any _ a g pg hpb (fun k => fl k m) (fun k hk => by rw [hS.load k hk]) p hpn hpf A c (actF b) (act_enter b) (act1 b) (ChgQ b m p pg a w) w hM hg hC ?_ ?_ ?_ ?_ ?_ ?_
  · intro h w' hb
    exact .inl ⟨h, rfl, hb⟩
  · intro _ k hk _ hne
    rw [hS.load k hk] at hne
    exact absurd rfl hne
  · intro hb n hn k hk _
    rw [hPM]
    exact ⟨fun x hx => small_of_good (foldA_good hS.st hS.good hb n hn x ((mem_fl _ _ _).1 hx).1), hlens n hn k⟩
  · intro hb _ n hn w1 v hw hv
    rw [hPM] at hv ⊢
    exact act_any b _ (hlens n (by omega) _) (rises_of_st (st_fl (st_foldA hS.st p n) _)) (prA p n) v w.heap.size w1 hw hv
  · intro hb _ hr w' hB
    rw [hPM] at hr
    exact .inr (.inl ⟨hb, hr, rfl, hB⟩)
  · intro hb _ hr w1 v hB h4
    rw [hPM] at hr h4
    refine (kwrite_ok a g pg (fun k => fl k m) (fun k => fl k (foldA b m p p.length)) v w.heap.size w1 (hD0.below hB) (hg.below hB) h4 (fun k hk => ⟨fun x hx => small_of_good (foldA_good hS.st hS.good hb p.length (Nat.le_refl _) x ((mem_fl _ _ _).1 hx).1), hlens _ (Nat.le_refl _) k, hr k hk⟩)).mono ?_
    rintro e w2 ⟨z, rfl, rfl, hd, hm⟩
    exact ⟨0, rfl, .inr (.inr ⟨hb, hr, rfl, hd, (Mut.of_below hB).trans hm⟩)⟩
theorem kset_any (a g : Nat) (pg : Nat → Option (List UInt8)) (m : List Pr) (hS : Says pg m) (w : World) (hD : KvDev w a pg) (hg : Blk w g (stC a) 113) (p : List Pr) (hpn : p.length ≤ 1000) (hpf : ∀ x ∈ p, Fine x) (A : Option Addr) (c : Nat) (hC : Kd.C prK w A p.length p) :
    Calls Try.prog 31 #[.pointer (some ⟨g, 0, none⟩), .slice A p.length c] w fun e w2 => ∃ z, e = .returned (.int .i64 z) ∧ ChgQ false m p pg a w z w2 := by
  have hch := kchg_any false a g pg m hS w hD hg p hpn hpf A c hC
  rw [show actF false = 62 from rfl] at hch
  have Hch := Lib.hid hch
  clear hS hD hg hpf hC hch
  go_enter Try.func31, Try.ntmps31
  go_wp2_with fail
  refine Hch.out.mono ?_
  rintro e w1 ⟨z, rfl, h⟩
  have H := Lib.hid h
  clear h
  go_wp2
  go_ret
  exact ⟨_, rfl, H.out⟩
/-- A row of strings by their bytes. -/
def sK : Kd (List UInt8) := Kd.iso Kd.string bs
theorem sK_open {w : World} {x : List UInt8} {cs : List Value} (h : sK.K w x cs) : cs = [.string (bs x)] := h
theorem sK_mkM (w : World) (base : Nat) (ok : Nat → Prop) (x : List UInt8) : sK.M w base ok x [.string (bs x)] := rfl
def sA (l : List (List UInt8)) (i : Nat) : List UInt8 := l.getD i []
theorem sA_get (l : List (List UInt8)) (i : Nat) (h : i < l.length) : sA l i = l[i] := by simp [sA, List.getD_eq_getElem?_getD, List.getElem?_eq_getElem h]
theorem at_s {w : World} {A : Option Addr} {n : Nat} {xs : List (List UInt8)} (h : Kd.C sK w A n xs) (i : Int) (h0 : 0 ≤ i) (h1 : i < n) :
    ∃ ad, A = some ad ∧ w.cell? (ad.add i.toNat) = some (.string (bs (sA xs i.toNat))) := by
  obtain ⟨ad, c, e, _, hK, hc0⟩ := Kd.C_get h [] i h0 h1
  have hc : ∀ j u, c[j]? = some u → w.cell? (ad.add (i.toNat * 1 + j)) = some u := hc0
  obtain rfl := sK_open hK
  exact ⟨ad, e, by have := hc 0 _ rfl; rwa [Nat.mul_one, Nat.add_zero] at this⟩
/-- Keys alone. -/
def keyP (k : List UInt8) : Pr := ⟨k, []⟩
def DropRel (ks : List (List UInt8)) (w : World) (v c : Value) (wr : World) : Prop :=
  ∃ i : Nat, i ≤ ks.length ∧ c = .int .i64 i ∧ prK.R 63 wr w.heap.size (fun _ => True) v ((ks.take i).map keyP) ∧ Below w.heap.size w wr
theorem kdrop_any (a g : Nat) (pg : Nat → Option (List UInt8)) (m : List Pr) (hS : Says pg m) (w : World) (hD : KvDev w a pg) (hg : Blk w g (stC a) 113) (ks : List (List UInt8)) (hn : ks.length ≤ 1000) (hks : ∀ k ∈ ks, k.length ≤ 9223372036854775807) (A : Option Addr) (c : Nat) (hC : Kd.C sK w A ks.length ks) :
    Calls Try.prog 35 #[.pointer (some ⟨g, 0, none⟩), .slice A ks.length c] w fun e w2 => ∃ z, e = .returned (.int .i64 z) ∧ ∃ w1, Below w.heap.size w w1 ∧ ChgQ true m (ks.map keyP) pg a w1 z w2 := by
  have HC := Lib.hid hC
  have Hks := Lib.hid hks
  have HS := Lib.hid hS
  have HD := Lib.hid hD
  have Hg := Lib.hid hg
  clear hC hks hS hD hg
  go_enter Try.func35, Try.ntmps35
  go_wp2
  go_loopw [5, 10] (fun v c wr => DropRel ks w v c wr) (fun _ c _ => ks.length - (intOf c).toNat)
  case atStart => exact ⟨0, by omega, rfl, Kd.R_nil _ _ _ _ _, Below.refl _ _⟩
  case round =>
    obtain ⟨i, hi, rfl, hR, hB⟩ := hrel
    obtain ⟨D, hD⟩ : ∃ D, D = (ks.take i).map keyP := ⟨_, rfl⟩
    rw [← hD] at hR
    have hDl : D.length = i := by rw [hD]; simp; omega
    obtain ⟨A1, c1, rfl⟩ := Kd.R_slice hR
    have HR := Lib.hid hR
    have HB := Lib.hid hB
    have HDd := Lib.hid hD
    clear hR hB hD
    by_cases hlt : i < ks.length
    · obtain ⟨ad, e, d0⟩ := at_s (Kd.C_below HC.out HB.out) (i : Int) (by omega) (by omega)
      cases e
      rw [Int.toNat_natCast] at d0
      have hst : (ks.take (i + 1)).map keyP = D ++ [keyP (sA ks i)] := by
        rw [HDd.out, List.take_succ_eq_append_getElem hlt, List.map_append, sA_get ks i hlt]; rfl
      obtain ⟨k, hk⟩ : ∃ k, k = sA ks i := ⟨_, rfl⟩
      rw [← hk] at d0 hst
      have Hst := Lib.hid hst
      have hkp : (⟨k, []⟩ : Pr) = keyP k := rfl
      clear hst hk
      go_wp2_with (first
        | (at_builtin; (refine Kd.R_append prK (w0 := w) w.heap.size rfl (.tmp 14) (.tmp 17) 58 63 _ 32 rfl Try.underlying58 info63 rfl (by decide) (by decide) (.slice A1 D.length c1) D (keyP k) [.string (bs k), .string (bs [])] (fun _ => True) (fun _ => False) rfl rfl (prK_mkM _ _ _ (keyP k)) (fun _ hk => hk.elim) (fun _ _ => trivial) HR.out HB.out ?s1 ?l1 ?_); (case s1 => exact HB.out.size); (case l1 => omega); intro v1 w4 hR4 hB4 hg4 hat4; have HR4 := Lib.hid hR4; have HB4 := Lib.hid hB4; clear hR4 hB4 hg4 hat4))
      go_roundw
      case rel => exact ⟨i + 1, by omega, by go_num, by rw [Hst.out]; exact HR4.out, HB4.out⟩
      case measure => simp [intOf]; omega
    · obtain rfl : i = ks.length := by omega
      have hfull : D = ks.map keyP := by rw [HDd.out, List.take_length]
      obtain ⟨A2, c2, e2, _, hC2⟩ := Kd.R_reads HR.out
      injection e2 with e3 _ e4
      subst e3 e4
      have hch := kchg_any true a g pg m HS.out wr (HD.out.below HB.out) (Hg.out.below HB.out) D (by omega) (fun x hx => by
        rw [hfull] at hx
        obtain ⟨k, hk, rfl⟩ := List.mem_map.1 hx
        exact ⟨Hks.out k hk, by simp [keyP]⟩) A1 c1 hC2
      rw [hDl, show actF true = 65 from rfl] at hch
      have Hch := Lib.hid hch
      have Hfl := Lib.hid hfull
      clear hch hC2 hfull
      go_wp2_with fail
      refine Hch.out.mono ?_
      rintro e w1 ⟨z, rfl, h⟩
      have H := Lib.hid h
      clear h
      go_wp2
      go_ret
      have h9 := H.out
      rw [Hfl.out] at h9
      exact ⟨_, rfl, wr, HB.out, h9⟩
end Go.Proofs.Yteilmbhnbmmcjaa.B
