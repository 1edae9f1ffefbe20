/- Helper: pages as they are written; what a key set, or let go, changes; plainly. No condition. -/
import Derived.Test.YteilmbhnbmmcjaaNj
namespace Go.Proofs.Yteilmbhnbmmcjaa.B
open Go.RowKit Go.Proofs.YteilmbhnbmmcjaaW.PrintWords Go.Proofs.Yteilmbhnbmmcjaa.Later
set_option maxRecDepth 100000
set_option maxHeartbeats 1600000
/-- Pages as they are written. -/
def Can (pg : Nat → Option (List UInt8)) (m : List Pr) : Prop := ∀ k, k < 4 → pg k = some (prsB (fl k m)) ∨ (pg k = none ∧ fl k m = [])
theorem prsB_nil {l : List Pr} (h : prsB l = []) : l = [] := by
  cases l with
  | nil => rfl
  | cons x l => rw [prsB_cons] at h; exact absurd h (textL_ne _ _)
theorem Can.next {pg : Nat → Option (List UInt8)} {m m' : List Pr} (h : Can pg m) : Can (pgN pg (fun k => fl k m) (fun k => fl k m')) m' := fun k hk => by
  unfold pgN
  by_cases e : prsB (fl k m') = prsB (fl k m)
  · rw [if_pos e]
    rcases h k hk with h1 | ⟨h1, h2⟩
    · left; rw [h1, e]
    · right
      refine ⟨h1, prsB_nil ?_⟩
      rw [e, h2]; rfl
  · rw [if_neg e]; left; rfl
theorem Can.fits {pg : Nat → Option (List UInt8)} {m : List Pr} (h : Can pg m) (hp : ∀ k, k < 4 → ∀ s, pg k = some s → s.length ≤ 64) : ∀ k, k < 4 → (prsB (fl k m)).length ≤ 64 := fun k hk => by
  rcases h k hk with h1 | ⟨_, h2⟩
  · exact hp k hk _ h1
  · rw [h2]; simp [prsB]
/-- What comes of a change, with its pages as they are written. -/
theorem chg_can {b : Bool} {m p : List Pr} {pg : Nat → Option (List UInt8)} {a : Nat} {w : World} {z : Int} {w2 : World} (hS : Says pg m) (hC : Can pg m) (hD : KvDev w a pg) (h : ChgQ b m p pg a w z w2) :
    ∃ m' pg', Says pg' m' ∧ Can pg' m' ∧ KvDev w2 a pg' ∧ Mut (only a) w w2 := by
  rcases h with ⟨h1, rfl, hb⟩ | ⟨h1, ⟨k, hk, h2⟩, rfl, hb⟩ | ⟨h1, h2, rfl, hd, hm⟩
  · exact ⟨m, pg, hS, hC, hD.below hb, Mut.of_below hb⟩
  · exact ⟨m, pg, hS, hC, hD.below hb, Mut.of_below hb⟩
  · exact ⟨_, _, hS.next (st_foldA hS.st p _) (foldA_good (b := b) hS.st hS.good h1 p.length (Nat.le_refl _)), hC.next, hd, hm⟩
theorem set1_same {m : List Pr} (hs : St m) {x : Pr} (hx : x ∈ m) : set1 m x = m := by
  refine St.ext (st_set1 hs x) hs (fun y => ?_)
  rw [mem_set1 hs]
  constructor
  · rintro (rfl | ⟨h, _⟩)
    · exact hx
    · exact h
  · intro hy
    by_cases e : y.k = x.k
    · left
      obtain ⟨i, hi, rfl⟩ := prA_mem hy
      obtain ⟨j, hj, rfl⟩ := prA_mem hx
      have hr := rises_of_st hs
      rcases Nat.lt_trichotomy i j with h | h | h
      · exact absurd e (kLt_ne (hr i j h hj))
      · rw [h]
      · exact absurd e.symm (kLt_ne (hr j i h hi))
    · exact .inr ⟨hy, e⟩
theorem fold_same {m p : List Pr} (hs : St m) (hp : ∀ x ∈ p, x ∈ m) : ∀ n, n ≤ p.length → foldA false m p n = m
  | 0, _ => rfl
  | n + 1, h => by
    show set1 (foldA false m p n) (prA p n) = m
    rw [fold_same hs hp n (by omega)]
    exact set1_same hs (hp _ (by rw [prA_get p n (by omega)]; exact List.getElem_mem _))
theorem fold_one (b : Bool) (m : List Pr) (x : Pr) : foldA b m [x] [x].length = act1 b m x := rfl
theorem pages_eq {m m' : List Pr} (hs : St m) (h : AllGood m) (hs' : St m') (h' : AllGood m') (e : ∀ k, k < 4 → prsB (fl k m') = prsB (fl k m)) : m' = m := by
  refine St.ext hs' hs (fun x => ?_)
  have hb := bucket_lt x.k
  have := prsB_inj hs' h' hs h (e _ hb)
  constructor
  · intro hx
    have h1 := (mem_fl (bucket x.k) m' x).2 ⟨hx, rfl⟩
    rw [this] at h1
    exact ((mem_fl _ _ _).1 h1).1
  · intro hx
    have h1 := (mem_fl (bucket x.k) m x).2 ⟨hx, rfl⟩
    rw [← this] at h1
    exact ((mem_fl _ _ _).1 h1).1
theorem pages_ne {m m' : List Pr} (hs : St m) (h : AllGood m) (hs' : St m') (h' : AllGood m') (hne : m' ≠ m) : ∃ k, k < 4 ∧ prsB (fl k m') ≠ prsB (fl k m) := by
  apply Classical.byContradiction
  intro hno
  exact hne (pages_eq hs h hs' h' (fun k hk => Classical.byContradiction (fun h2 => hno ⟨k, hk, h2⟩)))
/-- A change of a sealed store that changes nothing. -/
theorem sl_same {b : Bool} {m p : List Pr} {pg : Nat → Option (List UInt8)} {a : Nat} {w : World} {z : Int} {w2 : World} (hD : KvSl w a pg) (hC : Can pg m) (hp : p.any badP = false) (hm : foldA b m p p.length = m) (h : ChgS b m p pg a w z w2) :
    z = 0 ∧ KvSl w2 a pg ∧ Mut (only a) w w2 := by
  obtain ⟨F, many, _, _, hlen, _⟩ := hD
  rcases h with ⟨h1, _⟩ | ⟨_, ⟨k, hk, h2⟩, _⟩ | ⟨_, h1, _, h3, h4⟩
  · rw [hp] at h1; cases h1
  · rw [hm] at h2
    have := hC.fits hlen k hk
    omega
  · exact ⟨h1 (fun k _ => by rw [hm]), h3, h4⟩
/-- A change of a sealed store that would change something. -/
theorem sl_other {b : Bool} {m p : List Pr} {pg : Nat → Option (List UInt8)} {a : Nat} {w : World} {z : Int} {w2 : World} (hS : Says pg m) (hD : KvSl w a pg) (hp : p.any badP = false) (hm : foldA b m p p.length ≠ m) (h : ChgS b m p pg a w z w2) :
    (z = 170 ∨ z = 172) ∧ KvSl w2 a pg ∧ Mut (only a) w w2 := by
  have hN := foldA_good (b := b) hS.st hS.good hp p.length (Nat.le_refl _)
  rcases h with ⟨h1, _⟩ | ⟨_, _, rfl, hb⟩ | ⟨_, _, h2, h3, h4⟩
  · rw [hp] at h1; cases h1
  · exact ⟨.inr rfl, hD.below hb, Mut.of_below hb⟩
  · exact ⟨.inl (h2 (pages_ne hS.st hS.good (st_foldA hS.st p _) hN hm)), h3, h4⟩
theorem set1_other {m : List Pr} (hs : St m) {x : Pr} (hx : x ∉ m) : set1 m x ≠ m := fun e => hx (by rw [← e, mem_set1 hs]; exact .inl rfl)
theorem drop1_other {m : List Pr} {x y : Pr} (hy : y ∈ m) (e : y.k = x.k) : drop1 m x ≠ m := fun h => by
  have : y ∈ drop1 m x := by rw [h]; exact hy
  exact ((mem_drop1 m x y).1 this).2 e
theorem drop1_same {m : List Pr} {x : Pr} (h : ∀ y ∈ m, y.k ≠ x.k) : drop1 m x = m := by
  unfold drop1
  rw [List.filter_eq_self]
  intro y hy
  simpa using h y hy
theorem cap_le {w : World} {base : Nat} {A : Option Addr} {n c : Nat} {L : List Pr} (h : prK.R 63 w base (fun _ => True) (.slice A n c) L) : L.length ≤ c := by
  obtain ⟨A', c', e, hl, _⟩ := Kd.R_reads h
  injection e with _ _ e3
  subst e3
  exact hl
/-- A row that is read may stand through a change of another block. -/
theorem C_mut {w w' : World} {A : Option Addr} {n : Nat} {xs : List Pr} {S : Nat → Prop} (h : Kd.C prK w A n xs) (hs : ∀ ad, A = some ad → ¬ S ad.block) (hm : Mut S w w') : Kd.C prK w' A n xs := by
  refine ⟨h.1, h.2.1, fun hn => ?_⟩
  obtain ⟨ad, e, hc⟩ := h.2.2 hn
  refine ⟨ad, e, fun j p hj => ?_⟩
  obtain ⟨c, h1, h2, h3⟩ := hc j p hj
  refine ⟨c, h1, ?_, fun i u hi => hm.cell (h3 i u hi) ?_⟩
  · obtain rfl := prK_open h2
    exact ⟨[.string (bs p.k)], [.string (bs p.v)], rfl, rfl, rfl⟩
  · have : (ad.add (j * prK.sz + i)).block = ad.block := by unfold Addr.add; split <;> rfl
    rw [this]
    exact hs ad e
theorem lit_Cs (w : World) (g : Nat) (k : List UInt8) (h : Blk w g #[.string (bs k)] 9) : Kd.C sK w (some ⟨g, 0, none⟩) [k].length [k] := by
  refine ⟨rfl, by simp, fun _ => ⟨⟨g, 0, none⟩, rfl, fun j p hj => ?_⟩⟩
  have hj0 : j < 1 := by have := (List.getElem?_eq_some_iff.1 hj).1; simpa using this
  obtain rfl : j = 0 := by omega
  obtain rfl : k = p := by simpa using hj
  refine ⟨[.string (bs k)], rfl, rfl, fun i u hi => ?_⟩
  rcases i with _ | i
  · have := Option.some.inj hi; subst this; exact h.cell 0
  · simp at hi
/-- What is told, and that there is room for it. -/
def AllCap (pg : Nat → Option (List UInt8)) (w : World) (e : Ending) (w' : World) : Prop :=
  ((∃ k, k < 4 ∧ (∀ j, j < k → (loadP (pg j) j).1 = 0) ∧ (loadP (pg k) k).1 ≠ 0 ∧ e = .returned (.tuple #[.slice none 0 0, .int .i64 (loadP (pg k) k).1])) ∨
   ((∀ k, k < 4 → (loadP (pg k) k).1 = 0) ∧ ∃ L A c, L.Perm (flatP pg 4) ∧ Sorted L ∧ e = .returned (.tuple #[.slice A L.length c, .int .i64 0]) ∧ Kd.C prK w' A L.length L ∧ L.length ≤ c ∧ ∀ ad, A = some ad → w.heap.size ≤ ad.block)) ∧ Below w.heap.size w w'
theorem kall_cap (M : Md) (a g : Nat) (pg : Nat → Option (List UInt8)) (hp : pgB pg M.see) (hlen : ∀ k, k < 4 → (loadP (pg k) k).2.length ≤ 1000) (w : World) (hM : MdAt w a M) (hg : Blk w g (stC a) 113) :
    Calls Try.prog 30 #[.pointer (some ⟨g, 0, none⟩)] w (AllCap pg w) := by
  have hq := nilEq55s g
  have HM := Lib.hid hM
  have Hg := Lib.hid hg
  have Hp := Lib.hid hp
  have Hlen := Lib.hid hlen
  clear hM hg hp hlen
  go_enter Try.func30, Try.ntmps30
  go_wp2
  go_loopw [4, 10] (fun v c wr => KallRel pg w v c wr) (fun _ c _ => 4 - (intOf c).toNat)
  case atStart => exact ⟨0, by omega, rfl, fun k h => by omega, Kd.R_nil _ _ _ _ _, Below.refl _ _⟩
  case round =>
    obtain ⟨i, hi, rfl, hz, hR, hB⟩ := hrel
    have hln := flatP_len Hlen.out i hi
    obtain ⟨D, hD⟩ : ∃ D, D = flatP pg i := ⟨_, rfl⟩
    rw [← hD] at hR hln
    have HD := Lib.hid hD
    clear hD
    obtain ⟨A, c, rfl⟩ := Kd.R_slice hR
    have HR := Lib.hid hR
    have HB := Lib.hid hB
    have Hz := Lib.hid hz
    clear hR hB hz
    by_cases hlt : i < 4
    · have hld := load_any M a g pg Hp.out i hlt wr (HM.out.below HB.out) (Hg.out.below HB.out)
      have Hld := Lib.hid hld
      clear hld
      go_wp2_with fail
      refine Hld.out.mono ?_
      rintro e w3 ⟨⟨v', rfl, h1, h2⟩, hb3⟩
      clear Hld
      have H1 := Lib.hid h1
      clear h1 h2
      have HB3 := Lib.hid (HB.out.trans (hb3.mono HB.out.size))
      have HR3 := Lib.hid (Kd.R_below HR.out hb3)
      clear hb3
      by_cases he : (loadP (pg i) i).1 = 0
      · have h1 := H1.out he
        have hl1 := Hlen.out i hlt
        have hfs := flatP_succ pg i
        obtain ⟨X, hX⟩ : ∃ X, X = (loadP (pg i) i).2 := ⟨_, rfl⟩
        rw [← hX] at h1 hl1 hfs
        obtain ⟨A3, c3, rfl, hl3, hC3⟩ := Kd.R_reads h1
        have HC3 := Lib.hid hC3
        have He := Lib.hid he
        have Hfs := Lib.hid hfs
        clear h1 H1 hC3 HR HB hX hfs
        rw [He.out]
        go_wp2_with (first
          | (at_builtin; (refine Kd.R_append_rows prK (Rr := prK.K w3) (w0 := w) w.heap.size rfl (.tmp 22) (.tmp 23) 58 63 _ 32 rfl Try.underlying58 info63 rfl (by decide) (by decide) (.slice A D.length c) D X A3 X.length c3 (fun _ => True) (fun _ => False) rfl rfl HR3.out HC3.out (fun _ _ h => prK_KM h) (fun _ hk => hk.elim) (fun _ _ => trivial) HB3.out HB3.out.size ?l1 ?_); (case l1 => omega); intro v1 w4 hR4 hB4 hg4 hat4; have HR4 := Lib.hid hR4; have HB4 := Lib.hid hB4; clear hR4 hB4 hg4 hat4))
        go_roundw
        case rel => exact ⟨i + 1, by omega, by go_num, fun k hk => by
          by_cases e : k = i
          · subst e; exact He.out
          · exact Hz.out k (by omega), by rw [Hfs.out, ← HD.out]; exact HR4.out, HB4.out⟩
        case measure => simp [intOf]; omega
      · have heb : ((loadP (pg i) i).1 != 0) = true := bne_iff_ne.2 he
        go_wp2
        go_ret2
        exact ⟨.inl ⟨i, hlt, Hz.out, he, rfl⟩, HB3.out⟩
    · obtain rfl : i = 4 := by omega
      have Hcap := Lib.hid (cap_le HR.out)
      have Hown := Lib.hid (show ∀ ad, A = some ad → w.heap.size ≤ ad.block from fun ad e => (R_base HR.out (by rw [e]; rfl)).1)
      have hs := sort_any wr w.heap.size (.slice A D.length c) D HR.out (by omega)
      have Hs := Lib.hid hs
      clear hs
      go_wp2_with fail
      refine Hs.out.mono ?_
      rintro e w5 ⟨rfl, hm, L, hp, hso, hC⟩
      have hLl : L.length = D.length := hp.length_eq
      have HC := Lib.hid (hC A c rfl)
      have Hp2 := Lib.hid hp
      have Hso := Lib.hid hso
      have HB5 := Lib.hid (HB.out.trans (hm.below HB.out.size (fun q hq he => by have := (R_base HR.out he).1; omega)))
      clear hm hp hso hC
      go_wp2
      go_ret2
      refine ⟨.inr ⟨Hz.out, L, A, c, by rw [← HD.out]; exact Hp2.out, Hso.out, by rw [hLl]; rfl, HC.out, by rw [hLl]; exact Hcap.out, Hown.out⟩, HB5.out⟩
theorem kall_cap_says (a g : Nat) (pg : Nat → Option (List UInt8)) (m : List Pr) (hS : Says pg m) (w : World) (hD : KvDev w a pg) (hg : Blk w g (stC a) 113) :
    Calls Try.prog 30 #[.pointer (some ⟨g, 0, none⟩)] w fun e w' => ∃ A c, e = .returned (.tuple #[.slice A m.length c, .int .i64 0]) ∧ Kd.C prK w' A m.length m ∧ m.length ≤ c ∧ (∀ ad, A = some ad → w.heap.size ≤ ad.block) ∧ Below w.heap.size w w' := by
  obtain ⟨F, many, hF, hFp, hlen, hM⟩ := hD
  have hpb : pgB pg (mkM (LT 5 4 F false) none many).see := fun k hk => ⟨(page_LT5 F false k).trans (hFp k hk), hlen k hk⟩
  refine (kall_cap _ a g pg hpb (fun j hj => by have := loadP_len (pg j) j (hlen j hj); omega) w hM hg).mono ?_
  rintro e w' ⟨h, hb⟩
  rcases h with ⟨j, hj, _, hne, rfl⟩ | ⟨h0, L, A, c, hp, hs, rfl, hC, hcap, hown⟩
  · rw [hS.load j hj] at hne
    exact absurd rfl hne
  · have hfl : flatP pg 4 = fl 0 m ++ (fl 1 m ++ (fl 2 m ++ fl 3 m)) := by
      simp [flatP, List.range_succ, hS.load 0 (by omega), hS.load 1 (by omega), hS.load 2 (by omega), hS.load 3 (by omega)]
    obtain rfl := sorted_perm hS.st (hp.trans (by rw [hfl]; exact flat_perm m)) hs
    exact ⟨A, c, rfl, hC, hcap, hown, hb⟩
end Go.Proofs.Yteilmbhnbmmcjaa.B
