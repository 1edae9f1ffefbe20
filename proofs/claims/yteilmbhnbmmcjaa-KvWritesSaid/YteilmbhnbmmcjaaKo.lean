/- Helper: awake, walked. No condition. -/
import Derived.Test.YteilmbhnbmmcjaaKn
namespace Go.Proofs.Yteilmbhnbmmcjaa.B
open Go.RowKit Go.Proofs.YteilmbhnbmmcjaaW.PrintWords Go.Proofs.Yteilmbhnbmmcjaa.Later
set_option maxRecDepth 100000
set_option maxHeartbeats 3200000
theorem aw_page : pgN (fun _ => none) (fun _ => []) (PM (fun _ => []) actS [aw] 1) (bucket aw.k) = some (prsB [aw]) := by
  have e : PM (fun _ => []) actS [aw] 1 (bucket aw.k) = [aw] := by simp only [PM, upN]; exact if_pos rfl
  have hne : ¬ prsB [aw] = prsB [] := fun h => by
    have : prsB [aw] ≠ [] := by rw [prsB_cons]; exact textL_ne _ _
    exact this (by rw [h]; rfl)
  rw [pgN, e, if_neg hne]
theorem kvdev_new (w : World) (a : Nat) (many : Int) (h : MdAt w a (mkM (LT 5 4 noPages false) none many)) : KvDev w a (fun _ => none) := ⟨noPages, many, noPg4, fun _ _ => rfl, fun _ _ _ h1 => (nomatch h1), h⟩
theorem KvDev.below {w w' : World} {a : Nat} {pg : Nat → Option (List UInt8)} (h : KvDev w a pg) (hb : Below w.heap.size w w') : KvDev w' a pg := by
  obtain ⟨F, many, h1, h2, h3, h4⟩ := h
  exact ⟨F, many, h1, h2, h3, h4.below hb⟩
theorem aw_fit : ∀ x ∈ [aw], Fit (bucket aw.k) x := fun x hx => by
  obtain rfl := List.mem_singleton.1 hx
  exact ⟨by decide, rfl, by decide, by decide⟩
theorem aw_rises : Rises [aw] := fun i j h hj => by simp at hj; omega
theorem lit_C (w : World) (g : Nat) (x : Pr) (h : Blk w g #[.string (bs x.k), .string (bs x.v)] 63) : Kd.C prK w (some ⟨g, 0, none⟩) [x].length [x] := by
  refine ⟨rfl, by simp, fun _ => ⟨⟨g, 0, none⟩, rfl, fun j p hj => ?_⟩⟩
  have hj0 : j < 1 := by have := (List.getElem?_eq_some_iff.1 hj).1; simpa using this
  obtain rfl : j = 0 := by omega
  obtain rfl : x = p := by simpa using hj
  refine ⟨[.string (bs x.k), .string (bs x.v)], rfl, ⟨[.string (bs x.k)], [.string (bs x.v)], rfl, rfl, rfl⟩, fun i u hi => ?_⟩
  rcases i with _ | _ | i
  · have := Option.some.inj hi; subst this; exact h.cell 0
  · have := Option.some.inj hi; subst this; exact h.cell 1
  · simp at hi
theorem awake_any (w : World) : Calls Try.prog 23 #[] w fun e w' => e = .returned (.bool true) ∧ Below w.heap.size w w' := by
  go_enter Try.func23, Try.ntmps23
  go_wp2_with fail
  refine (kdisk_any w).mono ?_
  rintro e w1 ⟨a, rfl, ha, hM, hB1⟩
  have HB1 := Lib.hid hB1
  have HM := Lib.hid hM
  clear hB1 hM
  go_wp2_with fail
  refine (kmake_ok a w1 HM.out).mono ?_
  rintro e w2 ⟨rfl, h2, hm2⟩
  have H2 := Lib.hid (kvdev_new _ _ _ h2)
  have HB2 := Lib.hid (Below.mut HB1.out hm2 HB1.out.size ha)
  clear h2 hm2 HM HB1
  go_wp2_with fail
  refine (kopen_size a 64 w2).mono ?_
  rintro e w3 ⟨⟨v, rfl, hv⟩, hb3⟩
  obtain ⟨rfl, hg⟩ := hv rfl
  have hga : w2.heap.size ≠ a := by
    obtain ⟨F, many, _, _, _, ⟨np, oo, n, hb, _⟩⟩ := H2.out
    have := Blk.lt hb
    omega
  have hgw : w.heap.size ≤ w2.heap.size := HB2.out.size
  obtain ⟨g, hg'⟩ : ∃ g, g = w2.heap.size := ⟨_, rfl⟩
  rw [← hg'] at hg hga hgw ⊢
  have H3 := Lib.hid (H2.out.below hb3)
  have HB3 := Lib.hid (HB2.out.trans (hb3.mono HB2.out.size))
  have Hg := Lib.hid hg
  have e0 : openE 64 = 0 := rfl
  rw [e0]
  clear hv hb3 hg hg' H2 HB2 e0
  have hgr := Hg.out
  have hal : a < w3.heap.size := by
    obtain ⟨F, many, _, _, _, ⟨np, oo, n, hb, _⟩⟩ := H3.out
    exact Blk.lt hb
  obtain ⟨w4, hw4⟩ : ∃ w4, w4 = w3.alloc (.cells #[.string (bs aw.k), .string (bs aw.v)] 63) := ⟨_, rfl⟩
  have hb4 : Below w3.heap.size w3 w4 := by rw [hw4]; exact (Below.refl _ _).alloc (Nat.le_refl _) _
  have hk4 : Blk w4 w3.heap.size #[.string (bs aw.k), .string (bs aw.v)] 63 := by rw [hw4]; exact Blk.new w3 _ 63
  have hset := set_aw a g (some ⟨w3.heap.size, 0, none⟩) 1 w4 (H3.out.below hb4) (hgr.below hb4) hga (lit_C _ _ _ hk4)
  rw [hw4] at hset
  have Hset := Lib.hid hset
  have HB4 := Lib.hid (HB3.out.trans (hb4.mono HB3.out.size))
  have Hg4 := Lib.hid (hgr.below hb4)
  rw [hw4] at HB4 Hg4
  clear hset hgr hk4 hb4 hw4
  go_wp2_with fail
  refine Hset.out.mono ?_
  rintro e w5 ⟨rfl, hd, hm5⟩
  have hg5 := Hg4.out.kept hm5 hga
  have HB5 := Lib.hid (Below.mut HB4.out hm5 HB4.out.size ha)
  have hget := kget_got a g _ w5 hd hg5 aw.k (by decide) (by decide) [aw] (by rw [aw_page]; exact loadP_round _ _ aw_fit aw_rises) aw_rises (by simp) 0 ⟨by simp, fun i h => by omega, fun i _ h => by
    have : i = 0 := by simp at h; omega
    subst this; decide⟩ (by decide)
  have Hget := Lib.hid hget
  clear hd hm5 hg5 hget Hset HB4 Hg4
  go_wp2_with fail
  refine Hget.out.mono ?_
  rintro e w6 ⟨rfl, hb6⟩
  have HB6 := Lib.hid (HB5.out.trans (hb6.mono HB5.out.size))
  clear hb6 Hget
  rw [show bs (prA [aw] 0).v = ⟨#[49]⟩ from rfl]
  go_wp2
  go_ret
  exact ⟨rfl, HB6.out⟩
end Go.Proofs.Yteilmbhnbmmcjaa.B
