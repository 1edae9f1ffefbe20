/- Helper: a pair set behind all others; walked. No condition. -/
import Derived.Test.YteilmbhnbmmcjaaKk
namespace Go.Proofs.Yteilmbhnbmmcjaa.B
open Go.RowKit Go.Proofs.YteilmbhnbmmcjaaW.PrintWords Go.Proofs.Yteilmbhnbmmcjaa.Later
set_option maxRecDepth 100000
set_option maxHeartbeats 3200000
theorem insert_end (P : List Pr) (hn : P.length ≤ 10000) (x : Pr) (v : Value) (base : Nat) (W : World) (hb : base ≤ W.heap.size) (hR : prK.R 63 W base (fun _ => True) v P) :
    Calls Try.prog 64 #[v, .int .i64 P.length, .slice (some ⟨W.heap.size, 0, none⟩) 1 1] (W.alloc (.cells #[.string (bs x.k), .string (bs x.v)] 63)) (ActPost base W v (P ++ [x])) := by
  obtain ⟨A, c, rfl, hlc, hC⟩ := Kd.R_reads hR
  have HR := Lib.hid hR
  clear hR hC
  have i0 : (0 : Int) ≤ (P.length : Int) := by omega
  rcases Nat.eq_or_lt_of_le hlc with rfl | hlt
  · go_enter Try.func64, Try.ntmps64
    go_wp2_with (first
      | (at_builtin; (refine Kd.R_append prK (w0 := W) (W := W) base rfl (.tmp 23) (.tmp 24) 58 63 _ 32 rfl Try.underlying58 info63 rfl (by decide) (by decide) (.slice A P.length P.length) P x [.string (bs x.k), .string (bs x.v)] (fun _ => True) (fun _ => False) rfl rfl (prK_mkM _ _ _ x) (fun _ hk => hk.elim) (fun _ _ => trivial) HR.out (Below.refl _ _) hb (by omega) ?_); intro v1 w9 hR9 hB9 hg hat))
    go_ret
    refine ⟨_, rfl, hR9, ⟨hg.os, hg.tape, hg.output, hg.size, fun i hi hs => hg.block i hi (fun e => hs e.symm)⟩, fun k hk0 => ?_⟩
    have hk : v1.ownBlock = some k := hk0
    rcases hat with h | ⟨b, h, hb2⟩
    · left; rw [← h]; exact hk
    · right; rw [h] at hk; obtain rfl := Option.some.inj hk; exact hb2
  · have i1 : (P.length : Int) < (c : Int) := by omega
    have i2 : (P.length : Int) ≤ (c : Int) := by omega
    go_enter Try.func64, Try.ntmps64
    go_wp2_with (first
      | (at_builtin; (refine Kd.R_append prK (w0 := W) (W := W) base rfl (.tmp 23) (.tmp 24) 58 63 _ 32 rfl Try.underlying58 info63 rfl (by decide) (by decide) (.slice A P.length c) P x [.string (bs x.k), .string (bs x.v)] (fun _ => True) (fun _ => False) rfl rfl (prK_mkM _ _ _ x) (fun _ hk => hk.elim) (fun _ _ => trivial) HR.out (Below.refl _ _) hb (by omega) ?_); intro v1 w9 hR9 hB9 hg hat))
    go_ret
    refine ⟨_, rfl, hR9, ⟨hg.os, hg.tape, hg.output, hg.size, fun i hi hs => hg.block i hi (fun e => hs e.symm)⟩, fun k hk0 => ?_⟩
    have hk : v1.ownBlock = some k := hk0
    rcases hat with h | ⟨b, h, hb2⟩
    · left; rw [← h]; exact hk
    · right; rw [h] at hk; obtain rfl := Option.some.inj hk; exact hb2
theorem hasKey_end (l : List Pr) (key : List UInt8) : hasKey l key l.length = false := by simp [hasKey]
theorem set1_end (P : List Pr) (hn : P.length ≤ 10000) (hr : Rises P) (x : Pr) (hend : IsAt P x.k P.length) (v : Value) (base : Nat) (w : World) (hb : base ≤ w.heap.size) (hR : prK.R 63 w base (fun _ => True) v P) :
    Calls Try.prog 62 #[v, .agg #[.string (bs x.k), .string (bs x.v)]] w (ActPost base w v (P ++ [x])) := by
  obtain ⟨A, c, rfl, hlc, hC⟩ := Kd.R_reads hR
  obtain ⟨k, hk⟩ : ∃ k, k = x.k := ⟨_, rfl⟩
  obtain ⟨u, hu⟩ : ∃ u, u = x.v := ⟨_, rfl⟩
  have hins := insert_end P hn x (.slice A P.length c) base
  rw [← hk] at hend hins ⊢
  rw [← hu] at hins ⊢
  have HR := Lib.hid hR
  have Hend := Lib.hid hend
  have Hins := Lib.hid hins
  have hfind := fun W (hW : Below w.heap.size w W) => find_any P hr hn k A c W (Kd.C_below hC hW)
  have Hfind := Lib.hid hfind
  clear hR hC hfind hins hend hk hu
  go_enter Try.func62, Try.ntmps62
  obtain ⟨w1, hw1⟩ : ∃ w1, w1 = w.alloc (.cells #[.string (bs k), .string (bs u)] 63) := ⟨_, rfl⟩
  have hb1 : Below w.heap.size w w1 := by rw [hw1]; exact (Below.refl _ _).alloc (Nat.le_refl _) _
  have hk1 : Blk w1 w.heap.size #[.string (bs k), .string (bs u)] 63 := by rw [hw1]; exact Blk.new w _ 63
  have c0 : w1.cell? ⟨w.heap.size, 0, none⟩ = some (.string (bs k)) := hk1.cell 0
  have c1 : w1.cell? ⟨w.heap.size, 1, none⟩ = some (.string (bs u)) := hk1.cell 1
  go_upto_region 1 with fail
  rw [← hw1]
  have Hf := Lib.hid (Hfind.out w1 hb1)
  have Hb1 := Lib.hid hb1
  clear hw1 hb1 hk1 Hfind
  go_wp2_with fail
  refine Hf.out.mono ?_
  rintro e w2 ⟨⟨n, rfl, hat⟩, hb2⟩
  obtain rfl := hat.uniq Hend.out
  rw [hasKey_end]
  have d0 : w2.cell? ⟨w.heap.size, 0, none⟩ = some (.string (bs k)) := Below.cellOld hb2 c0
  have d1 : w2.cell? ⟨w.heap.size, 1, none⟩ = some (.string (bs u)) := Below.cellOld hb2 c1
  have HB2 := Lib.hid (Hb1.out.trans (hb2.mono Hb1.out.size))
  clear hb2 c0 c1 hat Hend Hf
  have hi2 := Hins.out w2 (Nat.le_trans hb HB2.out.size) (Kd.R_below HR.out HB2.out)
  have Hi2 := Lib.hid hi2
  clear hi2 Hins
  go_wp2_with fail
  refine Hi2.out.mono ?_
  rintro e w3 ⟨v', rfl, h1, h2, h3⟩
  have H1 := Lib.hid h1
  have H2 := Lib.hid ((Mut.of_below HB2.out).trans h2)
  have H3 := Lib.hid h3
  clear h1 h2 h3
  go_wp2
  go_ret
  refine ⟨_, rfl, H1.out, H2.out, fun q hq => ?_⟩
  rcases H3.out q hq with h | h
  · exact .inl h
  · exact .inr (Nat.le_trans HB2.out.size h)
end Go.Proofs.Yteilmbhnbmmcjaa.B
