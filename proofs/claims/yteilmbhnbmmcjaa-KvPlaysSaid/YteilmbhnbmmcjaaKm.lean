/- Helper: a pair set behind all others; walked. pairs there and back; what a key has, walked. No condition. -/
import Derived.Test.YteilmbhnbmmcjaaKk
namespace Go.Proofs.Yteilmbhnbmmcjaa.B
open Go.RowKit Go.Proofs.YteilmbhnbmmcjaaW.PrintWords Go.Proofs.Yteilmbhnbmmcjaa.Later
set_option maxRecDepth 100000
set_option maxHeartbeats 3200000
theorem insert_end (P : List Pr) (hn : P.length ≤ 10000) (x : Pr) (v : Value) (base : Nat) (W : World) (hb : base ≤ W.heap.size) (hR : prK.R 63 W base (fun _ => True) v P) :
    Calls Try.prog 64 #[v, .int .i64 P.length, .slice (some ⟨W.heap.size, 0, none⟩) 1 1] (W.alloc (.cells #[.string (bs x.k), .string (bs x.v)] 63)) (ActPost base W v (P ++ [x])) := by
  obtain ⟨A, c, rfl, hlc, hC⟩ := Kd.R_reads hR
  have HR := Lib.hid hR
  clear hR hC
  have i0 : (0 : Int) ≤ (P.length : Int) := by omega
  rcases Nat.eq_or_lt_of_le hlc with rfl | hlt
  · go_enter Try.func64, Try.ntmps64
    go_wp2_with (first
      | (at_builtin; (refine Kd.R_append prK (w0 := W) (W := W) base rfl (.tmp 23) (.tmp 24) 58 63 _ 32 rfl Try.underlying58 info63 rfl (by decide) (by decide) (.slice A P.length P.length) P x [.string (bs x.k), .string (bs x.v)] (fun _ => True) (fun _ => False) rfl rfl (prK_mkM _ _ _ x) (fun _ hk => hk.elim) (fun _ _ => trivial) HR.out (Below.refl _ _) hb (by omega) ?_); intro v1 w9 hR9 hB9 hg hat))
    go_ret
    refine ⟨_, rfl, hR9, ⟨hg.os, hg.tape, hg.output, hg.size, fun i hi hs => hg.block i hi (fun e => hs e.symm)⟩, fun k hk0 => ?_⟩
    have hk : v1.ownBlock = some k := hk0
    rcases hat with h | ⟨b, h, hb2⟩
    · left; rw [← h]; exact hk
    · right; rw [h] at hk; obtain rfl := Option.some.inj hk; exact hb2
  · have i1 : (P.length : Int) < (c : Int) := by omega
    have i2 : (P.length : Int) ≤ (c : Int) := by omega
    go_enter Try.func64, Try.ntmps64
    go_wp2_with (first
      | (at_builtin; (refine Kd.R_append prK (w0 := W) (W := W) base rfl (.tmp 23) (.tmp 24) 58 63 _ 32 rfl Try.underlying58 info63 rfl (by decide) (by decide) (.slice A P.length c) P x [.string (bs x.k), .string (bs x.v)] (fun _ => True) (fun _ => False) rfl rfl (prK_mkM _ _ _ x) (fun _ hk => hk.elim) (fun _ _ => trivial) HR.out (Below.refl _ _) hb (by omega) ?_); intro v1 w9 hR9 hB9 hg hat))
    go_ret
    refine ⟨_, rfl, hR9, ⟨hg.os, hg.tape, hg.output, hg.size, fun i hi hs => hg.block i hi (fun e => hs e.symm)⟩, fun k hk0 => ?_⟩
    have hk : v1.ownBlock = some k := hk0
    rcases hat with h | ⟨b, h, hb2⟩
    · left; rw [← h]; exact hk
    · right; rw [h] at hk; obtain rfl := Option.some.inj hk; exact hb2
theorem hasKey_end (l : List Pr) (key : List UInt8) : hasKey l key l.length = false := by simp [hasKey]
theorem set1_end (P : List Pr) (hn : P.length ≤ 10000) (hr : Rises P) (x : Pr) (hend : IsAt P x.k P.length) (v : Value) (base : Nat) (w : World) (hb : base ≤ w.heap.size) (hR : prK.R 63 w base (fun _ => True) v P) :
    Calls Try.prog 62 #[v, .agg #[.string (bs x.k), .string (bs x.v)]] w (ActPost base w v (P ++ [x])) := by
  obtain ⟨A, c, rfl, hlc, hC⟩ := Kd.R_reads hR
  obtain ⟨k, hk⟩ : ∃ k, k = x.k := ⟨_, rfl⟩
  obtain ⟨u, hu⟩ : ∃ u, u = x.v := ⟨_, rfl⟩
  have hins := insert_end P hn x (.slice A P.length c) base
  rw [← hk] at hend hins ⊢
  rw [← hu] at hins ⊢
  have HR := Lib.hid hR
  have Hend := Lib.hid hend
  have Hins := Lib.hid hins
  have hfind := fun W (hW : Below w.heap.size w W) => find_any P hr hn k A c W (Kd.C_below hC hW)
  have Hfind := Lib.hid hfind
  clear hR hC hfind hins hend hk hu
  go_enter Try.func62, Try.ntmps62
  obtain ⟨w1, hw1⟩ : ∃ w1, w1 = w.alloc (.cells #[.string (bs k), .string (bs u)] 63) := ⟨_, rfl⟩
  have hb1 : Below w.heap.size w w1 := by rw [hw1]; exact (Below.refl _ _).alloc (Nat.le_refl _) _
  have hk1 : Blk w1 w.heap.size #[.string (bs k), .string (bs u)] 63 := by rw [hw1]; exact Blk.new w _ 63
  have c0 : w1.cell? ⟨w.heap.size, 0, none⟩ = some (.string (bs k)) := hk1.cell 0
  have c1 : w1.cell? ⟨w.heap.size, 1, none⟩ = some (.string (bs u)) := hk1.cell 1
  go_upto_region 1 with fail
  rw [← hw1]
  have Hf := Lib.hid (Hfind.out w1 hb1)
  have Hb1 := Lib.hid hb1
  clear hw1 hb1 hk1 Hfind
  go_wp2_with fail
  refine Hf.out.mono ?_
  rintro e w2 ⟨⟨n, rfl, hat⟩, hb2⟩
  obtain rfl := hat.uniq Hend.out
  rw [hasKey_end]
  have d0 : w2.cell? ⟨w.heap.size, 0, none⟩ = some (.string (bs k)) := Below.cellOld hb2 c0
  have d1 : w2.cell? ⟨w.heap.size, 1, none⟩ = some (.string (bs u)) := Below.cellOld hb2 c1
  have HB2 := Lib.hid (Hb1.out.trans (hb2.mono Hb1.out.size))
  clear hb2 c0 c1 hat Hend Hf
  have hi2 := Hins.out w2 (Nat.le_trans hb HB2.out.size) (Kd.R_below HR.out HB2.out)
  have Hi2 := Lib.hid hi2
  clear hi2 Hins
  go_wp2_with fail
  refine Hi2.out.mono ?_
  rintro e w3 ⟨v', rfl, h1, h2, h3⟩
  have H1 := Lib.hid h1
  have H2 := Lib.hid ((Mut.of_below HB2.out).trans h2)
  have H3 := Lib.hid h3
  clear h1 h2 h3
  go_wp2
  go_ret
  refine ⟨_, rfl, H1.out, H2.out, fun q hq => ?_⟩
  rcases H3.out q hq with h | h
  · exact .inl h
  · exact .inr (Nat.le_trans HB2.out.size h)
end Go.Proofs.Yteilmbhnbmmcjaa.B
namespace Go.Proofs.Yteilmbhnbmmcjaa.B
open Go.RowKit Go.Proofs.YteilmbhnbmmcjaaW.PrintWords Go.Proofs.Yteilmbhnbmmcjaa.Later
set_option maxRecDepth 100000
set_option maxHeartbeats 3200000
def Fit (n : Nat) (x : Pr) : Prop := x.k ≠ [] ∧ bucket x.k = n ∧ x.k.length ≤ 16 ∧ x.v.length ≤ 30
theorem prA_app (out l : List Pr) (x : Pr) : prA (out ++ x :: l) out.length = x := by simp [prA, List.getD_eq_getElem?_getD]
theorem prA_old (out l : List Pr) (i : Nat) (h : i < out.length) : prA (out ++ l) i = prA out i := by simp [prA, List.getD_eq_getElem?_getD, List.getElem?_append_left h]
theorem textL_ne (s r : List UInt8) : textL s ++ r ≠ [] := by simp [textL, numL]
theorem prsF_round (n : Nat) : ∀ (l : List Pr) (f : Nat) (out : List Pr), (∀ x ∈ l, Fit n x) → Rises (out ++ l) → (prsB l).length < f → prsF n f (prsB l) out = (0, out ++ l)
  | [], f, out, _, _, hf => by
    obtain ⟨f', rfl⟩ : ∃ f', f = f' + 1 := ⟨f - 1, by omega⟩
    rw [prsF, if_pos (by simp [prsB]), List.append_nil]
  | x :: l, f, out, hx, hr, hf => by
    obtain ⟨f', rfl⟩ : ∃ f', f = f' + 1 := ⟨f - 1, by omega⟩
    obtain ⟨h1, h2, h3, h4⟩ := hx x (by simp)
    have hne : prsB (x :: l) ≠ [] := by rw [prsB_cons]; exact textL_ne _ _
    rw [prsF_step n f' _ out hne]
    have e1 : (Rdr.mk (prsB (x :: l)) 0).text 16 = (x.k, ⟨textL x.v ++ prsB l, 0⟩) := by rw [prsB_cons]; exact text_textL _ _ _ h3 (by omega)
    have e2 : (Rdr.mk (textL x.v ++ prsB l) 0).text 30 = (x.v, ⟨prsB l, 0⟩) := text_textL _ _ _ h4 (by omega)
    have hb : badPair n out x.k = false := by
      have h5 : 0 < out.length → kLt (prA out (out.length - 1)).k x.k = true := fun h => by
        have := hr (out.length - 1) out.length (by omega) (by simp)
        rwa [prA_app, prA_old _ _ _ (by omega)] at this
      by_cases h6 : 0 < out.length
      · simp [badPair, h1, h2, h5 h6]
      · simp [badPair, h1, h2, h6]
    simp only [e1, e2, hb]
    rw [if_neg (by simp), if_neg (by simp)]
    have hlen : (prsB l).length < f' := by
      have : (prsB (x :: l)).length = (textL x.k).length + ((textL x.v).length + (prsB l).length) := by rw [prsB_cons]; simp
      have h7 : 1 ≤ (textL x.k).length := by simp [textL, numL]
      omega
    have := prsF_round n l f' (out ++ [⟨x.k, x.v⟩]) (fun y hy => hx y (by simp [hy])) (by rw [List.append_assoc]; exact hr) hlen
    rw [this, List.append_assoc]
    rfl
theorem loadP_round (n : Nat) (l : List Pr) (hx : ∀ x ∈ l, Fit n x) (hr : Rises l) : loadP (some (prsB l)) n = (0, l) := by
  rw [loadP, prsF_round n l _ [] hx (by simpa using hr) (by omega)]
  simp
theorem page_LT5 (F : Int → Option ByteArray) (sl : Bool) (p : Int) : page? (LT 5 4 F sl) 5 p = F p := by simp [page?, LT]
theorem kget_nil (s : ByteArray) (w : World) : Calls Try.prog 36 #[.pointer none, .string s] w fun e w' => e = .returned (.tuple #[.string ⟨#[]⟩, .int .i64 1]) ∧ w = w' := by
  go_enter Try.func36, Try.ntmps36
  go_wp2
  go_ret2
  exact ⟨rfl, rfl⟩
/-- A key that is there. -/
theorem kget_got (a g : Nat) (pg : Nat → Option (List UInt8)) (w : World) (hD : KvDev w a pg) (hg : Blk w g (stC a) 113) (key : List UInt8) (hk : goodK key [] = true) (hkl : key.length ≤ 1000) (l : List Pr) (hl : loadP (pg (bucket key)) (bucket key) = (0, l)) (hr : Rises l) (hn : l.length ≤ 10000) (n : Nat) (hat : IsAt l key n) (hh : hasKey l key n = true) :
    Calls Try.prog 36 #[.pointer (some ⟨g, 0, none⟩), .string (bs key)] w fun e w' => e = .returned (.tuple #[.string (bs (prA l n).v), .int .i64 0]) ∧ Below w.heap.size w w' := by
  have hq := nilEq55 g
  have hgk := good_any key [] (by omega) (by simp)
  rw [hk] at hgk
  have hbk := bucket_any key (by omega)
  have hbl := bucket_lt key
  obtain ⟨F, many, hF, hFp, hlen, hM⟩ := hD
  have hpb : pgB pg (mkM (LT 5 4 F false) none many).see := fun k hk => ⟨(page_LT5 F false k).trans (hFp k hk), hlen k hk⟩
  have hld := fun W (hW : Below w.heap.size w W) => load_any _ a g pg hpb (bucket key) hbl W (hM.below hW) (hg.below hW)
  rw [hl] at hld
  obtain ⟨B, hB⟩ : ∃ B, B = bucket key := ⟨_, rfl⟩
  rw [← hB] at hbk hld
  have Hgk := Lib.hid hgk
  have Hbk := Lib.hid hbk
  have Hld := Lib.hid hld
  have Hat := Lib.hid hat
  have hnl : n < l.length := by simp [hasKey] at hh; exact hh.1
  have Hh := Lib.hid hh
  clear hgk hbk hld hM hg hF hFp hlen hpb hB hk hl hat hh
  go_enter Try.func36, Try.ntmps36
  go_wp2_with fail
  refine (Hgk.out w).mono ?_
  rintro e w1 ⟨rfl, hb1⟩
  have HB1 := Lib.hid hb1
  clear hb1
  go_wp2_with fail
  refine (Hbk.out w1).mono ?_
  rintro e w2 ⟨rfl, rfl⟩
  go_wp2_with fail
  refine (Hld.out w1 HB1.out).mono ?_
  rintro e w3 ⟨⟨v, rfl, h1, h2⟩, hb3⟩
  obtain ⟨A, c, rfl, hlc, hC⟩ := Kd.R_reads (h1 rfl)
  have HC := Lib.hid hC
  have HB3 := Lib.hid (HB1.out.trans (hb3.mono HB1.out.size))
  have hfd := find_any l hr hn key A c w3 hC
  have Hfd := Lib.hid hfd
  clear h1 h2 hb3 hC hfd
  go_wp2_with fail
  refine Hfd.out.mono ?_
  rintro e w4 ⟨⟨m, rfl, hat2⟩, hb4⟩
  obtain rfl := hat2.uniq Hat.out
  rw [Hh.out]
  obtain ⟨ad, e, d0, d1⟩ := at_pr (Kd.C_below HC.out hb4) (m : Int) (by omega) (by omega)
  cases e
  rw [Int.toNat_natCast] at d0 d1
  have i0 : (0 : Int) ≤ (m : Int) := by omega
  have i1 : (m : Int) < (l.length : Int) := by omega
  have HB4 := Lib.hid (HB3.out.trans (hb4.mono HB3.out.size))
  clear hb4 hat2
  go_wp2
  go_ret2
  exact ⟨rfl, HB4.out⟩
end Go.Proofs.Yteilmbhnbmmcjaa.B
