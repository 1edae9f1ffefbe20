/- Helper: all that is set, or dropped, at once; walked. No condition. -/
import Derived.Test.YteilmbhnbmmcjaaKi
namespace Go.Proofs.Yteilmbhnbmmcjaa.B
open Go.RowKit Go.Proofs.YteilmbhnbmmcjaaW.PrintWords Go.Proofs.Yteilmbhnbmmcjaa.Later
set_option maxRecDepth 100000
set_option maxHeartbeats 3200000
theorem nilEq55 (g : Nat) (W : World) : (binOp .eql 55 (.pointer (some ⟨g, 0, none⟩)) (.pointer none)).run Try.prog W = .ok (.bool false) W := by kernel_rfl
def upTo (i : Nat) (L : Nat → List Pr) : Nat → List Pr := fun k => if k < i then L k else []
theorem upTo_up (i : Nat) (L : Nat → List Pr) : upN (upTo i L) i (L i) = upTo (i + 1) L := by
  funext k
  simp only [upN, upTo]
  by_cases h : k = i
  · subst h; simp
  · by_cases h2 : k < i
    · simp [h, h2, show k < i + 1 by omega]
    · simp [h, h2, show ¬ k < i + 1 by omega]
def txs (P : Nat → List Pr) : Nat → Value := fun k => .string (bs (prsB (P k)))
theorem txs_up (i : Nat) (L : Nat → List Pr) : upN (txs (upTo i L)) i (.string (bs (prsB (L i)))) = txs (upTo (i + 1) L) := by
  rw [← upTo_up]
  funext k
  simp only [txs, upN]
  by_cases h : k = i
  · simp [h]
  · simp [h]
theorem upTo_four {L : Nat → List Pr} : ∀ k, k < 4 → upTo 4 L k = L k := fun k hk => if_pos hk
def LoadRel (pg : Nat → Option (List UInt8)) (L : Nat → List Pr) (B7 B8 base : Nat) (w : World) (c : Value) (wr : World) : Prop :=
  ∃ (i : Nat) (v : Nat → Value), i ≤ 4 ∧ c = .int .i64 i ∧ (∀ k, k < i → (loadP (pg k) k).1 = 0) ∧ Blk wr B7 (arr v) 148 ∧ Blk wr B8 (arr (txs (upTo i L))) 149 ∧ Four wr base v (upTo i L) ∧ Below base w wr
theorem Four.congr {w : World} {base : Nat} {v : Nat → Value} {P P' : Nat → List Pr} (h : Four w base v P) (he : ∀ k, k < 4 → P k = P' k) : Four w base v P' := ⟨fun i hi => by rw [← he i hi]; exact h.r i hi, h.d⟩
def ActRel (L : Nat → List Pr) (act : List Pr → Pr → List Pr) (p : List Pr) (B7 B8 base : Nat) (w : World) (c : Value) (wr : World) : Prop :=
  ∃ (m : Nat) (v : Nat → Value), m ≤ p.length ∧ c = .int .i64 m ∧ Blk wr B7 (arr v) 148 ∧ Blk wr B8 (arr (txs L)) 149 ∧ Four wr base v (PM L act p m) ∧ Below base w wr
def RoomRel (P : Nat → List Pr) (w1 : World) (c : Value) (wr : World) : Prop := ∃ i : Nat, i ≤ 4 ∧ c = .int .i64 i ∧ (∀ k, k < i → (prsB (P k)).length ≤ 64) ∧ Below w1.heap.size w1 wr
theorem index148 (v : Nat → Value) (i : Nat) (h : i < 4) (W : World) : (Instr.index 148 (.agg #[v 0, v 1, v 2, v 3]) (.int .i64 (i : Int))).run Try.prog W = .ok (v i) W := by
  rcases i with _ | _ | _ | _ | i
  · kernel_rfl
  · kernel_rfl
  · kernel_rfl
  · kernel_rfl
  · omega
theorem mut_set (w : World) (g i : Nat) (v : Value) : Mut (only g) w (w.setCell ⟨g, i, none⟩ v) := (Mut.refl (only g) w).set (show only g g from rfl) v
theorem change_any (M : Md) (a g : Nat) (pg : Nat → Option (List UInt8)) (hp : pgB pg M.see) (L : Nat → List Pr) (hL : ∀ k, k < 4 → L k = (loadP (pg k) k).2)
    (p : List Pr) (hpn : p.length ≤ 1000) (hpf : ∀ x ∈ p, Fine x) (A : Option Addr) (c fn : Nat) (hfn : ∀ (x y : Value) (W : World), (callFunc fn #[x, y]).run Try.prog W = .ok (.enter fn #[x, y]) W) (act : List Pr → Pr → List Pr) (Q : Int → World → Prop)
    (w : World) (hM : MdAt w a M) (hg : Blk w g (stC a) 113) (hC : Kd.C prK w A p.length p)
    (hbad : p.any (fun x => !goodK x.k x.v) = true → ∀ w', Below w.heap.size w w' → Q 1 w')
    (herr : p.any (fun x => !goodK x.k x.v) = false → ∀ k, k < 4 → (∀ j, j < k → (loadP (pg j) j).1 = 0) → (loadP (pg k) k).1 ≠ 0 → ∀ w', Below w.heap.size w w' → Q (loadP (pg k) k).1 w')
    (hsm : p.any (fun x => !goodK x.k x.v) = false → ∀ m, m ≤ p.length → ∀ k, k < 4 → (loadP (pg k) k).1 = 0 → (∀ x ∈ PM L act p m k, x.small) ∧ (PM L act p m k).length ≤ 10000)
    (hact : p.any (fun x => !goodK x.k x.v) = false → (∀ k, k < 4 → (loadP (pg k) k).1 = 0) → ∀ m, m < p.length → ∀ (w1 : World) (v : Value), w.heap.size ≤ w1.heap.size → prK.R 63 w1 w.heap.size (fun _ => True) v (PM L act p m (bucket (prA p m).k)) →
      Calls Try.prog fn #[v, .agg #[.string (bs (prA p m).k), .string (bs (prA p m).v)]] w1 (ActPost w.heap.size w1 v (act (PM L act p m (bucket (prA p m).k)) (prA p m))))
    (hroom : p.any (fun x => !goodK x.k x.v) = false → (∀ k, k < 4 → (loadP (pg k) k).1 = 0) → (∃ k, k < 4 ∧ 64 < (prsB (PM L act p p.length k)).length) → ∀ w', Below w.heap.size w w' → Q 172 w')
    (hW : p.any (fun x => !goodK x.k x.v) = false → (∀ k, k < 4 → (loadP (pg k) k).1 = 0) → (∀ k, k < 4 → (prsB (PM L act p p.length k)).length ≤ 64) → ∀ (w1 : World) (v : Nat → Value), Below w.heap.size w w1 → Four w1 w.heap.size v (PM L act p p.length) →
      Calls Try.prog 87 #[.pointer (some ⟨g, 0, none⟩), .agg (arr v), .agg (arr (txs L))] w1 fun e w2 => ∃ z, e = .returned (.int .i64 z) ∧ Q z w2) :
    Calls Try.prog 61 #[.pointer (some ⟨g, 0, none⟩), .slice A p.length c, .func (.func fn) #[] #[]] w fun e w2 => ∃ z, e = .returned (.int .i64 z) ∧ Q z w2 := by
  have hq := nilEq55 g
  have HM := Lib.hid hM
  have Hg := Lib.hid hg
  have HC := Lib.hid hC
  have Hbad := Lib.hid hbad
  have Herr := Lib.hid herr
  have Hsm := Lib.hid hsm
  have Hact := Lib.hid hact
  have Hroom := Lib.hid hroom
  have HW := Lib.hid hW
  have HL := Lib.hid hL
  have Hp := Lib.hid hp
  have Hc := Lib.hid (contains_any p hpf (by omega) A c w hC)
  have Hpf := Lib.hid hpf
  clear hM hg hC hbad herr hsm hact hroom hW hL hp hpf
  obtain ⟨b, hb⟩ : ∃ b, b = p.any (fun x => !goodK x.k x.v) := ⟨_, rfl⟩
  have Hb := Lib.hid hb
  clear hb
  go_enter Try.func61, Try.ntmps61
  go_wp2_with fail
  refine Hc.out.mono ?_
  rintro e w1 ⟨rfl, hB1⟩
  rw [← Hb.out]
  have HB1 := Lib.hid hB1
  clear hB1 Hc
  cases b with
  | true =>
    go_wp2
    go_ret
    exact ⟨_, rfl, Hbad.out Hb.out.symm _ HB1.out⟩
  | false =>
    have HbF := Lib.hid Hb.out.symm
    clear Hb Hbad
    go_wp2
    obtain ⟨w2, hw2⟩ : ∃ w2, w2 = (w1.alloc (.cells #[.slice none 0 0, .slice none 0 0, .slice none 0 0, .slice none 0 0] 148)).alloc (.cells #[.string ⟨#[]⟩, .string ⟨#[]⟩, .string ⟨#[]⟩, .string ⟨#[]⟩] 149) := ⟨_, rfl⟩
    rw [← hw2]
    have hba : Below w1.heap.size w1 (w1.alloc (.cells #[.slice none 0 0, .slice none 0 0, .slice none 0 0, .slice none 0 0] 148)) := (Below.refl _ _).alloc (Nat.le_refl _) _
    have hsz : (w1.alloc (.cells #[.slice none 0 0, .slice none 0 0, .slice none 0 0, .slice none 0 0] 148)).heap.size = w1.heap.size + 1 := Array.size_push _
    have h7 : Blk (w1.alloc (.cells #[.slice none 0 0, .slice none 0 0, .slice none 0 0, .slice none 0 0] 148)) w1.heap.size (arr (fun _ => .slice none 0 0)) 148 := Blk.new _ _ _
    have h8 : Blk w2 (w1.heap.size + 1) (arr (txs (upTo 0 L))) 149 := by rw [hw2, ← hsz]; exact Blk.new _ _ _
    have hb2 : Below w1.heap.size w1 w2 := by rw [hw2]; exact hba.alloc (by omega) _
    have h72 : Blk w2 w1.heap.size (arr (fun _ => .slice none 0 0)) 148 := by rw [hw2]; exact h7.below ((Below.refl _ _).alloc (Nat.le_refl _) _)
    have hB2 : Below w.heap.size w w2 := HB1.out.trans (hb2.mono HB1.out.size)
    have hB7 : w.heap.size ≤ w1.heap.size := HB1.out.size
    obtain ⟨B7, e7⟩ : ∃ B7, B7 = w1.heap.size := ⟨_, rfl⟩
    obtain ⟨B8, e8⟩ : ∃ B8, B8 = B7 + 1 := ⟨_, rfl⟩
    rw [← e7] at h8 h72 hB7 ⊢
    rw [← e8] at h8 ⊢
    have H7 := Lib.hid h72
    have H8 := Lib.hid h8
    have HB2 := Lib.hid hB2
    have hne1 : B8 ≠ B7 := by omega
    have hne2 : B7 ≠ B8 := by omega
    have hB8 : w.heap.size ≤ B8 := by omega
    clear hw2 hba hsz h7 h8 hb2 h72 hB2 HB1 e7 e8
    go_loopw [23] (fun c wr => LoadRel pg L B7 B8 w.heap.size w c wr) (fun c _ => 4 - (intOf c).toNat)
    case atStart => exact ⟨0, fun _ => .slice none 0 0, by omega, rfl, fun k h => by omega, H7.out, H8.out, Four.nil _ _, HB2.out⟩
    case round =>
      obtain ⟨i, v, hi, rfl, hz, h7, h8, h4, hB⟩ := hrel
      have H7r := Lib.hid h7
      have H8r := Lib.hid h8
      have H4 := Lib.hid h4
      have HBr := Lib.hid hB
      have Hz := Lib.hid hz
      clear h7 h8 h4 hB hz H7 H8 HB2
      by_cases hlt : i < 4
      · have hld := load_any M a g pg Hp.out i hlt wr (HM.out.below HBr.out) (Hg.out.below HBr.out)
        have Hld := Lib.hid hld
        clear hld
        go_wp2_with fail
        refine Hld.out.mono ?_
        rintro e w3 ⟨⟨v', rfl, h1, h2⟩, hb3⟩
        clear Hld
        have H1 := Lib.hid h1
        clear h1 h2
        have HB3 := Lib.hid (HBr.out.trans (hb3.mono HBr.out.size))
        by_cases he : (loadP (pg i) i).1 = 0
        · have h1 := H1.out he
          rw [← HL.out i hlt] at h1
          have hsm := Hsm.out HbF.out 0 (by omega) i hlt he
          obtain ⟨A3, c3, rfl, _, hC3⟩ := Kd.R_reads h1
          have htx := fun W (hW : Below w3.heap.size w3 W) => text_any (L i) hsm.1 hsm.2 A3 c3 W (Kd.C_below hC3 hW)
          have Htx := Lib.hid htx
          have H7w := Lib.hid (H7r.out.below hb3)
          have H8w := Lib.hid (H8r.out.below hb3)
          have h4w := H4.out.up hlt (Kd.R_lower h1 HBr.out.size) (Mut.of_below hb3) (fun k hk => .inr (R_base h1 hk).1)
          rw [upTo_up] at h4w
          have H4w := Lib.hid h4w
          have He := Lib.hid he
          clear h1 H1 htx hsm hC3 H7r H8r H4 hb3 he HBr h4w
          have i0 : (0 : Int) ≤ (i : Int) := by omega
          have i1 : (i : Int) < 4 := by omega
          rw [He.out]
          go_upto_region 11 with fail
          have HB3' := Lib.hid (HB3.out.trans ((below_drewN (Below.refl _ _) 1).mono HB3.out.size))
          go_region_held3 (fun _ => True) (trivial) (first | (go_at_call 86; refine (Htx.out _ (below_drewN (Below.refl _ _) 1)).mono ?_; rintro e w5 ⟨rfl, hb5⟩; have h7e := H7w.out.below ((below_drewN (Below.refl _ _) 1).trans hb5); have f7 : w5.frozen? ⟨B7, i, none⟩ = false := h7e.free i; have c7 : w5.cell? ⟨B7, i, none⟩ = some (v i) := (h7e.cell i).trans (arr_get _ hlt); have h8e := H8w.out.below ((below_drewN (Below.refl _ _) 1).trans hb5); have f8b : w5.frozen? ⟨B8, i, none⟩ = false := h8e.free i; have c8b : w5.cell? ⟨B8, i, none⟩ = some (txs (upTo i L) i) := (h8e.cell i).trans (arr_get _ hlt); have h8s := h8e.far (p := ⟨B7, i, none⟩) hne1 (.slice A3 (L i).length c3); have f8 : (w5.setCell ⟨B7, i, none⟩ (.slice A3 (L i).length c3)).frozen? ⟨B8, i, none⟩ = false := h8s.free i; have c8 : (w5.setCell ⟨B7, i, none⟩ (.slice A3 (L i).length c3)).cell? ⟨B8, i, none⟩ = some (txs (upTo i L) i) := (h8s.cell i).trans (arr_get _ hlt)))
          have hw5 := (below_drewN (Below.refl w3.heap.size w3) 1).trans hb5
          have g7 := ((H7w.out.below hw5).set i (.slice A3 (L i).length c3)).far (p := ⟨B8, i, none⟩) hne2 (.string (bs (prsB (L i))))
          have g8 := (((H8w.out.below hw5).far (p := ⟨B7, i, none⟩) hne1 (.slice A3 (L i).length c3))).set i (.string (bs (prsB (L i))))
          rw [arr_set _ hlt] at g7 g8
          rw [txs_up] at g8
          have m7 : Mut (only B7) w5 (w5.setCell ⟨B7, i, none⟩ (.slice A3 (L i).length c3)) := mut_set _ _ _ _
          have m8 : Mut (only B8) (w5.setCell ⟨B7, i, none⟩ (.slice A3 (L i).length c3)) ((w5.setCell ⟨B7, i, none⟩ (.slice A3 (L i).length c3)).setCell ⟨B8, i, none⟩ (.string (bs (prsB (L i))))) := mut_set _ _ _ _
          have g4 := ((H4w.out.below hw5).far (H7w.out.below hw5) (by decide) m7).far ((H8w.out.below hw5).far (p := ⟨B7, i, none⟩) hne1 (.slice A3 (L i).length c3)) (by decide) m8
          have gB := ((HB3.out.trans (hw5.mono HB3.out.size)).setCell (p := ⟨B7, i, none⟩) hB7 (.slice A3 (L i).length c3)).setCell (p := ⟨B8, i, none⟩) hB8 (.string (bs (prsB (L i))))
          go_wp2
          go_roundw
          case rel => exact ⟨i + 1, _, by omega, by go_num, fun k hk => by
            by_cases e : k = i
            · subst e; exact He.out
            · exact Hz.out k (by omega), g7, g8, g4, gB⟩
          case measure => simp [intOf]; omega
        · have heb : ((loadP (pg i) i).1 != 0) = true := bne_iff_ne.2 he
          go_wp2
          go_ret
          exact ⟨_, rfl, Herr.out HbF.out i hlt Hz.out he _ HB3.out⟩
      · obtain rfl : i = 4 := by omega
        have h8' := H8r.out
        rw [arr_congr (u := txs L) (fun k hk => by simp [txs, upTo, hk])] at h8'
        have h4' := H4.out.congr (fun k hk => upTo_four (L := L) k hk)
        have H8s := Lib.hid h8'
        have H4s := Lib.hid h4'
        clear h8' h4' H8r H4
        go_wp2
        go_loopw [45] (fun c wr => ActRel L act p B7 B8 w.heap.size w c wr) (fun c _ => p.length - (intOf c).toNat)
        case atStart => exact ⟨0, v, by omega, rfl, H7r.out, H8s.out, H4s.out, HBr.out⟩
        case round =>
          clear H7r H8s H4s HBr
          obtain ⟨m, v, hm, rfl, h7, h8, h4, hB⟩ := hrel
          have H7 := Lib.hid h7
          have H8 := Lib.hid h8
          have H4 := Lib.hid h4
          have HB := Lib.hid hB
          clear h7 h8 h4 hB
          by_cases hlt : m < p.length
          · obtain ⟨ad, e, d0, d1⟩ := at_pr (Kd.C_below HC.out HB.out) (m : Int) (by omega) (by omega)
            cases e
            rw [Int.toNat_natCast] at d0 d1
            have hmem : prA p m ∈ p := by rw [prA_get _ _ hlt]; exact List.getElem_mem _
            have hx := Hpf.out _ hmem
            obtain ⟨x, hxe⟩ : ∃ x, x = prA p m := ⟨_, rfl⟩
            rw [← hxe] at d0 d1 hx
            have hpm := fun W v h1 h2 => Hact.out HbF.out (fun k hk => Hz.out k hk) m hlt W v h1 h2
            have hPM : PM L act p (m + 1) = upN (PM L act p m) (bucket x.k) (act (PM L act p m (bucket x.k)) x) := by rw [hxe]; rfl
            rw [← hxe] at hpm
            have hbk := bucket_any x.k (by have := hx.1; omega)
            have hbl := bucket_lt x.k
            obtain ⟨n, hn⟩ : ∃ n, n = bucket x.k := ⟨_, rfl⟩
            rw [← hn] at hpm hPM hbk hbl
            obtain ⟨k, hk⟩ : ∃ k, k = x.k := ⟨_, rfl⟩
            obtain ⟨u, hu⟩ : ∃ u, u = x.v := ⟨_, rfl⟩
            rw [← hk] at d0 hpm hbk
            rw [← hu] at d1 hpm
            obtain ⟨P', hP'⟩ : ∃ P', P' = act (PM L act p m n) x := ⟨_, rfl⟩
            rw [← hP'] at hpm hPM
            have HA := Lib.hid hpm
            have HPM := Lib.hid hPM
            clear hpm hPM hP' hx hmem hxe hn hk hu
            go_upto_region 16 with fail
            obtain ⟨w6, hw6⟩ : ∃ w6, w6 = wr.alloc (.cells #[.string (bs k), .string (bs u)] 63) := ⟨_, rfl⟩
            rw [← hw6]
            have hb6 : Below wr.heap.size wr w6 := by rw [hw6]; exact (Below.refl _ _).alloc (Nat.le_refl _) _
            have hk6 : Blk w6 wr.heap.size #[.string (bs k), .string (bs u)] 63 := by rw [hw6]; exact Blk.new wr _ 63
            have hs6 : wr.heap.size < w6.heap.size := Blk.lt hk6
            obtain ⟨B13, e13⟩ : ∃ B13, B13 = wr.heap.size := ⟨_, rfl⟩
            rw [← e13] at hk6 hs6 ⊢
            have hown : ∀ q, (v n).ownBlock = some q → q < B13 := fun q hq => by rw [e13]; exact (R_base (H4.out.r n hbl) hq).2
            have c0 : w6.cell? ⟨B13, 0, none⟩ = some (.string (bs k)) := hk6.cell 0
            have c1 : w6.cell? ⟨B13, 1, none⟩ = some (.string (bs u)) := hk6.cell 1
            have H7w := Lib.hid (H7.out.below hb6)
            have H8w := Lib.hid (H8.out.below hb6)
            have H4w := Lib.hid (H4.out.below hb6)
            have HB6 := Lib.hid (HB.out.trans (hb6.mono HB.out.size))
            have Hown := Lib.hid hown
            have Hk6 := Lib.hid hk6
            have hB13 : w.heap.size ≤ B13 := by rw [e13]; exact HB.out.size
            have hn13 : B13 ≠ B7 := by have := H7.out.lt; omega
            clear hw6 hb6 hk6 hown e13 d0 d1 H7 H8 H4 HB
            go_wp2_with fail
            refine (hbk w6).mono ?_
            rintro e w7 ⟨rfl, rfl⟩
            have i0 : (0 : Int) ≤ (n : Int) := by omega
            have i1 : (n : Int) < 4 := by omega
            go_upto_region 17 with fail
            have c7 : w6.cell? ⟨B7, n, none⟩ = some (v n) := (H7w.out.cell n).trans (arr_get _ hbl)
            have hr6 := H4w.out.r n hbl
            have hnB7 : some B7 ≠ (v n).ownBlock := Kd.R_ne hr6 (show w6.heap[B7]? = _ from H7w.out) (by decide)
            have hnB8 : some B8 ≠ (v n).ownBlock := Kd.R_ne hr6 (show w6.heap[B8]? = _ from H8w.out) (by decide)
            obtain ⟨vn, hvn⟩ : ∃ vn, vn = v n := ⟨_, rfl⟩
            rw [← hvn] at c7 hnB7 hnB8
            obtain ⟨A9, c9, hsl⟩ := Kd.R_slice hr6
            rw [← hvn] at hsl
            have hca := HA.out w6.drew vn HB6.out.size (by rw [hvn]; exact Kd.R_below hr6 (below_drewN (Below.refl _ _) 1))
            have HCa := Lib.hid hca
            have Hvn := Lib.hid hvn
            have HnB7 := Lib.hid hnB7
            have HnB8 := Lib.hid hnB8
            clear hr6 hca hvn hnB7 hnB8
            subst hsl
            go_region_with (first | (refine HCa.out.mono ?_; rintro e wB ⟨v', rfl, hR', hm', ho'⟩; obtain ⟨A2, c2, rfl⟩ := Kd.R_slice hR'; have hnq : (Value.slice A9 (PM L act p m n).length c9).ownBlock ≠ some B13 := (fun h => absurd (Hown.out B13 (by rw [← Hvn.out]; exact h)) (by omega)); have x0 : wB.cell? ⟨B13, 0, none⟩ = some (.string (bs k)) := hm'.cell c0 hnq; have x1 : wB.cell? ⟨B13, 1, none⟩ = some (.string (bs u)) := hm'.cell c1 hnq; have hBB : Blk wB B7 (arr v) 148 := (H7w.out.below (below_drewN (Below.refl _ _) 1)).kept hm' (fun h => HnB7.out h.symm); have fB : wB.frozen? ⟨B7, n, none⟩ = false := hBB.free n; have cB : wB.cell? ⟨B7, n, none⟩ = some (.slice A9 (PM L act p m n).length c9) := (hBB.cell n).trans ((arr_get _ hbl).trans (by rw [Hvn.out])); have y0 : (wB.setCell ⟨B7, n, none⟩ (.slice A2 P'.length c2)).cell? ⟨B13, 0, none⟩ = some (.string (bs k)) := (World.cell?_setCell_other _ _ _ _ (fun e => hn13 (congrArg Addr.block e).symm)).trans x0; have y1 : (wB.setCell ⟨B7, n, none⟩ (.slice A2 P'.length c2)).cell? ⟨B13, 1, none⟩ = some (.string (bs u)) := (World.cell?_setCell_other _ _ _ _ (fun e => hn13 (congrArg Addr.block e).symm)).trans x1))
            all_goals (
              have g7 := hBB.set n (.slice A2 P'.length c2)
              rw [arr_set _ hbl] at g7
              have h8B : Blk wB B8 (arr (txs L)) 149 := (H8w.out.below (below_drewN (Below.refl _ _) 1)).kept hm' (fun h => HnB8.out h.symm)
              have g8 := h8B.far (p := ⟨B7, n, none⟩) hne1 (.slice A2 P'.length c2)
              have hm2 : Mut (fun q => (v n).ownBlock = some q) w6.drew wB := by rw [← Hvn.out]; exact hm'
              have g4 := (((H4w.out.below (below_drewN (Below.refl _ _) 1)).up hbl hR' hm2 (fun q hq => by rw [← Hvn.out]; exact ho' q hq)).far hBB (by decide) (mut_set wB B7 n (.slice A2 P'.length c2)))
              rw [← HPM.out] at g4
              have gB := ((HB6.out.trans ((below_drewN (Below.refl _ _) 1 : Below w6.heap.size w6 w6.drew).mono HB6.out.size)).trans (hm2.below HB6.out.size (fun q hq he => by have := (R_base (H4w.out.r n hbl) he).1; omega))).setCell (p := ⟨B7, n, none⟩) hB7 (.slice A2 P'.length c2)
              go_wp2
              go_roundw
              case rel =>
                repeat apply Exists.intro
                exact ⟨⟨m + 1, _, by omega, by go_num, g7, g8, g4, gB⟩, rfl⟩
              case measure => simp [intOf]; omega)
          · obtain rfl : m = p.length := by omega
            have a0 : wr.cell? ⟨B7, 0, none⟩ = some (v 0) := H7.out.cell 0
            have a1 : wr.cell? ⟨B7, 1, none⟩ = some (v 1) := H7.out.cell 1
            have a2 : wr.cell? ⟨B7, 2, none⟩ = some (v 2) := H7.out.cell 2
            have a3 : wr.cell? ⟨B7, 3, none⟩ = some (v 3) := H7.out.cell 3
            go_wp2
            go_loopw [62] (fun c wr' => RoomRel (PM L act p p.length) wr c wr') (fun c _ => 4 - (intOf c).toNat)
            case atStart => exact ⟨0, by omega, rfl, fun k hk => by omega, Below.refl _ _⟩
            case round =>
              obtain ⟨i, hi, rfl, hr, hb⟩ := hrel
              have Hr := Lib.hid hr
              have Hb := Lib.hid hb
              clear hr hb
              by_cases hlt : i < 4
              · have hri := Kd.R_below (H4.out.r i hlt) Hb.out
                have hsm := Hsm.out HbF.out p.length (Nat.le_refl _) i hlt (Hz.out i hlt)
                obtain ⟨A9, c9, hsl, _, hC9⟩ := Kd.R_reads hri
                have hix := fun W => index148 v i hlt W
                have i0 : (0 : Int) ≤ (i : Int) := by omega
                have i1 : (i : Int) < 4 := by omega
                simp only [hsl] at hix
                have htx := calls_later (P := Try.prog) (f := 86) (w := wr) (v := .string (bs (prsB (PM L act p p.length i)))) (fun W hW => text_any (PM L act p p.length i) hsm.1 hsm.2 A9 c9 W (Kd.C_below hC9 hW))
                have hgc : wr.cell? ⟨g, 2, none⟩ = some (.int .i64 64) := ((Hg.out.below HB.out).below Hb.out).cell 2
                have hsz := bs_size (prsB (PM L act p p.length i))
                obtain ⟨t, ht⟩ : ∃ t, t = bs (prsB (PM L act p p.length i)) := ⟨_, rfl⟩
                rw [← ht] at htx hsz
                obtain ⟨q, hq9⟩ : ∃ q, q = (prsB (PM L act p p.length i)).length := ⟨_, rfl⟩
                rw [← hq9] at hsz
                have Htx := Lib.hid htx
                have Hq := Lib.hid hq9
                clear hri hsm hC9 hsl ht htx hq9 a0 a1 a2 a3
                go_upto_region 22 with fail
                have k0 := fun n => later_cell hgc n
                by_cases hbig : 64 < q
                · refine wp_region_later (by kernel_rfl) (by kernel_rfl) ?_
                  repeat go_big_quiet_step (fail)
                  go_big_quiet_step (with_reducible exact Htx.out _)
                  repeat go_big_quiet_step (fail)
                  refine wpQuiet_nil ?_
                  intro w8 hw8
                  have hb8 := later_of hw8
                  have HB8 := Lib.hid ((HB.out.trans (Hb.out.mono HB.out.size)).trans (hb8.mono (HB.out.trans (Hb.out.mono HB.out.size)).size))
                  clear hw8 k0 hgc
                  go_wp2
                  go_ret
                  exact ⟨_, rfl, Hroom.out HbF.out Hz.out ⟨i, hlt, by rw [← Hq.out]; exact hbig⟩ _ HB8.out⟩
                · have hle : q ≤ 64 := by omega
                  refine wp_region_later (by kernel_rfl) (by kernel_rfl) ?_
                  repeat go_big_quiet_step (fail)
                  go_big_quiet_step (with_reducible exact Htx.out _)
                  repeat go_big_quiet_step (fail)
                  refine wpQuiet_nil ?_
                  intro w8 hw8
                  have hb8 := later_of hw8
                  have HB8 := Lib.hid (Hb.out.trans (hb8.mono Hb.out.size))
                  clear hw8 k0 hgc
                  go_wp2
                  go_roundw
                  case rel =>
                    refine ⟨i + 1, by omega, by go_num, fun k hk => ?_, HB8.out⟩
                    by_cases e : k = i
                    · subst e; rw [← Hq.out]; exact hle
                    · exact Hr.out k (by omega)
                  case measure => simp [intOf]; omega
              · obtain rfl : i = 4 := by omega
                have b0 := H7.out.below Hb.out
                have b1 := H8.out.below Hb.out
                have x0 : wr.cell? ⟨B7, 0, none⟩ = some (v 0) := b0.cell 0
                have x1 : wr.cell? ⟨B7, 1, none⟩ = some (v 1) := b0.cell 1
                have x2 : wr.cell? ⟨B7, 2, none⟩ = some (v 2) := b0.cell 2
                have x3 : wr.cell? ⟨B7, 3, none⟩ = some (v 3) := b0.cell 3
                have y0 : wr.cell? ⟨B8, 0, none⟩ = some (txs L 0) := b1.cell 0
                have y1 : wr.cell? ⟨B8, 1, none⟩ = some (txs L 1) := b1.cell 1
                have y2 : wr.cell? ⟨B8, 2, none⟩ = some (txs L 2) := b1.cell 2
                have y3 : wr.cell? ⟨B8, 3, none⟩ = some (txs L 3) := b1.cell 3
                have hw := HW.out HbF.out Hz.out Hr.out wr v (HB.out.trans (Hb.out.mono HB.out.size)) (H4.out.below Hb.out)
                clear a0 a1 a2 a3 b0 b1
                go_wp2_with fail
                refine hw.mono ?_
                rintro e w9 ⟨z, rfl, hz9⟩
                go_wp2
                go_ret
                exact ⟨_, rfl, hz9⟩
end Go.Proofs.Yteilmbhnbmmcjaa.B
