/- Helper: what comes of an act, plainly. No condition. -/
import Derived.Test.YteilmbhnbmmcjaaNf
import Derived.Laws.StructEq
namespace Go.Proofs.Yteilmbhnbmmcjaa.B
open Go.RowKit Go.Proofs.YteilmbhnbmmcjaaW.PrintWords Go.Proofs.Yteilmbhnbmmcjaa.Later
set_option maxRecDepth 100000
/-- What may not be of a pair: when keys are let go, the key alone counts. -/
def bd (b : Bool) (x : Pr) : Bool := !goodK x.k (if b then [] else x.v)
/-- What an act tells. -/
def wantOf (b : Bool) (m p : List Pr) : Int := if p.any (bd b) = true then 1 else if fitsB (foldA b m p p.length) = true then 0 else 172
/-- What an act leaves. -/
def ActOut (m N : List Pr) (a : Nat) (want : Int) (w wx : World) : Prop :=
  ∃ (m' : List Pr) (pg' : Nat → Option (List UInt8)), Says pg' m' ∧ KvDev wx a pg' ∧ Mut (only a) w wx ∧ (want = 0 → m' = N) ∧ (want ≠ 0 → m' = m)
theorem fitsB_iff {N : List Pr} (h : AllGood N) : fitsB N = true ↔ ∀ k, k < 4 → (prsB (fl k N)).length ≤ 64 := by
  unfold fitsB
  rw [bsum_len h, bsum_len h, bsum_len h, bsum_len h]
  simp only [Bool.and_eq_true, decide_eq_true_eq]
  constructor
  · rintro ⟨⟨⟨h0, h1⟩, h2⟩, h3⟩ k hk
    rcases (show k = 0 ∨ k = 1 ∨ k = 2 ∨ k = 3 by omega) with rfl | rfl | rfl | rfl <;> assumption
  · intro h
    exact ⟨⟨⟨h 0 (by omega), h 1 (by omega)⟩, h 2 (by omega)⟩, h 3 (by omega)⟩
theorem chg_out {b : Bool} {m p : List Pr} {pg : Nat → Option (List UInt8)} {a : Nat} {w : World} {z : Int} {w2 : World} (hS : Says pg m) (hD : KvDev w a pg) (h : ChgQ b m p pg a w z w2) (want : Int)
    (hw : want = if p.any badP = true then 1 else if fitsB (foldA b m p p.length) = true then 0 else 172) : z = want ∧ ActOut m (foldA b m p p.length) a want w w2 := by
  rcases h with ⟨h1, rfl, hb⟩ | ⟨h1, ⟨k, hk, h2⟩, rfl, hb⟩ | ⟨h1, h2, rfl, hd, hm⟩
  · rw [if_pos h1] at hw
    subst hw
    exact ⟨rfl, m, pg, hS, hD.below hb, Mut.of_below hb, fun h => by simp at h, fun _ => rfl⟩
  · have hN := foldA_good (b := b) hS.st hS.good h1 p.length (Nat.le_refl _)
    have hf : ¬ fitsB (foldA b m p p.length) = true := fun h => by have := (fitsB_iff hN).1 h k hk; omega
    rw [if_neg (by rw [h1]; decide), if_neg hf] at hw
    subst hw
    exact ⟨rfl, m, pg, hS, hD.below hb, Mut.of_below hb, fun h => by simp at h, fun _ => rfl⟩
  · have hN := foldA_good (b := b) hS.st hS.good h1 p.length (Nat.le_refl _)
    rw [if_neg (by rw [h1]; decide), if_pos ((fitsB_iff hN).2 h2)] at hw
    subst hw
    exact ⟨rfl, _, _, hS.next (st_foldA hS.st p _) hN, hd, hm, fun _ => rfl, fun h => absurd rfl h⟩
theorem badP_set (Y : List Pr) : Y.any badP = Y.any (bd false) := rfl
theorem badP_drop (Y : List Pr) : ((Y.map Pr.k).map keyP).any badP = Y.any (bd true) := by
  rw [List.map_map, List.any_map]; rfl
theorem act1_key (l : List Pr) {x y : Pr} (h : x.k = y.k) : act1 true l x = act1 true l y := by
  show drop1 l x = drop1 l y
  unfold drop1
  rw [h]
theorem foldA_drop (m Y : List Pr) : ∀ n, n ≤ Y.length → foldA true m ((Y.map Pr.k).map keyP) n = foldA true m Y n
  | 0, _ => rfl
  | n + 1, h => by
    simp only [foldA]
    rw [foldA_drop m Y n (by omega)]
    refine act1_key _ ?_
    rw [prA_get _ n (by simp; omega), prA_get Y n (by omega)]
    simp [keyP]
theorem want_drop (m Y : List Pr) : wantOf true m Y = if ((Y.map Pr.k).map keyP).any badP = true then 1 else if fitsB (foldA true m ((Y.map Pr.k).map keyP) ((Y.map Pr.k).map keyP).length) = true then 0 else 172 := by
  rw [badP_drop, show ((Y.map Pr.k).map keyP).length = Y.length by simp, foldA_drop m Y _ (Nat.le_refl _)]
  rfl
theorem want_good {b : Bool} {m Y : List Pr} (hS : St m) (hm : AllGood m) (h : Y.any (bd b) = false) : AllGood (foldA b m Y Y.length) :=
  foldA_all hS hm (fun hb x hx => by
    subst hb
    have := List.any_eq_false.1 h x hx
    simpa [bd] using this) Y.length (Nat.le_refl _)
theorem eqIn63 (a b : ByteArray) (W : World) : (Op.equalIn 10000 63 (.agg #[.string a, .string b]) (.agg #[.string a, .string b])).run Try.prog W = .ok true W := by
  have u9 := Try.underlying9
  have a9 := Try.isAgg9
  have z9 := Try.sizeOf9
  have hS : Try.prog.underlying 63 = some (.struct (Try.prog.fieldsOf 63)) := by kernel_rfl
  have hp : Try.prog.stoodInHeld 63 = false := by kernel_rfl
  rw [show (10000 : Nat) = 9999 + 1 from rfl, run_equalIn_agg W 9999 63 _ _ hS hp]
  simp only [Program.fieldsOf, Try.underlying63]
  go_simp
theorem neq63 (a b : ByteArray) (W : World) : (binOp .neq 63 (.agg #[.string a, .string b]) (.agg #[.string a, .string b])).run Try.prog W = .ok (.bool false) W := by
  have u9 := Try.underlying9
  have a9 := Try.isAgg9
  have z9 := Try.sizeOf9
  have hS : Try.prog.underlying 63 = some (.struct (Try.prog.fieldsOf 63)) := by kernel_rfl
  have hp : Try.prog.stoodInHeld 63 = false := by kernel_rfl
  rw [run_neq_struct, show (10000 : Nat) = 9999 + 1 from rfl, run_equalIn_agg W 9999 63 _ _ hS hp]
  simp only [Program.fieldsOf, Try.underlying63]
  go_simp
theorem kall_says (a g : Nat) (pg : Nat → Option (List UInt8)) (m : List Pr) (hS : Says pg m) (w : World) (hD : KvDev w a pg) (hg : Blk w g (stC a) 113) :
    Calls Try.prog 30 #[.pointer (some ⟨g, 0, none⟩)] w fun e w' => ∃ A c, e = .returned (.tuple #[.slice A m.length c, .int .i64 0]) ∧ Kd.C prK w' A m.length m ∧ Below w.heap.size w w' := by
  obtain ⟨F, many, hF, hFp, hlen, hM⟩ := hD
  have hpb : pgB pg (mkM (LT 5 4 F false) none many).see := fun k hk => ⟨(page_LT5 F false k).trans (hFp k hk), hlen k hk⟩
  refine (kall_any _ a g pg hpb (fun j hj => by have := loadP_len (pg j) j (hlen j hj); omega) w hM hg).mono ?_
  rintro e w' ⟨h, hb⟩
  rcases h with ⟨j, hj, _, hne, rfl⟩ | ⟨h0, L, A, c, hp, hs, rfl, hC⟩
  · rw [hS.load j hj] at hne
    exact absurd rfl hne
  · have hfl : flatP pg 4 = fl 0 m ++ (fl 1 m ++ (fl 2 m ++ fl 3 m)) := by
      simp [flatP, List.range_succ, hS.load 0 (by omega), hS.load 1 (by omega), hS.load 2 (by omega), hS.load 3 (by omega)]
    obtain rfl := sorted_perm hS.st (hp.trans (by rw [hfl]; exact flat_perm m)) hs
    exact ⟨A, c, rfl, hC, hb⟩
end Go.Proofs.Yteilmbhnbmmcjaa.B
