/- Helper: what is to be noted, as an argument; a space sealed; a low part of a number. No condition. -/
import Derived.Test.YteilmbhnbmmcjaaLs
import Derived.Laws.Bits128
namespace Go.Proofs.Yteilmbhnbmmcjaa.B
open Go.RowKit Go.Proofs.YteilmbhnbmmcjaaW.PrintWords Go.Proofs.Yteilmbhnbmmcjaa.Later
set_option maxRecDepth 100000
set_option maxHeartbeats 1600000
theorem and_pow (m : Nat) (hm : m < 63) (c n : Int) (hc : c = (2 ^ m - 1 : Nat)) : Go.bits .and .i64 n c = n % (2 ^ m : Nat) := by
  have h1 : 2 ^ m ≤ 2 ^ 62 := Nat.pow_le_pow_right (by decide) (by omega)
  have hp : 0 < 2 ^ m := Nat.two_pow_pos m
  have h127 : (BitVec.ofInt 64 c).toNat = 2 ^ m - 1 := by
    rw [BitVec.toNat_ofInt, hc, show ((2 : Nat) ^ 64) = 18446744073709551616 from by decide]
    have : ((2 ^ m - 1 : Nat) : Int) % ((18446744073709551616 : Nat) : Int) = ((2 ^ m - 1 : Nat) : Int) := Int.emod_eq_of_lt (by omega) (by omega)
    rw [this]; rfl
  have key : (BitVec.ofInt 64 n &&& BitVec.ofInt 64 c).toNat = (n % ((2 ^ 64 : Nat) : Int)).toNat % 2 ^ m := by
    rw [BitVec.toNat_and, BitVec.toNat_ofInt, h127, Nat.and_two_pow_sub_one_eq_mod]
  show Go.IntKind.i64.wrap ((BitVec.ofInt 64 n &&& BitVec.ofInt 64 c).toNat : Nat) = _
  rw [key, Go.IntKind.wrap_i64]
  have h3 : ((((n % ((2 ^ 64 : Nat) : Int)).toNat % 2 ^ m : Nat)) : Int) = n % ((2 ^ m : Nat) : Int) := by
    rw [Int.natCast_emod, Int.toNat_of_nonneg (Int.emod_nonneg _ (by decide))]
    refine Int.emod_emod_of_dvd n ?_
    exact Int.natCast_dvd_natCast.2 (Nat.pow_dvd_pow 2 (by omega))
  rw [h3]
  have h4 := Int.emod_nonneg n (b := ((2 ^ m : Nat) : Int)) (by omega)
  have h5 := Int.emod_lt_of_pos n (b := ((2 ^ m : Nat) : Int)) (by omega)
  omega
theorem and_nat (m : Nat) (hm : m < 63) (c n : Int) (hc : c = (2 ^ m - 1 : Nat)) : ∃ k : Nat, Go.bits .and .i64 n c = k ∧ (k : Int) ≤ c := by
  rw [and_pow m hm c n hc]
  have hp : 0 < 2 ^ m := Nat.two_pow_pos m
  have h4 := Int.emod_nonneg n (b := ((2 ^ m : Nat) : Int)) (by omega)
  have h5 := Int.emod_lt_of_pos n (b := ((2 ^ m : Nat) : Int)) (by omega)
  exact ⟨(n % ((2 ^ m : Nat) : Int)).toNat, by omega, by omega⟩
/-- Something that is to be noted. -/
structure Ad where
  k : Int
  t : ByteArray
instance : Inhabited Ad := ⟨⟨0, ⟨#[]⟩⟩⟩
def adK : Kd Ad := Kd.iso (Kd.pair (Kd.int .i64) Kd.string) (fun x => (x.k, x.t))
def adA (l : List Ad) (i : Nat) : Ad := l.getD i default
theorem at_ad {w : World} {A : Option Addr} {n : Nat} {xs : List Ad} (h : Kd.C adK w A n xs) (i : Int) (h0 : 0 ≤ i) (h1 : i < n) :
    ∃ ad, A = some ad ∧ w.cell? (ad.add (i.toNat * 2)) = some (.int .i64 (adA xs i.toNat).k) ∧ w.cell? ⟨(ad.add (i.toNat * 2)).block, (ad.add (i.toNat * 2)).off + 1, none⟩ = some (.string (adA xs i.toNat).t) := by
  obtain ⟨ad, c, e, _, hK, hc0⟩ := Kd.C_get h default i h0 h1
  have hc : ∀ j u, c[j]? = some u → w.cell? (ad.add (i.toNat * 2 + j)) = some u := hc0
  obtain ⟨_, _, rfl, rfl, rfl⟩ := hK
  exact ⟨ad, e, hc 0 _ rfl, by rw [← add_field _ _ 1 (by omega)]; exact hc 1 _ rfl⟩
/-- The device while a space is being sealed. -/
def SealOf (w : World) (a : Nat) (l : List Nt) (opn : Option Bool) : Prop :=
  ∃ pg many, PgIn 7 pg ∧ PgOk ct pg (bk ntSz l) (bs (numL l.length ++ numL (bk ntSz l).page)) ∧ 0 ≤ many ∧ many ≤ (if opn = some true then 8 else 7) ∧ MdAt w a (mkM (LT 4 7 pg false) (opn.map fun s => LT 4 7 pg s) many)
theorem begin_dev (sl : Bool) (l : List Nt) (a : Nat) (w : World) (hD : DevOf sl w a l) : Calls Try.prog 15 #[.pointer (some ⟨a, 0, none⟩)] w fun e w' => e = .returned (.int .i64 0) ∧ Mut (only a) w w' ∧ (sl = false → SealOf w' a l (some false)) := by
  obtain ⟨pg, many, h1, h2, h3⟩ := hD
  refine (begin_any _ a w h3).mono ?_
  rintro e w' ⟨rfl, k1, k2⟩
  refine ⟨rfl, k2, fun hs => ?_⟩
  subst hs
  exact ⟨pg, 0, h1, h2, by omega, by simp, k1⟩
def rSeal : Rc := ⟨7, 4, 0, 0, 0, 0⟩
theorem rSeal_may : rSeal.may = true := by decide
theorem rSeal_do (pg : Int → Option ByteArray) : doT (LT 4 7 pg false) rSeal = (0, LT 4 7 pg true) := by
  have : LT 4 7 pg false rSeal.s = some ⟨7, false, pg⟩ := LT_at 4 7 pg false
  simp only [doT, this]
  rw [if_neg (show ¬ rSeal.k = 4 by decide), if_neg (show ¬ rSeal.k = 5 by decide), if_neg (show ¬ rSeal.k = 6 by decide), if_pos (show rSeal.k = 7 by decide)]
  exact congrArg (Prod.mk 0) (LT_up 4 7 7 pg pg false true)
theorem seal_dev (l : List Nt) (a : Nat) (w : World) (hD : SealOf w a l (some false)) : Calls Try.prog 16 #[.pointer (some ⟨a, 0, none⟩), .agg #[.int .i64 7, .int .i64 4, .int .i64 0, .int .i64 0, .int .i64 0, .int .i64 0]] w fun e w' => e = .returned (.int .i64 0) ∧ Mut (only a) w w' ∧ SealOf w' a l (some true) := by
  obtain ⟨pg, many, h1, h2, h3, h4, h5⟩ := hD
  have hd := do_m7 (mkM (LT 4 7 pg false) (some (LT 4 7 pg false)) many) a w h5 (LT 4 7 pg false) rfl h3 rSeal rfl (by constructor <;> decide) (fun _ => by rw [rSeal_do]; exact LT_wf (by omega) (by omega) (by omega) (by omega) h1 true) (fun _ _ => by rw [rSeal_do, LT_total (by omega) (by omega)]; refine ⟨?_, ?_, by decide⟩ <;> simp [mkM])
  rw [rSeal_may, if_pos rfl, rSeal_do] at hd
  have e : mStep (mkM (LT 4 7 pg false) (some (LT 4 7 pg false)) many) (0, LT 4 7 pg true) = (0, mkM (LT 4 7 pg false) (some (LT 4 7 pg true)) (many + 1)) := by
    unfold mStep
    rw [if_neg (by simp at h4; simp [mkM]; omega), if_neg (by simp)]
    rfl
  rw [e] at hd
  refine hd.mono ?_
  rintro e w' ⟨rfl, k1, k2⟩
  exact ⟨rfl, k2, pg, many + 1, h1, h2, by omega, by simp at h4 ⊢; omega, k1⟩
theorem commit_dev (l : List Nt) (a : Nat) (w : World) (hD : SealOf w a l (some true)) : Calls Try.prog 17 #[.pointer (some ⟨a, 0, none⟩)] w fun e w' => e = .returned (.int .i64 0) ∧ Mut (only a) w w' ∧ DevOf true w' a l := by
  obtain ⟨pg, many, h1, h2, h3, h4, h5⟩ := hD
  refine (commit_m _ a w h5).mono ?_
  rintro e w' ⟨rfl, k1, k2⟩
  exact ⟨rfl, k2, pg, many, h1, h2, k1⟩
end Go.Proofs.Yteilmbhnbmmcjaa.B
