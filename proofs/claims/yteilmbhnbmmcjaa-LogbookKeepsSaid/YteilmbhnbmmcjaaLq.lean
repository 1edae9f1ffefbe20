/- Helper: two notes, there and back; walked. No condition. -/
import Derived.Test.YteilmbhnbmmcjaaLo
namespace Go.Proofs.Yteilmbhnbmmcjaa.B
open Go.RowKit Go.Proofs.YteilmbhnbmmcjaaW.PrintWords Go.Proofs.Yteilmbhnbmmcjaa.Later
set_option maxRecDepth 100000
set_option maxHeartbeats 1600000
def n1 : Nt := ⟨1, 1, [111, 110, 101]⟩
def n2 : Nt := ⟨2, 2, [116, 119, 111]⟩
theorem n12_kept : (bk ntSz [n1, n2]).kept 6 = [n1, n2] := by
  have h1 : ntSz n1 + ntSz n2 ≤ 64 := by
    have l1 := leL_len 1 1 (by omega)
    have l2 := leL_len 1 2 (by omega)
    have l3 := leL_len 1 3 (by omega)
    simp [ntSz, n1, n2, Nt.bytes, numL, textL]
    omega
  have h2 : ntSz n1 ≤ 64 := by omega
  have e1 : bk ntSz [n1] = ⟨[], [n1]⟩ := by
    rw [show [n1] = [] ++ [n1] from rfl, bk_snoc, bk_nil, Bk.add, if_pos (by simpa [szL] using h2)]
  have e2 : bk ntSz [n1, n2] = ⟨[], [n1, n2]⟩ := by
    rw [show [n1, n2] = [n1] ++ [n2] from rfl, bk_snoc, e1, Bk.add, if_pos (by simpa [szL] using h1)]
  rw [e2]
  simp [Bk.kept]
theorem head_nt {w : World} {base : Nat} {ok : Nat → Prop} {v : Value} {xs : List Nt} (h : ntK.R 45 w base ok v xs) (h0 : 0 < xs.length) : ∃ g c, v = .slice (some ⟨g, 0, none⟩) xs.length c ∧ xs.length ≤ c ∧ base ≤ g ∧ ∀ i : Nat, i < xs.length → w.cell? ⟨g, i * 3, none⟩ = some (.int .i64 (ntA xs i).n) ∧ w.cell? ⟨g, i * 3 + 1, none⟩ = some (.int .i64 (ntA xs i).k) ∧ w.cell? ⟨g, i * 3 + 2, none⟩ = some (.string (bs (ntA xs i).t)) := by
  obtain ⟨inner, ho⟩ := Kd.R_own h
  obtain ⟨g, cap, rfl, hg, _⟩ := World.ownsRow.form ho h0
  obtain ⟨A, c, e, hl, hC⟩ := Kd.R_reads h
  injection e with e1 e2 e3
  subst e1; subst e3
  refine ⟨g, cap, rfl, hl, hg, fun i hi => ?_⟩
  obtain ⟨ad, e, d0, d1, d2⟩ := at_nt hC (i : Int) (by omega) (by omega)
  cases e
  rw [Int.toNat_natCast, add_plain] at d0 d1 d2
  exact ⟨d0, d1, d2⟩
theorem awake40 (w : World) : Calls Try.prog 14 #[] w fun e w' => e = .returned (.bool true) ∧ Below w.heap.size w w' := by
  go_enter Try.func14, Try.ntmps14
  go_wp2_with fail
  refine (disk_any _).mono ?_
  rintro e w1 ⟨a, rfl, ha, hM, hB1⟩
  have HB1 := Lib.hid hB1
  clear hB1
  go_wp2_with fail
  refine (noted_make a _ hM).mono ?_
  rintro e w2 ⟨rfl, hD2, hm2⟩
  have HB2 := Lib.hid (Below.mut HB1.out hm2 HB1.out.size ha)
  clear hM hm2
  go_wp2_with fail
  refine (noted_open false [] noted_nil a _ hD2).mono ?_
  rintro e w3 ⟨g, rfl, hg, hb3, hB3⟩
  have hD3 := hD2.below hB3
  have hgw : w.heap.size ≤ g := by have := HB2.out.size; omega
  have HB3 := Lib.hid (HB2.out.trans (hB3.mono HB2.out.size))
  clear hD2 hB3 hg
  have hA1 := noted_add [] noted_nil a g 1 [111, 110, 101] (by decide) (by decide) w3 hD3 hb3
  have HA1 := Lib.hid (show Calls Try.prog 18 #[.pointer (some ⟨g, 0, none⟩), .int .i64 1, .string ⟨#[111, 110, 101]⟩] w3 fun e w' => e = .returned (.tuple #[.int .i64 1, .int .i64 0]) ∧ DevOf false w' a [n1] ∧ BookOf w' a g [n1] ∧ Mut (two a g) w3 w' from hA1)
  clear hA1 hD3 hb3
  go_wp2_with fail
  refine HA1.out.mono ?_
  rintro e w4 ⟨rfl, hD4, hb4, hm4⟩
  have HB4 := Lib.hid (HB3.out.trans (hm4.below HB3.out.size (fun i hi e => by rcases e with e | e <;> omega)))
  have hn1 : Noted [n1] := noted_nil.snoc 1 [111, 110, 101] (by decide) (by decide) (by decide)
  have hA2 := noted_add [n1] hn1 a g 2 [116, 119, 111] (by decide) (by decide) w4 hD4 hb4
  have HA2 := Lib.hid (show Calls Try.prog 18 #[.pointer (some ⟨g, 0, none⟩), .int .i64 2, .string ⟨#[116, 119, 111]⟩] w4 fun e w' => e = .returned (.tuple #[.int .i64 2, .int .i64 0]) ∧ DevOf false w' a [n1, n2] ∧ BookOf w' a g [n1, n2] ∧ Mut (two a g) w4 w' from hA2)
  have hn2 : Noted [n1, n2] := hn1.snoc 2 [116, 119, 111] (by decide) (by decide) (by decide)
  clear hA2 hD4 hb4 hm4 HA1
  go_wp2_with fail
  refine HA2.out.mono ?_
  rintro e w5 ⟨rfl, hD5, hb5, hm5⟩
  have HB5 := Lib.hid (HB4.out.trans (hm5.below HB4.out.size (fun i hi e => by rcases e with e | e <;> omega)))
  clear hm5 HA2
  go_wp2_with fail
  refine (noted_all false [n1, n2] hn2 a g w5 hD5 hb5).mono ?_
  rintro e w6 ⟨⟨v, rfl, hR⟩, hB6⟩
  rw [n12_kept] at hR
  obtain ⟨gv, c, rfl, hlc, _, hcell⟩ := head_nt hR (by decide)
  have d5 : w6.cell? ⟨gv, 5, none⟩ = some (.string ⟨#[116, 119, 111]⟩) := (hcell 1 (by decide)).2.2
  have HB6 := Lib.hid (HB5.out.trans (hB6.mono HB5.out.size))
  have hb6 := Lib.hid (hb5.below hB6 : BookOf w6 a g [n1, n2])
  clear hR hcell hB6 hD5 hb5
  have hlc' : 2 ≤ c := hlc
  clear hlc
  have hl := last_any a g 4 64 2 (ntsB (bk ntSz [n1, n2]).cur) (bk ntSz [n1, n2]).page w6 hb6.out
  have Hl := Lib.hid hl
  clear hl
  rw [show [n1, n2].length = 2 from rfl]
  have z : (0 : Int) ≤ 1 := by decide
  go_wp2_with (first | (go_at_call 20; with_reducible refine Hl.out.mono ?_; rintro e w7 ⟨rfl, rfl⟩))
  go_ret
  exact ⟨rfl, HB6.out⟩
end Go.Proofs.Yteilmbhnbmmcjaa.B
