/- Whatever is installed, piece by piece, checked, switched, started and confirmed: each call is told what the document says, and just that is there, for every input. No condition. -/
import Derived.Test.YticnmogeknlmeaaGreatDoorRows
import Derived.Test.YticnmogeknlmeaaGreatDoorNOpens
import Derived.Test.YticnmogeknlmeaaGreatDoorNZz
import Derived.Test.YticnmogeknlmeaaGreatDoorTie
import Derived.Test.YticnmogeknlmeaaGreatDoorCards
import Derived.WalkKit
import Derived.Lay
import Derived.LaidOnce
import Derived.SevenTiedAt
import Derived.ProofKit
import Derived.OpenShut
import Derived.ShutString
import Derived.ChangeOld
import Derived.Below
import Derived.SizedLaws
namespace Go.Proofs.YticnmogeknlmeaaGreatDoor.updPlays
open Go.ChangeShapes Go.WideShapes Go.ChangeAt Go.RowKit Go.Proofs.YticnmogeknlmeaaGreatDoorW.PrintWords Go.Proofs.YticnmogeknlmeaaGreatDoor.Opens
open Go.ChangeMaps (open_string shut_string)
set_option linter.unusedVariables false
theorem own : ownKnob Tryz.prog.godebug = none := by kernel_rfl
theorem laidOut : laidOutB Tryz.prog = true := by kernel_rfl
theorem acts_open : Opens Tryz.prog 22 (Kd.slice 41 Go.Proofs.YticnmogeknlmeaaGreatDoor.B.acK) (fun l => l.length ≤ maxLen) :=
  opens_weak (opens_slice Tryz.underlying22 (by kernel_rfl) (opens_struct (fun x : Go.Proofs.YticnmogeknlmeaaGreatDoor.B.Ac => (x.k, x.n, x.t)) (fun p => ⟨p.1, p.2.1, p.2.2⟩) (fun _ => rfl) Tryz.underlying41 (by kernel_rfl) (opens_cons rfl (by kernel_rfl) (opens_int Tryz.underlying3) (opens_cons rfl (by kernel_rfl) (opens_int Tryz.underlying3) (opens_one rfl (by kernel_rfl) (opens_string Tryz.underlying9)))))) (fun _ h => h.1)
theorem B.uplays_row (v : Int) (b : ByteArray) (hb : b.size ≤ 140737488351232) (c : List Go.Proofs.YticnmogeknlmeaaGreatDoor.B.Ac) (hcl : c.length ≤ maxLen) (A : Option Addr) (cap : Nat) (w : World) (hC : Kd.C Go.Proofs.YticnmogeknlmeaaGreatDoor.B.acK w A c.length c) : Calls Tryz.prog 3 #[.int .i64 v, .string b, .slice A c.length cap] w fun e w' => e = .returned (.bool true) ∧ Below w.heap.size w w' := by
  have e : B.bs b.data.toList = b := by cases b; rfl
  have e2 : maxLen = 9223372036854775807 := by decide
  have := Go.Proofs.YticnmogeknlmeaaGreatDoor.B.uplays_any v b.data.toList (by have h : b.data.size ≤ 140737488351232 := hb; rw [Array.length_toList]; omega) c (by omega) A cap w hC
  rw [e] at this
  exact this
def laid : List (String × DataW Unit) := [("unicode/utf8.acceptRanges", Rows.laid_unicode_utf8_acceptRanges), ("unicode/utf8.first", Rows.laid_unicode_utf8_first)]
set_option maxRecDepth 100000 in
theorem lifted (os : Os) (started : os.Started) (H : Type) (enc : TypeId × Value → H) :
    ReturnsInHanded {} Tryz.checked os 3 .any (fun w args => (Rows.updPlaysSpec.pre enc Tryz.prog Tryz.f3 [] false w args ∧ laidMetH Tryz.prog laid w) ∧ sizedMet enc Tryz.prog Tryz.f3 (OpenSpec.ofChange Rows.updPlaysSpec) false w args)
      (Rows.updPlaysSpec.post enc Tryz.prog Tryz.f3 false true false false) := by
  refine returnsInHanded_of_change_and (C := Tryz.checked) (X := fun w _ => laidMetH Tryz.prog laid w) (fun _ _ _ hh h => h.of_heap hh) own started (by kernel_rfl) Tryz.func3
    (ChangeSpec.witness_shaped (enc := enc) (C := Tryz.checked) (os := os) (X := fun w _ => laidMetH Tryz.prog laid w) false (World.laidAll Tryz.prog os laid) #[.int .i64 0, .string ByteArray.empty, .slice none 0 0] 8 (World.laidAll_os _ _ _)
      (World.shaped_of_ZipB (by kernel_rfl) (by kernel_rfl)) (by kernel_rfl) (by kernel_rfl) (by kernel_rfl)
      (by rw [MakeChecks.laidMetH_plain _ _ _ (by kernel_rfl)]; exact laidMet_laidAll _ (by kernel_rfl) (by kernel_rfl))) ?_
  intro W base args ds gs before hval0 hW hcnd hsz0 hL _
  have hsz : (DataW.weightsEach Tryz.prog (Tryz.f3.params.toList ++ Rows.updPlaysSpec.plain.varTypes Tryz.prog) (ds ++ gs)).all (· ≤ reachBytes) = true := hsz0
  have hval : ∀ (j : Nat) t v, Tryz.f3.params[j]? = some t → args[j]? = some v → Value.okWide Tryz.prog W .any base t v := hval0
  have hW' := hW
  obtain ⟨p, q, hA0, hV, rfl, hfz, hnd⟩ := hW
  have hA : DataW.TrodAll enc Tryz.prog W 0 (fun _ => true) true Tryz.f3.params.toList args.toList ds p := hA0
  rw [Tryz.params3] at hA hval hsz
  obtain ⟨v0, vs0, d0, ds0, p0, q0, hargs, rfl, rfl, h0, r0⟩ := trodAll_cons hA
  obtain ⟨v1, vs1, d1, ds1, p1, q1, rfl, rfl, rfl, h1, r1⟩ := trodAll_cons r0
  obtain ⟨v2, vs2, d2, ds2, p2, q2, rfl, rfl, rfl, h2, r2⟩ := trodAll_cons r1
  obtain ⟨rfl, rfl, rfl⟩ := trodAll_nil r2
  obtain rfl : args = #[v0, v1, v2] := by cases args; simp_all
  obtain ⟨rfl, rfl⟩ := trodVars_none hV
  obtain ⟨a0, rfl, rfl, rfl, w0⟩ := open_int Tryz.underlying3 (hval 0 3 v0 rfl rfl) h0
  obtain ⟨a1, rfl, rfl, rfl, y1⟩ := open_string Tryz.underlying9 (hval 1 9 v1 rfl rfl) h1
  have w1 : a1.size ≤ 140737488351232 := by
    have z := sized_string hsz (j := 1) (t := 9) rfl rfl
    rw [Array.length_toList] at z
    exact z
  obtain ⟨A2, len2, cap2, rfl⟩ := okWide_slice Tryz.underlying22 (hval 2 22 v2 rfl rfl)
  have k2 := h2
  have lt2 : ∀ x ∈ p2, x.block < W.heap.size := by obtain ⟨m, hm⟩ := k2; exact DataW.trod_lt m _ _ _ hm
  obtain ⟨l2, rfl, hc2, hle2, wf2⟩ := open_slice_arg acts_open h2
  clear hA0 hval0 hsz0
  refine (B.uplays_row a0 a1 w1 l2 wf2 A2 cap2 W hc2).mono fun e W' ⟨he, bel⟩ => ?_
  subst he
  exact ⟨_, rfl, _, _, _, [], _, [], hW', trodAll_mk1 (shut_bool Tryz.underlying4 _), (trodAll_cons_mk (shut_int Tryz.underlying3 w0) (trodAll_cons_mk (shut_string Tryz.underlying9 y1) (trodAll_cons_mk (Below.trod laidOut (by kernel_rfl) (of_decide_eq_true (by kernel_rfl)) k2 bel lt2) trodAll_mk0))), rfl, bel.frame _, fun h => by cases h⟩
theorem over : Rows.updPlaysRow.holds Tryz.pinned (OpenSpec.ofChange Rows.updPlaysSpec) :=
  OpenClaim.holds_of_wide 3 Tryz.f3 rfl rfl rfl rfl rfl rfl rfl ⟨rfl, rfl, rfl, rfl, rfl⟩ rfl rfl rfl rfl rfl (by kernel_rfl) Tryz.func3 (by kernel_rfl)
    (of_decide_eq_true (by kernel_rfl)) (by unfold Func.isWrapper; first | (rw [if_pos (by decide +kernel)]; kernel_rfl) | (rw [if_neg (by decide +kernel)]; exact ⟨rfl, rfl⟩))
    (fun os started H enc _ => lifted os started H enc)
theorem proved : Rows.UpdPlaysSaid := over
theorem card : Rows.UpdPlaysCardSaid :=
  Claim7.holds_tied_plain_at .later [] [.data, .pinned] true (true, "564cec43739640e3817435ac56509a39366a90879e5dc8d6d96e9284e026fd55") true over (fun _ h => by cases h) (by kernel_rfl) (fun _ h => by cases h) updPlays_row_tie rfl ⟨rfl, rfl⟩ (by kernel_rfl) rfl
    (fun f fn hf hfn => by
      obtain rfl : f = 3 := Option.some.inj ((show Tryz.prog.funcNamed "tinderbox/tinderboxlaw22.UpdPlays" = some 3 by kernel_rfl).symm.trans hf) |>.symm
      obtain rfl : fn = Tryz.f3 := (Option.some.inj (Tryz.func3.symm.trans hfn)).symm
      exact ⟨by kernel_rfl, fun j t ht => by
        rw [Tryz.params3] at ht
        have hm : t ∈ [3, 9, 22] := by simpa using Array.mem_of_getElem? ht
        have hall : ([3, 9, 22].all fun u => !Tryz.prog.wantsStandIn u) = true := by kernel_rfl
        exact (show Tryz.prog.wantsStandIn t = false by simpa using List.all_eq_true.1 hall t hm)⟩)
    (by kernel_rfl)
#print axioms card
end Go.Proofs.YticnmogeknlmeaaGreatDoor.updPlays
namespace Go.Proofs.YticnmogeknlmeaaGreatDoor
/-- The tied card, under a short name, for the claim. -/
theorem updPlays_card : Rows.UpdPlaysCardSaid := updPlays.card
end Go.Proofs.YticnmogeknlmeaaGreatDoor
