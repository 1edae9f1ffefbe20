/- Any image that fits, in any pieces of whole pages, is installed, checked, and starts, and the first one stays, for every input. No condition. -/
import Derived.Test.YticnmogeknlmeaaGreatDoorRows
import Derived.Test.YticnmogeknlmeaaGreatDoorOpens
import Derived.Test.YticnmogeknlmeaaGreatDoorHZg
import Derived.Test.YticnmogeknlmeaaGreatDoorTie
import Derived.Test.YticnmogeknlmeaaGreatDoorCards
import Derived.WalkKit
import Derived.Lay
import Derived.LaidOnce
import Derived.SevenTiedAt
import Derived.ProofKit
import Derived.OpenShut
import Derived.ShutString
import Derived.ChangeOld
import Derived.Below
import Derived.SizedLaws
namespace Go.Proofs.YticnmogeknlmeaaGreatDoor.updInstalls
open Go.ChangeShapes Go.WideShapes Go.ChangeAt Go.RowKit Go.Proofs.YticnmogeknlmeaaGreatDoorW.PrintWords Go.Proofs.YticnmogeknlmeaaGreatDoor.Opens
open Go.ChangeMaps (open_string shut_string)
set_option linter.unusedVariables false
theorem own : ownKnob Tryz.prog.godebug = none := by kernel_rfl
theorem laidOut : laidOutB Tryz.prog = true := by kernel_rfl
theorem cuts_open : Opens Tryz.prog 47 (Kd.slice 3 (Kd.int .i64)) (fun l => l.length ≤ maxLen) :=
  opens_weak (opens_slice Tryz.underlying47 (by kernel_rfl) (opens_int Tryz.underlying3)) (fun _ h => h.1)
theorem B.uinst_row (b : ByteArray) (hb : b.size ≤ 140737488351232) (A : Option Addr) (cap : Nat) (c : List Int) (hcl : c.length ≤ cap) (w : World) (hC : Kd.C (Kd.int .i64) w A c.length c) : Calls Tryz.prog 4 #[.string b, .slice A c.length cap] w fun e w' => e = .returned (.bool true) ∧ Below w.heap.size w w' := by
  have e : B.bs b.data.toList = b := by cases b; rfl
  have := Go.Proofs.YticnmogeknlmeaaGreatDoor.B.uinstalls_any b.data.toList (by have h : b.data.size ≤ 140737488351232 := hb; rw [Array.length_toList]; omega) A cap c hcl w hC
  rw [e] at this
  exact this
def laid : List (String × DataW Unit) := [("unicode/utf8.acceptRanges", Rows.laid_unicode_utf8_acceptRanges), ("unicode/utf8.first", Rows.laid_unicode_utf8_first)]
set_option maxRecDepth 100000 in
theorem lifted (os : Os) (started : os.Started) (H : Type) (enc : TypeId × Value → H) :
    ReturnsInHanded {} Tryz.checked os 4 .any (fun w args => (Rows.updInstallsSpec.pre enc Tryz.prog Tryz.f4 [] false w args ∧ laidMetH Tryz.prog laid w) ∧ sizedMet enc Tryz.prog Tryz.f4 (OpenSpec.ofChange Rows.updInstallsSpec) false w args)
      (Rows.updInstallsSpec.post enc Tryz.prog Tryz.f4 false true false false) := by
  refine returnsInHanded_of_change_and (C := Tryz.checked) (X := fun w _ => laidMetH Tryz.prog laid w) (fun _ _ _ hh h => h.of_heap hh) own started (by kernel_rfl) Tryz.func4
    (ChangeSpec.witness_shaped (enc := enc) (C := Tryz.checked) (os := os) (X := fun w _ => laidMetH Tryz.prog laid w) false (World.laidAll Tryz.prog os laid) #[.string ByteArray.empty, .slice none 0 0] 8 (World.laidAll_os _ _ _)
      (World.shaped_of_ZipB (by kernel_rfl) (by kernel_rfl)) (by kernel_rfl) (by kernel_rfl) (by kernel_rfl)
      (by rw [MakeChecks.laidMetH_plain _ _ _ (by kernel_rfl)]; exact laidMet_laidAll _ (by kernel_rfl) (by kernel_rfl))) ?_
  intro W base args ds gs before hval0 hW hcnd hsz0 hL _
  have hsz : (DataW.weightsEach Tryz.prog (Tryz.f4.params.toList ++ Rows.updInstallsSpec.plain.varTypes Tryz.prog) (ds ++ gs)).all (· ≤ reachBytes) = true := hsz0
  have hval : ∀ (j : Nat) t v, Tryz.f4.params[j]? = some t → args[j]? = some v → Value.okWide Tryz.prog W .any base t v := hval0
  have hW' := hW
  obtain ⟨p, q, hA0, hV, rfl, hfz, hnd⟩ := hW
  have hA : DataW.TrodAll enc Tryz.prog W 0 (fun _ => true) true Tryz.f4.params.toList args.toList ds p := hA0
  rw [Tryz.params4] at hA hval hsz
  obtain ⟨v0, vs0, d0, ds0, p0, q0, hargs, rfl, rfl, h0, r0⟩ := trodAll_cons hA
  obtain ⟨v1, vs1, d1, ds1, p1, q1, rfl, rfl, rfl, h1, r1⟩ := trodAll_cons r0
  obtain ⟨rfl, rfl, rfl⟩ := trodAll_nil r1
  obtain rfl : args = #[v0, v1] := by cases args; simp_all
  obtain ⟨rfl, rfl⟩ := trodVars_none hV
  obtain ⟨a0, rfl, rfl, rfl, y0⟩ := open_string Tryz.underlying9 (hval 0 9 v0 rfl rfl) h0
  have w0 : a0.size ≤ 140737488351232 := by
    have z := sized_string hsz (j := 0) (t := 9) rfl rfl
    rw [Array.length_toList] at z
    exact z
  obtain ⟨A1, len1, cap1, rfl⟩ := okWide_slice Tryz.underlying47 (hval 1 47 v1 rfl rfl)
  have k1 := h1
  have lt1 : ∀ x ∈ p1, x.block < W.heap.size := by obtain ⟨m, hm⟩ := k1; exact DataW.trod_lt m _ _ _ hm
  obtain ⟨l1, rfl, hc1, hle1, wf1⟩ := open_slice_arg cuts_open h1
  clear hA0 hval0 hsz0
  refine (B.uinst_row a0 w0 A1 cap1 l1 hle1 W hc1).mono fun e W' ⟨he, bel⟩ => ?_
  subst he
  exact ⟨_, rfl, _, _, _, [], _, [], hW', trodAll_mk1 (shut_bool Tryz.underlying4 _), (trodAll_cons_mk (shut_string Tryz.underlying9 y0) (trodAll_cons_mk (Below.trod laidOut (by kernel_rfl) (of_decide_eq_true (by kernel_rfl)) k1 bel lt1) trodAll_mk0)), rfl, bel.frame _, fun h => by cases h⟩
theorem over : Rows.updInstallsRow.holds Tryz.pinned (OpenSpec.ofChange Rows.updInstallsSpec) :=
  OpenClaim.holds_of_wide 4 Tryz.f4 rfl rfl rfl rfl rfl rfl rfl ⟨rfl, rfl, rfl, rfl, rfl⟩ rfl rfl rfl rfl rfl (by kernel_rfl) Tryz.func4 (by kernel_rfl)
    (of_decide_eq_true (by kernel_rfl)) (by unfold Func.isWrapper; first | (rw [if_pos (by decide +kernel)]; kernel_rfl) | (rw [if_neg (by decide +kernel)]; exact ⟨rfl, rfl⟩))
    (fun os started H enc _ => lifted os started H enc)
theorem proved : Rows.UpdInstallsSaid := over
theorem card : Rows.UpdInstallsCardSaid :=
  Claim7.holds_tied_plain_at .later [] [.data, .pinned] true (true, "564cec43739640e3817435ac56509a39366a90879e5dc8d6d96e9284e026fd55") true over (fun _ h => by cases h) (by kernel_rfl) (fun _ h => by cases h) updInstalls_row_tie rfl ⟨rfl, rfl⟩ (by kernel_rfl) rfl
    (fun f fn hf hfn => by
      obtain rfl : f = 4 := Option.some.inj ((show Tryz.prog.funcNamed "tinderbox/tinderboxlaw22.UpdInstalls" = some 4 by kernel_rfl).symm.trans hf) |>.symm
      obtain rfl : fn = Tryz.f4 := (Option.some.inj (Tryz.func4.symm.trans hfn)).symm
      exact ⟨by kernel_rfl, fun j t ht => by
        rw [Tryz.params4] at ht
        have hm : t ∈ [9, 47] := by simpa using Array.mem_of_getElem? ht
        have hall : ([9, 47].all fun u => !Tryz.prog.wantsStandIn u) = true := by kernel_rfl
        exact (show Tryz.prog.wantsStandIn t = false by simpa using List.all_eq_true.1 hall t hm)⟩)
    (by kernel_rfl)
#print axioms card
end Go.Proofs.YticnmogeknlmeaaGreatDoor.updInstalls
namespace Go.Proofs.YticnmogeknlmeaaGreatDoor
/-- The tied card, under a short name, for the claim. -/
theorem updInstalls_card : Rows.UpdInstallsCardSaid := updInstalls.card
/-- The row, under a short name, for the claim. -/
theorem updInstalls_holds : Rows.UpdInstallsSaid := updInstalls.proved
end Go.Proofs.YticnmogeknlmeaaGreatDoor
