/-
  NARROWER THAN 'FOR EVERY INPUT', by the rows' own cells (each row's printed sentence says how): UpdPlays: laid · UpdInstalls: laid · UpdRefuses: laid · UpdProvisions: laid · UpdNone: laid.
  DERIVED. THE GIVEN ROWS OF THIS SEAT. 5 by the template 'for every input the law returns true; each argument reads behind the call as it read before'; 0 by the template 'total and deterministic' (their statements: YticnmogeknlmeaaGreatDoorTotals.lean).
  GIVEN WITH THE SEED: the statements are not yours to turn. If you find one false, say at which input.
  Laid BY PROGRAM, IN A SANDBOX (cutbox-rows.mjs): the forced cells as the released guide's own fill.sh prints them over the translation c144d3756075eb66… (all of the seat's roots in one cut). By AI agents, Wed Nov 11 2026. No macro, syntax, notation, axiom, sorry.
-/
import Derived.Test.YticnmogeknlmeaaGreatDoorChecked
import GoSem.PinnedTables
import GoSem.Claim
import GoSem.ClaimJoined
import GoSem.ClaimMapViews
import Derived.JoinedTies
import Derived.KernelRfl
namespace Go.Proofs.YticnmogeknlmeaaGreatDoor
/- THE CELL 'sum', in the pinned program and in every row, IS THE sha256 OF THE DUMP (.gsa) THAT YticnmogeknlmeaaGreatDoorProg.lean LOADS. Nothing in Lean hashes anything: it is a label: what it is worth is what the hold of that sum in a sandbox is worth. -/
noncomputable def Tryz.pinned : Pinned := { name := "yticnmogeknlmeaagreatdoor", sum := "c144d3756075eb66d65e408c6beebf32b4e6443746fba45911edec125931d651", checked := Tryz.checked }
namespace Rows
def none {H : Type} : Left H := { results := [], args := [] }

/- WHAT THE LISTED PACKAGE-LEVEL VARIABLES READ AS WHEN THE CALL BEGINS. Each datum BY PROGRAM (the guide's laid-datum.mjs) off the statement by which the dump's own 'gosem.cut.vars' lays the variable. In a bare row this is a premise. The card (YticnmogeknlmeaaGreatDoorCards.lean) ties it to the program's text. -/
def laid_unicode_utf8_acceptRanges {H : Type} : DataW H := .agg [.agg [.lit (.int .u8 128), .lit (.int .u8 191)], .agg [.lit (.int .u8 160), .lit (.int .u8 191)], .agg [.lit (.int .u8 128), .lit (.int .u8 159)], .agg [.lit (.int .u8 144), .lit (.int .u8 191)], .agg [.lit (.int .u8 128), .lit (.int .u8 143)], .agg [.lit (.int .u8 0), .lit (.int .u8 0)], .agg [.lit (.int .u8 0), .lit (.int .u8 0)], .agg [.lit (.int .u8 0), .lit (.int .u8 0)], .agg [.lit (.int .u8 0), .lit (.int .u8 0)], .agg [.lit (.int .u8 0), .lit (.int .u8 0)], .agg [.lit (.int .u8 0), .lit (.int .u8 0)], .agg [.lit (.int .u8 0), .lit (.int .u8 0)], .agg [.lit (.int .u8 0), .lit (.int .u8 0)], .agg [.lit (.int .u8 0), .lit (.int .u8 0)], .agg [.lit (.int .u8 0), .lit (.int .u8 0)], .agg [.lit (.int .u8 0), .lit (.int .u8 0)]]
/-- One of Go's own tables, pinned by name: the form's constant. -/
def laid_unicode_utf8_first : DataW Unit := Go.Pinned.utf8First

/-- 'tinderboxlaw22.UpdPlays': WHATEVER THE INPUT: true; the input reads as it did. -/
def updPlaysSpec : ChangeSpec := { name := "updPlays", fn := fun _ => fun
  | [d1, d2, d3] => { results := [.lit (.bool true)], args := [d1, d2, d3] }
  | _ => none }
def updPlaysRow : OpenClaim := { program := "yticnmogeknlmeaagreatdoor", sum := "c144d3756075eb66d65e408c6beebf32b4e6443746fba45911edec125931d651", func := "tinderbox/tinderboxlaw22.UpdPlays", spec := "updPlays", inPlace := ["math/bits.Add64", "internal/bytealg.CountString", "internal/bytealg.IndexByteString", "internal/bytealg.IndexString"], unfollowed := true, recurses := true, named := ["unicode/utf8.first", "unicode/utf8.acceptRanges", "internal/bytealg.MaxLen"], apart := false, laid := [("unicode/utf8.acceptRanges", laid_unicode_utf8_acceptRanges), ("unicode/utf8.first", laid_unicode_utf8_first)] }
def UpdPlaysSaid : Prop := updPlaysRow.holds Tryz.pinned (OpenSpec.ofChange updPlaysSpec)

/-- ITS FALSE NEIGHBOUR: 'it returns false'. Refute it at one input. -/
def updPlaysWrong : ChangeSpec := { name := "updPlays", fn := fun _ => fun
  | [d1, d2, d3] => { results := [.lit (.bool false)], args := [d1, d2, d3] }
  | _ => none }
def UpdPlaysWrongFalsely : Prop := updPlaysRow.holds Tryz.pinned (OpenSpec.ofChange updPlaysWrong)

/-- 'tinderboxlaw22.UpdInstalls': WHATEVER THE INPUT: true; the input reads as it did. -/
def updInstallsSpec : ChangeSpec := { name := "updInstalls", fn := fun _ => fun
  | [d1, d2] => { results := [.lit (.bool true)], args := [d1, d2] }
  | _ => none }
def updInstallsRow : OpenClaim := { program := "yticnmogeknlmeaagreatdoor", sum := "c144d3756075eb66d65e408c6beebf32b4e6443746fba45911edec125931d651", func := "tinderbox/tinderboxlaw22.UpdInstalls", spec := "updInstalls", inPlace := ["math/bits.Add64", "internal/bytealg.CountString", "internal/bytealg.IndexByteString", "internal/bytealg.IndexString"], unfollowed := true, recurses := true, named := ["unicode/utf8.first", "unicode/utf8.acceptRanges", "internal/bytealg.MaxLen"], apart := false, laid := [("unicode/utf8.acceptRanges", laid_unicode_utf8_acceptRanges), ("unicode/utf8.first", laid_unicode_utf8_first)] }
def UpdInstallsSaid : Prop := updInstallsRow.holds Tryz.pinned (OpenSpec.ofChange updInstallsSpec)

/-- ITS FALSE NEIGHBOUR: 'it returns false'. Refute it at one input. -/
def updInstallsWrong : ChangeSpec := { name := "updInstalls", fn := fun _ => fun
  | [d1, d2] => { results := [.lit (.bool false)], args := [d1, d2] }
  | _ => none }
def UpdInstallsWrongFalsely : Prop := updInstallsRow.holds Tryz.pinned (OpenSpec.ofChange updInstallsWrong)

/-- 'tinderboxlaw22.UpdRefuses': WHATEVER THE INPUT: true; the input reads as it did. -/
def updRefusesSpec : ChangeSpec := { name := "updRefuses", fn := fun _ => fun
  | [d1, d2, d3] => { results := [.lit (.bool true)], args := [d1, d2, d3] }
  | _ => none }
def updRefusesRow : OpenClaim := { program := "yticnmogeknlmeaagreatdoor", sum := "c144d3756075eb66d65e408c6beebf32b4e6443746fba45911edec125931d651", func := "tinderbox/tinderboxlaw22.UpdRefuses", spec := "updRefuses", inPlace := ["math/bits.Add64", "internal/bytealg.CountString", "internal/bytealg.IndexByteString", "internal/bytealg.IndexString"], unfollowed := true, recurses := true, named := ["unicode/utf8.first", "unicode/utf8.acceptRanges", "internal/bytealg.MaxLen"], apart := false, laid := [("unicode/utf8.acceptRanges", laid_unicode_utf8_acceptRanges), ("unicode/utf8.first", laid_unicode_utf8_first)] }
def UpdRefusesSaid : Prop := updRefusesRow.holds Tryz.pinned (OpenSpec.ofChange updRefusesSpec)

/-- ITS FALSE NEIGHBOUR: 'it returns false'. Refute it at one input. -/
def updRefusesWrong : ChangeSpec := { name := "updRefuses", fn := fun _ => fun
  | [d1, d2, d3] => { results := [.lit (.bool false)], args := [d1, d2, d3] }
  | _ => none }
def UpdRefusesWrongFalsely : Prop := updRefusesRow.holds Tryz.pinned (OpenSpec.ofChange updRefusesWrong)

/-- 'tinderboxlaw22.UpdProvisions': WHATEVER THE INPUT: true; the input reads as it did. -/
def updProvisionsSpec : ChangeSpec := { name := "updProvisions", fn := fun _ => fun
  | [d1, d2, d3] => { results := [.lit (.bool true)], args := [d1, d2, d3] }
  | _ => none }
def updProvisionsRow : OpenClaim := { program := "yticnmogeknlmeaagreatdoor", sum := "c144d3756075eb66d65e408c6beebf32b4e6443746fba45911edec125931d651", func := "tinderbox/tinderboxlaw22.UpdProvisions", spec := "updProvisions", inPlace := ["math/bits.Add64", "internal/bytealg.CountString", "internal/bytealg.IndexByteString", "internal/bytealg.IndexString"], unfollowed := true, recurses := true, named := ["unicode/utf8.first", "unicode/utf8.acceptRanges", "internal/bytealg.MaxLen"], apart := false, laid := [("unicode/utf8.acceptRanges", laid_unicode_utf8_acceptRanges), ("unicode/utf8.first", laid_unicode_utf8_first)] }
def UpdProvisionsSaid : Prop := updProvisionsRow.holds Tryz.pinned (OpenSpec.ofChange updProvisionsSpec)

/-- ITS FALSE NEIGHBOUR: 'it returns false'. Refute it at one input. -/
def updProvisionsWrong : ChangeSpec := { name := "updProvisions", fn := fun _ => fun
  | [d1, d2, d3] => { results := [.lit (.bool false)], args := [d1, d2, d3] }
  | _ => none }
def UpdProvisionsWrongFalsely : Prop := updProvisionsRow.holds Tryz.pinned (OpenSpec.ofChange updProvisionsWrong)

/-- 'tinderboxlaw22.UpdNone': WHATEVER THE INPUT: true; the input reads as it did. -/
def updNoneSpec : ChangeSpec := { name := "updNone", fn := fun _ => fun
  | [d1, d2, d3] => { results := [.lit (.bool true)], args := [d1, d2, d3] }
  | _ => none }
def updNoneRow : OpenClaim := { program := "yticnmogeknlmeaagreatdoor", sum := "c144d3756075eb66d65e408c6beebf32b4e6443746fba45911edec125931d651", func := "tinderbox/tinderboxlaw22.UpdNone", spec := "updNone", inPlace := ["math/bits.Add64", "internal/bytealg.CountString", "internal/bytealg.IndexByteString", "internal/bytealg.IndexString"], unfollowed := true, recurses := true, named := ["unicode/utf8.first", "unicode/utf8.acceptRanges", "internal/bytealg.MaxLen"], apart := false, laid := [("unicode/utf8.acceptRanges", laid_unicode_utf8_acceptRanges), ("unicode/utf8.first", laid_unicode_utf8_first)] }
def UpdNoneSaid : Prop := updNoneRow.holds Tryz.pinned (OpenSpec.ofChange updNoneSpec)

/-- ITS FALSE NEIGHBOUR: 'it returns false'. Refute it at one input. -/
def updNoneWrong : ChangeSpec := { name := "updNone", fn := fun _ => fun
  | [d1, d2, d3] => { results := [.lit (.bool false)], args := [d1, d2, d3] }
  | _ => none }
def UpdNoneWrongFalsely : Prop := updNoneRow.holds Tryz.pinned (OpenSpec.ofChange updNoneWrong)

/- THE SECOND FORM. 'bulk': how many values and letters a reading holds, each counted each time it is reached (what is shared counts as often as it is met; a slice's spare places count too). A statement '..UptoSaid' is the law's where the arguments, and the package variables that the reading takes, are together of bulk at most 1048576: NARROWER than '..Said'. Prove '..Said' where nothing that the law and all that it calls make is longer than what came in: it says more and counts as full. Else prove '..UptoSaid'. A law counts once. -/
mutual
def uptoBulk {H : Type} : DataW H → Nat
  | .lit (.string bytes) => bytes.length + 1
  | .lit _ => 1
  | .nil => 1
  | .ptr d => uptoBulk d + 1
  | .slice elems spare => uptoBulkAll elems + uptoBulkAll spare + 1
  | .agg parts => uptoBulkAll parts + 1
  | .iface _ d => uptoBulk d + 1
  | .map entries => uptoBulkEntries entries + 1
  | .held _ => 1
def uptoBulkAll {H : Type} : List (DataW H) → Nat
  | [] => 0
  | d :: r => uptoBulk d + uptoBulkAll r
def uptoBulkEntries {H : Type} : List (Lit × DataW H) → Nat
  | [] => 0
  | x :: r => uptoBulkEntry x + uptoBulkEntries r
def uptoBulkEntry {H : Type} : Lit × DataW H → Nat
  | (.string bytes, d) => bytes.length + uptoBulk d + 1
  | (_, d) => uptoBulk d + 1
 end
def uptoSmall : (H : Type) → List (DataW H) → Bool := fun _ ds => decide (uptoBulkAll ds ≤ 1048576)
def OpenSpec.upto (s : _root_.Go.ChangeSpec) : _root_.Go.OpenSpec := { _root_.Go.OpenSpec.ofChange s with cond := some uptoSmall }

/-- 'tinderboxlaw22.UpdPlays', WHERE WHAT IT READS IS OF BULK AT MOST 1048576: true; the input reads as it did. -/
def updPlaysUptoRow : OpenClaim := { program := "yticnmogeknlmeaagreatdoor", sum := "c144d3756075eb66d65e408c6beebf32b4e6443746fba45911edec125931d651", func := "tinderbox/tinderboxlaw22.UpdPlays", spec := "updPlays", inPlace := ["math/bits.Add64", "internal/bytealg.CountString", "internal/bytealg.IndexByteString", "internal/bytealg.IndexString"], unfollowed := true, recurses := true, named := ["unicode/utf8.first", "unicode/utf8.acceptRanges", "internal/bytealg.MaxLen"], apart := false, laid := [("unicode/utf8.acceptRanges", laid_unicode_utf8_acceptRanges), ("unicode/utf8.first", laid_unicode_utf8_first)], narrowed := true }
def UpdPlaysUptoSaid : Prop := updPlaysUptoRow.holds Tryz.pinned (OpenSpec.upto updPlaysSpec)

/-- 'tinderboxlaw22.UpdInstalls', WHERE WHAT IT READS IS OF BULK AT MOST 1048576: true; the input reads as it did. -/
def updInstallsUptoRow : OpenClaim := { program := "yticnmogeknlmeaagreatdoor", sum := "c144d3756075eb66d65e408c6beebf32b4e6443746fba45911edec125931d651", func := "tinderbox/tinderboxlaw22.UpdInstalls", spec := "updInstalls", inPlace := ["math/bits.Add64", "internal/bytealg.CountString", "internal/bytealg.IndexByteString", "internal/bytealg.IndexString"], unfollowed := true, recurses := true, named := ["unicode/utf8.first", "unicode/utf8.acceptRanges", "internal/bytealg.MaxLen"], apart := false, laid := [("unicode/utf8.acceptRanges", laid_unicode_utf8_acceptRanges), ("unicode/utf8.first", laid_unicode_utf8_first)], narrowed := true }
def UpdInstallsUptoSaid : Prop := updInstallsUptoRow.holds Tryz.pinned (OpenSpec.upto updInstallsSpec)

/-- 'tinderboxlaw22.UpdRefuses', WHERE WHAT IT READS IS OF BULK AT MOST 1048576: true; the input reads as it did. -/
def updRefusesUptoRow : OpenClaim := { program := "yticnmogeknlmeaagreatdoor", sum := "c144d3756075eb66d65e408c6beebf32b4e6443746fba45911edec125931d651", func := "tinderbox/tinderboxlaw22.UpdRefuses", spec := "updRefuses", inPlace := ["math/bits.Add64", "internal/bytealg.CountString", "internal/bytealg.IndexByteString", "internal/bytealg.IndexString"], unfollowed := true, recurses := true, named := ["unicode/utf8.first", "unicode/utf8.acceptRanges", "internal/bytealg.MaxLen"], apart := false, laid := [("unicode/utf8.acceptRanges", laid_unicode_utf8_acceptRanges), ("unicode/utf8.first", laid_unicode_utf8_first)], narrowed := true }
def UpdRefusesUptoSaid : Prop := updRefusesUptoRow.holds Tryz.pinned (OpenSpec.upto updRefusesSpec)

/-- 'tinderboxlaw22.UpdProvisions', WHERE WHAT IT READS IS OF BULK AT MOST 1048576: true; the input reads as it did. -/
def updProvisionsUptoRow : OpenClaim := { program := "yticnmogeknlmeaagreatdoor", sum := "c144d3756075eb66d65e408c6beebf32b4e6443746fba45911edec125931d651", func := "tinderbox/tinderboxlaw22.UpdProvisions", spec := "updProvisions", inPlace := ["math/bits.Add64", "internal/bytealg.CountString", "internal/bytealg.IndexByteString", "internal/bytealg.IndexString"], unfollowed := true, recurses := true, named := ["unicode/utf8.first", "unicode/utf8.acceptRanges", "internal/bytealg.MaxLen"], apart := false, laid := [("unicode/utf8.acceptRanges", laid_unicode_utf8_acceptRanges), ("unicode/utf8.first", laid_unicode_utf8_first)], narrowed := true }
def UpdProvisionsUptoSaid : Prop := updProvisionsUptoRow.holds Tryz.pinned (OpenSpec.upto updProvisionsSpec)

/-- 'tinderboxlaw22.UpdNone', WHERE WHAT IT READS IS OF BULK AT MOST 1048576: true; the input reads as it did. -/
def updNoneUptoRow : OpenClaim := { program := "yticnmogeknlmeaagreatdoor", sum := "c144d3756075eb66d65e408c6beebf32b4e6443746fba45911edec125931d651", func := "tinderbox/tinderboxlaw22.UpdNone", spec := "updNone", inPlace := ["math/bits.Add64", "internal/bytealg.CountString", "internal/bytealg.IndexByteString", "internal/bytealg.IndexString"], unfollowed := true, recurses := true, named := ["unicode/utf8.first", "unicode/utf8.acceptRanges", "internal/bytealg.MaxLen"], apart := false, laid := [("unicode/utf8.acceptRanges", laid_unicode_utf8_acceptRanges), ("unicode/utf8.first", laid_unicode_utf8_first)], narrowed := true }
def UpdNoneUptoSaid : Prop := updNoneUptoRow.holds Tryz.pinned (OpenSpec.upto updNoneSpec)

end Rows
end Go.Proofs.YticnmogeknlmeaaGreatDoor
