/-
  DERIVED. GIVEN WITH THE SEED: THE CARDS: each row of YticnmogeknlmeaaGreatDoorRows.lean that lists a variable, with what it lists TIED to the program's text (the seventh form; the later family's looks); each row that meets fmt, with fmt's text TOLD by the authors' own Lean function (tested against real Go, not proved from fmt's source: count such statements apart). THE CARD IS WHAT COUNTS. Prove the row's statement (the work); the ties are given (YticnmogeknlmeaaGreatDoorTie.lean); close each card by the builder's one call (the guide's Derived/Test/ToyasCard.lean, 'card_holds'). Laid BY PROGRAM, IN A SANDBOX (cutbox-door.mjs). By AI agents, Wed Nov 11 2026. No macro, syntax, notation, axiom, sorry.
-/
import Derived.Test.YticnmogeknlmeaaGreatDoorRows
import GoSem.ClaimSeven
namespace Go.Proofs.YticnmogeknlmeaaGreatDoor
namespace Rows

/-- THE TIED CARD OF 'tinderboxlaw22.UpdPlays'. -/
def updPlaysCard : Claim7 := { stood := { row := updPlaysRow, standIns := [], harness := (true, "564cec43739640e3817435ac56509a39366a90879e5dc8d6d96e9284e026fd55"), looks := true }, kinds := [], alts := [], laidByText := true, laidKinds := [.data, .pinned], laidTests := true, laidLooks := .later }
def UpdPlaysCardSaid : Prop := Claim7.holds Tryz.pinned (.plain (OpenSpec.ofChange updPlaysSpec)) updPlaysCard

/-- THE TIED CARD OF 'tinderboxlaw22.UpdInstalls'. -/
def updInstallsCard : Claim7 := { stood := { row := updInstallsRow, standIns := [], harness := (true, "564cec43739640e3817435ac56509a39366a90879e5dc8d6d96e9284e026fd55"), looks := true }, kinds := [], alts := [], laidByText := true, laidKinds := [.data, .pinned], laidTests := true, laidLooks := .later }
def UpdInstallsCardSaid : Prop := Claim7.holds Tryz.pinned (.plain (OpenSpec.ofChange updInstallsSpec)) updInstallsCard

/-- THE TIED CARD OF 'tinderboxlaw22.UpdRefuses'. -/
def updRefusesCard : Claim7 := { stood := { row := updRefusesRow, standIns := [], harness := (true, "564cec43739640e3817435ac56509a39366a90879e5dc8d6d96e9284e026fd55"), looks := true }, kinds := [], alts := [], laidByText := true, laidKinds := [.data, .pinned], laidTests := true, laidLooks := .later }
def UpdRefusesCardSaid : Prop := Claim7.holds Tryz.pinned (.plain (OpenSpec.ofChange updRefusesSpec)) updRefusesCard

/-- THE TIED CARD OF 'tinderboxlaw22.UpdProvisions'. -/
def updProvisionsCard : Claim7 := { stood := { row := updProvisionsRow, standIns := [], harness := (true, "564cec43739640e3817435ac56509a39366a90879e5dc8d6d96e9284e026fd55"), looks := true }, kinds := [], alts := [], laidByText := true, laidKinds := [.data, .pinned], laidTests := true, laidLooks := .later }
def UpdProvisionsCardSaid : Prop := Claim7.holds Tryz.pinned (.plain (OpenSpec.ofChange updProvisionsSpec)) updProvisionsCard

/-- THE TIED CARD OF 'tinderboxlaw22.UpdNone'. -/
def updNoneCard : Claim7 := { stood := { row := updNoneRow, standIns := [], harness := (true, "564cec43739640e3817435ac56509a39366a90879e5dc8d6d96e9284e026fd55"), looks := true }, kinds := [], alts := [], laidByText := true, laidKinds := [.data, .pinned], laidTests := true, laidLooks := .later }
def UpdNoneCardSaid : Prop := Claim7.holds Tryz.pinned (.plain (OpenSpec.ofChange updNoneSpec)) updNoneCard

/-- THE SECOND FORM's CARD OF 'tinderboxlaw22.UpdPlays'. -/
def updPlaysUptoCard : Claim7 := { stood := { row := updPlaysUptoRow, standIns := [], harness := (true, "564cec43739640e3817435ac56509a39366a90879e5dc8d6d96e9284e026fd55"), looks := true }, kinds := [], alts := [], laidByText := true, laidKinds := [.data, .pinned], laidTests := true, laidLooks := .later }
def UpdPlaysUptoCardSaid : Prop := Claim7.holds Tryz.pinned (.plain (OpenSpec.upto updPlaysSpec)) updPlaysUptoCard

/-- THE SECOND FORM's CARD OF 'tinderboxlaw22.UpdInstalls'. -/
def updInstallsUptoCard : Claim7 := { stood := { row := updInstallsUptoRow, standIns := [], harness := (true, "564cec43739640e3817435ac56509a39366a90879e5dc8d6d96e9284e026fd55"), looks := true }, kinds := [], alts := [], laidByText := true, laidKinds := [.data, .pinned], laidTests := true, laidLooks := .later }
def UpdInstallsUptoCardSaid : Prop := Claim7.holds Tryz.pinned (.plain (OpenSpec.upto updInstallsSpec)) updInstallsUptoCard

/-- THE SECOND FORM's CARD OF 'tinderboxlaw22.UpdRefuses'. -/
def updRefusesUptoCard : Claim7 := { stood := { row := updRefusesUptoRow, standIns := [], harness := (true, "564cec43739640e3817435ac56509a39366a90879e5dc8d6d96e9284e026fd55"), looks := true }, kinds := [], alts := [], laidByText := true, laidKinds := [.data, .pinned], laidTests := true, laidLooks := .later }
def UpdRefusesUptoCardSaid : Prop := Claim7.holds Tryz.pinned (.plain (OpenSpec.upto updRefusesSpec)) updRefusesUptoCard

/-- THE SECOND FORM's CARD OF 'tinderboxlaw22.UpdProvisions'. -/
def updProvisionsUptoCard : Claim7 := { stood := { row := updProvisionsUptoRow, standIns := [], harness := (true, "564cec43739640e3817435ac56509a39366a90879e5dc8d6d96e9284e026fd55"), looks := true }, kinds := [], alts := [], laidByText := true, laidKinds := [.data, .pinned], laidTests := true, laidLooks := .later }
def UpdProvisionsUptoCardSaid : Prop := Claim7.holds Tryz.pinned (.plain (OpenSpec.upto updProvisionsSpec)) updProvisionsUptoCard

/-- THE SECOND FORM's CARD OF 'tinderboxlaw22.UpdNone'. -/
def updNoneUptoCard : Claim7 := { stood := { row := updNoneUptoRow, standIns := [], harness := (true, "564cec43739640e3817435ac56509a39366a90879e5dc8d6d96e9284e026fd55"), looks := true }, kinds := [], alts := [], laidByText := true, laidKinds := [.data, .pinned], laidTests := true, laidLooks := .later }
def UpdNoneUptoCardSaid : Prop := Claim7.holds Tryz.pinned (.plain (OpenSpec.upto updNoneSpec)) updNoneUptoCard
end Rows
end Go.Proofs.YticnmogeknlmeaaGreatDoor
