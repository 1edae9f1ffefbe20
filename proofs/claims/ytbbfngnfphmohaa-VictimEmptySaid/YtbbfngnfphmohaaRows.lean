/-
  No cell of these rows narrows 'for every input' (looked for: loops, veiled, ifaces, maps, wideKeys, modest, calm, conditions, laid).
  DERIVED. THE GIVEN ROWS OF THIS SEAT. 9 by the template 'for every input the law returns true; each argument reads behind the call as it read before'; 0 by the template 'total and deterministic' (their statements: YtbbfngnfphmohaaTotals.lean).
  GIVEN WITH THE SEED: the statements are not yours to turn. If you find one false, say at which input.
  Laid BY PROGRAM, IN A SANDBOX (cutbox-rows.mjs): the forced cells as the released guide's own fill.sh prints them over the translation e212f8d803d28b0f… (all of the seat's roots in one cut). By AI agents, Wed Nov 11 2026. No macro, syntax, notation, axiom, sorry.
-/
import Derived.Test.YtbbfngnfphmohaaChecked
import GoSem.Claim
import GoSem.ClaimJoined
import GoSem.ClaimMapViews
import Derived.JoinedTies
import Derived.KernelRfl
namespace Go.Proofs.Ytbbfngnfphmohaa
/- THE CELL 'sum', in the pinned program and in every row, IS THE sha256 OF THE DUMP (.gsa) THAT YtbbfngnfphmohaaProg.lean LOADS. Nothing in Lean hashes anything: it is a label: what it is worth is what the hold of that sum in a sandbox is worth. -/
noncomputable def Try.pinned : Pinned := { name := "ytbbfngnfphmohaa", sum := "e212f8d803d28b0f892a230825eb41b7d5b85ffccf7c76e484069db61e6606e0", checked := Try.checked }
namespace Rows
def none {H : Type} : Left H := { results := [], args := [] }

/-- 'tinderboxlaw11.WearLeast': WHATEVER THE INPUT: true; the input reads as it did. -/
def wearLeastSpec : ChangeSpec := { name := "wearLeast", fn := fun _ => fun
  | [d] => { results := [.lit (.bool true)], args := [d] }
  | _ => none }
def wearLeastRow : OpenClaim := { program := "ytbbfngnfphmohaa", sum := "e212f8d803d28b0f892a230825eb41b7d5b85ffccf7c76e484069db61e6606e0", func := "tinderbox/tinderboxlaw11.WearLeast", spec := "wearLeast", apart := false }
def WearLeastSaid : Prop := wearLeastRow.holds Try.pinned (OpenSpec.ofChange wearLeastSpec)

/-- ITS FALSE NEIGHBOUR: 'it returns false'. Refute it at one input. -/
def wearLeastWrong : ChangeSpec := { name := "wearLeast", fn := fun _ => fun
  | [d] => { results := [.lit (.bool false)], args := [d] }
  | _ => none }
def WearLeastWrongFalsely : Prop := wearLeastRow.holds Try.pinned (OpenSpec.ofChange wearLeastWrong)

/-- 'tinderboxlaw11.WearCold': WHATEVER THE INPUT: true; the input reads as it did. -/
def wearColdSpec : ChangeSpec := { name := "wearCold", fn := fun _ => fun
  | [d1, d2, d3] => { results := [.lit (.bool true)], args := [d1, d2, d3] }
  | _ => none }
def wearColdRow : OpenClaim := { program := "ytbbfngnfphmohaa", sum := "e212f8d803d28b0f892a230825eb41b7d5b85ffccf7c76e484069db61e6606e0", func := "tinderbox/tinderboxlaw11.WearCold", spec := "wearCold", apart := false }
def WearColdSaid : Prop := wearColdRow.holds Try.pinned (OpenSpec.ofChange wearColdSpec)

/-- ITS FALSE NEIGHBOUR: 'it returns false'. Refute it at one input. -/
def wearColdWrong : ChangeSpec := { name := "wearCold", fn := fun _ => fun
  | [d1, d2, d3] => { results := [.lit (.bool false)], args := [d1, d2, d3] }
  | _ => none }
def WearColdWrongFalsely : Prop := wearColdRow.holds Try.pinned (OpenSpec.ofChange wearColdWrong)

/-- 'tinderboxlaw11.WearLevels': WHATEVER THE INPUT: true; the input reads as it did. -/
def wearLevelsSpec : ChangeSpec := { name := "wearLevels", fn := fun _ => fun
  | [d1, d2] => { results := [.lit (.bool true)], args := [d1, d2] }
  | _ => none }
def wearLevelsRow : OpenClaim := { program := "ytbbfngnfphmohaa", sum := "e212f8d803d28b0f892a230825eb41b7d5b85ffccf7c76e484069db61e6606e0", func := "tinderbox/tinderboxlaw11.WearLevels", spec := "wearLevels", apart := false }
def WearLevelsSaid : Prop := wearLevelsRow.holds Try.pinned (OpenSpec.ofChange wearLevelsSpec)

/-- ITS FALSE NEIGHBOUR: 'it returns false'. Refute it at one input. -/
def wearLevelsWrong : ChangeSpec := { name := "wearLevels", fn := fun _ => fun
  | [d1, d2] => { results := [.lit (.bool false)], args := [d1, d2] }
  | _ => none }
def WearLevelsWrongFalsely : Prop := wearLevelsRow.holds Try.pinned (OpenSpec.ofChange wearLevelsWrong)

/-- 'tinderboxlaw03.ScoreBetter': WHATEVER THE INPUT: true; the input reads as it did. -/
def scoreBetterSpec : ChangeSpec := { name := "scoreBetter", fn := fun _ => fun
  | [d1, d2, d3] => { results := [.lit (.bool true)], args := [d1, d2, d3] }
  | _ => none }
def scoreBetterRow : OpenClaim := { program := "ytbbfngnfphmohaa", sum := "e212f8d803d28b0f892a230825eb41b7d5b85ffccf7c76e484069db61e6606e0", func := "tinderbox/tinderboxlaw03.ScoreBetter", spec := "scoreBetter", inPlace := ["math.Float64frombits", "math.Float64bits"], apart := false }
def ScoreBetterSaid : Prop := scoreBetterRow.holds Try.pinned (OpenSpec.ofChange scoreBetterSpec)

/-- ITS FALSE NEIGHBOUR: 'it returns false'. Refute it at one input. -/
def scoreBetterWrong : ChangeSpec := { name := "scoreBetter", fn := fun _ => fun
  | [d1, d2, d3] => { results := [.lit (.bool false)], args := [d1, d2, d3] }
  | _ => none }
def ScoreBetterWrongFalsely : Prop := scoreBetterRow.holds Try.pinned (OpenSpec.ofChange scoreBetterWrong)

/-- 'tinderboxlaw03.ScoreBest': WHATEVER THE INPUT: true; the input reads as it did. -/
def scoreBestSpec : ChangeSpec := { name := "scoreBest", fn := fun _ => fun
  | [d] => { results := [.lit (.bool true)], args := [d] }
  | _ => none }
def scoreBestRow : OpenClaim := { program := "ytbbfngnfphmohaa", sum := "e212f8d803d28b0f892a230825eb41b7d5b85ffccf7c76e484069db61e6606e0", func := "tinderbox/tinderboxlaw03.ScoreBest", spec := "scoreBest", inPlace := ["math.Float64bits", "math.Float64frombits"], apart := false }
def ScoreBestSaid : Prop := scoreBestRow.holds Try.pinned (OpenSpec.ofChange scoreBestSpec)

/-- ITS FALSE NEIGHBOUR: 'it returns false'. Refute it at one input. -/
def scoreBestWrong : ChangeSpec := { name := "scoreBest", fn := fun _ => fun
  | [d] => { results := [.lit (.bool false)], args := [d] }
  | _ => none }
def ScoreBestWrongFalsely : Prop := scoreBestRow.holds Try.pinned (OpenSpec.ofChange scoreBestWrong)

/-- 'tinderboxlaw03.ScoreMean': WHATEVER THE INPUT: true; the input reads as it did. -/
def scoreMeanSpec : ChangeSpec := { name := "scoreMean", fn := fun _ => fun
  | [d] => { results := [.lit (.bool true)], args := [d] }
  | _ => none }
def scoreMeanRow : OpenClaim := { program := "ytbbfngnfphmohaa", sum := "e212f8d803d28b0f892a230825eb41b7d5b85ffccf7c76e484069db61e6606e0", func := "tinderbox/tinderboxlaw03.ScoreMean", spec := "scoreMean", inPlace := ["math.Float64bits", "math.Float64frombits"], apart := false }
def ScoreMeanSaid : Prop := scoreMeanRow.holds Try.pinned (OpenSpec.ofChange scoreMeanSpec)

/-- ITS FALSE NEIGHBOUR: 'it returns false'. Refute it at one input. -/
def scoreMeanWrong : ChangeSpec := { name := "scoreMean", fn := fun _ => fun
  | [d] => { results := [.lit (.bool false)], args := [d] }
  | _ => none }
def ScoreMeanWrongFalsely : Prop := scoreMeanRow.holds Try.pinned (OpenSpec.ofChange scoreMeanWrong)

/-- 'tinderboxlaw12.VictimChooses': WHATEVER THE INPUT: true; the input reads as it did. -/
def victimChoosesSpec : ChangeSpec := { name := "victimChooses", fn := fun _ => fun
  | [d] => { results := [.lit (.bool true)], args := [d] }
  | _ => none }
def victimChoosesRow : OpenClaim := { program := "ytbbfngnfphmohaa", sum := "e212f8d803d28b0f892a230825eb41b7d5b85ffccf7c76e484069db61e6606e0", func := "tinderbox/tinderboxlaw12.VictimChooses", spec := "victimChooses", inPlace := ["math.Float64frombits", "math.Float64bits"], apart := false }
def VictimChoosesSaid : Prop := victimChoosesRow.holds Try.pinned (OpenSpec.ofChange victimChoosesSpec)

/-- ITS FALSE NEIGHBOUR: 'it returns false'. Refute it at one input. -/
def victimChoosesWrong : ChangeSpec := { name := "victimChooses", fn := fun _ => fun
  | [d] => { results := [.lit (.bool false)], args := [d] }
  | _ => none }
def VictimChoosesWrongFalsely : Prop := victimChoosesRow.holds Try.pinned (OpenSpec.ofChange victimChoosesWrong)

/-- 'tinderboxlaw12.VictimEmpty': WHATEVER THE INPUT: true; the input reads as it did. -/
def victimEmptySpec : ChangeSpec := { name := "victimEmpty", fn := fun _ => fun
  | [d] => { results := [.lit (.bool true)], args := [d] }
  | _ => none }
def victimEmptyRow : OpenClaim := { program := "ytbbfngnfphmohaa", sum := "e212f8d803d28b0f892a230825eb41b7d5b85ffccf7c76e484069db61e6606e0", func := "tinderbox/tinderboxlaw12.VictimEmpty", spec := "victimEmpty", inPlace := ["math.Float64frombits", "math.Float64bits"], apart := false }
def VictimEmptySaid : Prop := victimEmptyRow.holds Try.pinned (OpenSpec.ofChange victimEmptySpec)

/-- ITS FALSE NEIGHBOUR: 'it returns false'. Refute it at one input. -/
def victimEmptyWrong : ChangeSpec := { name := "victimEmpty", fn := fun _ => fun
  | [d] => { results := [.lit (.bool false)], args := [d] }
  | _ => none }
def VictimEmptyWrongFalsely : Prop := victimEmptyRow.holds Try.pinned (OpenSpec.ofChange victimEmptyWrong)

/-- 'tinderboxlaw12.VictimGains': WHATEVER THE INPUT: true; the input reads as it did. -/
def victimGainsSpec : ChangeSpec := { name := "victimGains", fn := fun _ => fun
  | [d] => { results := [.lit (.bool true)], args := [d] }
  | _ => none }
def victimGainsRow : OpenClaim := { program := "ytbbfngnfphmohaa", sum := "e212f8d803d28b0f892a230825eb41b7d5b85ffccf7c76e484069db61e6606e0", func := "tinderbox/tinderboxlaw12.VictimGains", spec := "victimGains", inPlace := ["math.Float64frombits", "math.Float64bits"], apart := false }
def VictimGainsSaid : Prop := victimGainsRow.holds Try.pinned (OpenSpec.ofChange victimGainsSpec)

/-- ITS FALSE NEIGHBOUR: 'it returns false'. Refute it at one input. -/
def victimGainsWrong : ChangeSpec := { name := "victimGains", fn := fun _ => fun
  | [d] => { results := [.lit (.bool false)], args := [d] }
  | _ => none }
def VictimGainsWrongFalsely : Prop := victimGainsRow.holds Try.pinned (OpenSpec.ofChange victimGainsWrong)

/- THE SECOND FORM. 'bulk': how many values and letters a reading holds, each counted each time it is reached (what is shared counts as often as it is met; a slice's spare places count too). A statement '..UptoSaid' is the law's where the arguments, and the package variables that the reading takes, are together of bulk at most 1048576: NARROWER than '..Said'. Prove '..Said' where nothing that the law and all that it calls make is longer than what came in: it says more and counts as full. Else prove '..UptoSaid'. A law counts once. -/
mutual
def uptoBulk {H : Type} : DataW H → Nat
  | .lit (.string bytes) => bytes.length + 1
  | .lit _ => 1
  | .nil => 1
  | .ptr d => uptoBulk d + 1
  | .slice elems spare => uptoBulkAll elems + uptoBulkAll spare + 1
  | .agg parts => uptoBulkAll parts + 1
  | .iface _ d => uptoBulk d + 1
  | .map entries => uptoBulkEntries entries + 1
  | .held _ => 1
def uptoBulkAll {H : Type} : List (DataW H) → Nat
  | [] => 0
  | d :: r => uptoBulk d + uptoBulkAll r
def uptoBulkEntries {H : Type} : List (Lit × DataW H) → Nat
  | [] => 0
  | x :: r => uptoBulkEntry x + uptoBulkEntries r
def uptoBulkEntry {H : Type} : Lit × DataW H → Nat
  | (.string bytes, d) => bytes.length + uptoBulk d + 1
  | (_, d) => uptoBulk d + 1
 end
def uptoSmall : (H : Type) → List (DataW H) → Bool := fun _ ds => decide (uptoBulkAll ds ≤ 1048576)
def OpenSpec.upto (s : _root_.Go.ChangeSpec) : _root_.Go.OpenSpec := { _root_.Go.OpenSpec.ofChange s with cond := some uptoSmall }

/-- 'tinderboxlaw11.WearLeast', WHERE WHAT IT READS IS OF BULK AT MOST 1048576: true; the input reads as it did. -/
def wearLeastUptoRow : OpenClaim := { program := "ytbbfngnfphmohaa", sum := "e212f8d803d28b0f892a230825eb41b7d5b85ffccf7c76e484069db61e6606e0", func := "tinderbox/tinderboxlaw11.WearLeast", spec := "wearLeast", apart := false, narrowed := true }
def WearLeastUptoSaid : Prop := wearLeastUptoRow.holds Try.pinned (OpenSpec.upto wearLeastSpec)

/-- 'tinderboxlaw11.WearCold', WHERE WHAT IT READS IS OF BULK AT MOST 1048576: true; the input reads as it did. -/
def wearColdUptoRow : OpenClaim := { program := "ytbbfngnfphmohaa", sum := "e212f8d803d28b0f892a230825eb41b7d5b85ffccf7c76e484069db61e6606e0", func := "tinderbox/tinderboxlaw11.WearCold", spec := "wearCold", apart := false, narrowed := true }
def WearColdUptoSaid : Prop := wearColdUptoRow.holds Try.pinned (OpenSpec.upto wearColdSpec)

/-- 'tinderboxlaw11.WearLevels', WHERE WHAT IT READS IS OF BULK AT MOST 1048576: true; the input reads as it did. -/
def wearLevelsUptoRow : OpenClaim := { program := "ytbbfngnfphmohaa", sum := "e212f8d803d28b0f892a230825eb41b7d5b85ffccf7c76e484069db61e6606e0", func := "tinderbox/tinderboxlaw11.WearLevels", spec := "wearLevels", apart := false, narrowed := true }
def WearLevelsUptoSaid : Prop := wearLevelsUptoRow.holds Try.pinned (OpenSpec.upto wearLevelsSpec)

/-- 'tinderboxlaw03.ScoreBetter', WHERE WHAT IT READS IS OF BULK AT MOST 1048576: true; the input reads as it did. -/
def scoreBetterUptoRow : OpenClaim := { program := "ytbbfngnfphmohaa", sum := "e212f8d803d28b0f892a230825eb41b7d5b85ffccf7c76e484069db61e6606e0", func := "tinderbox/tinderboxlaw03.ScoreBetter", spec := "scoreBetter", inPlace := ["math.Float64frombits", "math.Float64bits"], apart := false, narrowed := true }
def ScoreBetterUptoSaid : Prop := scoreBetterUptoRow.holds Try.pinned (OpenSpec.upto scoreBetterSpec)

/-- 'tinderboxlaw03.ScoreBest', WHERE WHAT IT READS IS OF BULK AT MOST 1048576: true; the input reads as it did. -/
def scoreBestUptoRow : OpenClaim := { program := "ytbbfngnfphmohaa", sum := "e212f8d803d28b0f892a230825eb41b7d5b85ffccf7c76e484069db61e6606e0", func := "tinderbox/tinderboxlaw03.ScoreBest", spec := "scoreBest", inPlace := ["math.Float64bits", "math.Float64frombits"], apart := false, narrowed := true }
def ScoreBestUptoSaid : Prop := scoreBestUptoRow.holds Try.pinned (OpenSpec.upto scoreBestSpec)

/-- 'tinderboxlaw03.ScoreMean', WHERE WHAT IT READS IS OF BULK AT MOST 1048576: true; the input reads as it did. -/
def scoreMeanUptoRow : OpenClaim := { program := "ytbbfngnfphmohaa", sum := "e212f8d803d28b0f892a230825eb41b7d5b85ffccf7c76e484069db61e6606e0", func := "tinderbox/tinderboxlaw03.ScoreMean", spec := "scoreMean", inPlace := ["math.Float64bits", "math.Float64frombits"], apart := false, narrowed := true }
def ScoreMeanUptoSaid : Prop := scoreMeanUptoRow.holds Try.pinned (OpenSpec.upto scoreMeanSpec)

/-- 'tinderboxlaw12.VictimChooses', WHERE WHAT IT READS IS OF BULK AT MOST 1048576: true; the input reads as it did. -/
def victimChoosesUptoRow : OpenClaim := { program := "ytbbfngnfphmohaa", sum := "e212f8d803d28b0f892a230825eb41b7d5b85ffccf7c76e484069db61e6606e0", func := "tinderbox/tinderboxlaw12.VictimChooses", spec := "victimChooses", inPlace := ["math.Float64frombits", "math.Float64bits"], apart := false, narrowed := true }
def VictimChoosesUptoSaid : Prop := victimChoosesUptoRow.holds Try.pinned (OpenSpec.upto victimChoosesSpec)

/-- 'tinderboxlaw12.VictimEmpty', WHERE WHAT IT READS IS OF BULK AT MOST 1048576: true; the input reads as it did. -/
def victimEmptyUptoRow : OpenClaim := { program := "ytbbfngnfphmohaa", sum := "e212f8d803d28b0f892a230825eb41b7d5b85ffccf7c76e484069db61e6606e0", func := "tinderbox/tinderboxlaw12.VictimEmpty", spec := "victimEmpty", inPlace := ["math.Float64frombits", "math.Float64bits"], apart := false, narrowed := true }
def VictimEmptyUptoSaid : Prop := victimEmptyUptoRow.holds Try.pinned (OpenSpec.upto victimEmptySpec)

/-- 'tinderboxlaw12.VictimGains', WHERE WHAT IT READS IS OF BULK AT MOST 1048576: true; the input reads as it did. -/
def victimGainsUptoRow : OpenClaim := { program := "ytbbfngnfphmohaa", sum := "e212f8d803d28b0f892a230825eb41b7d5b85ffccf7c76e484069db61e6606e0", func := "tinderbox/tinderboxlaw12.VictimGains", spec := "victimGains", inPlace := ["math.Float64frombits", "math.Float64bits"], apart := false, narrowed := true }
def VictimGainsUptoSaid : Prop := victimGainsUptoRow.holds Try.pinned (OpenSpec.upto victimGainsSpec)

end Rows
end Go.Proofs.Ytbbfngnfphmohaa
