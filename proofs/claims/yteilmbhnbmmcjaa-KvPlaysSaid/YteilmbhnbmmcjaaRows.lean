/-
  No cell of these rows narrows 'for every input' (looked for: loops, veiled, ifaces, maps, wideKeys, modest, calm, conditions, laid).
  DERIVED. THE GIVEN ROWS OF THIS SEAT. 8 by the template 'for every input the law returns true; each argument reads behind the call as it read before'; 0 by the template 'total and deterministic' (their statements: YteilmbhnbmmcjaaTotals.lean).
  GIVEN WITH THE SEED: the statements are not yours to turn. If you find one false, say at which input.
  Laid BY PROGRAM, IN A SANDBOX (cutbox-rows.mjs): the forced cells as the released guide's own fill.sh prints them over the translation 91dbb8de317162c8… (all of the seat's roots in one cut). By AI agents, Wed Nov 11 2026. No macro, syntax, notation, axiom, sorry.
-/
import Derived.Test.YteilmbhnbmmcjaaChecked
import GoSem.Claim
import GoSem.ClaimJoined
import GoSem.ClaimMapViews
import Derived.JoinedTies
import Derived.KernelRfl
namespace Go.Proofs.Yteilmbhnbmmcjaa
/- THE CELL 'sum', in the pinned program and in every row, IS THE sha256 OF THE DUMP (.gsa) THAT YteilmbhnbmmcjaaProg.lean LOADS. Nothing in Lean hashes anything: it is a label: what it is worth is what the hold of that sum in a sandbox is worth. -/
noncomputable def Try.pinned : Pinned := { name := "yteilmbhnbmmcjaa", sum := "91dbb8de317162c80a34e2d2169723208d2b9dffb8d196e56fe9ab8bca36b834", checked := Try.checked }
namespace Rows
def none {H : Type} : Left H := { results := [], args := [] }

/-- 'tinderboxlaw40.LogbookWhole': WHATEVER THE INPUT: true; the input reads as it did. -/
def logbookWholeSpec : ChangeSpec := { name := "logbookWhole", fn := fun _ => fun
  | [d1, d2] => { results := [.lit (.bool true)], args := [d1, d2] }
  | _ => none }
def logbookWholeRow : OpenClaim := { program := "yteilmbhnbmmcjaa", sum := "91dbb8de317162c80a34e2d2169723208d2b9dffb8d196e56fe9ab8bca36b834", func := "tinderbox/tinderboxlaw40.LogbookWhole", spec := "logbookWhole", inPlace := ["maps.clone"], unfollowed := true, recurses := true, apart := false }
def LogbookWholeSaid : Prop := logbookWholeRow.holds Try.pinned (OpenSpec.ofChange logbookWholeSpec)

/-- ITS FALSE NEIGHBOUR: 'it returns false'. Refute it at one input. -/
def logbookWholeWrong : ChangeSpec := { name := "logbookWhole", fn := fun _ => fun
  | [d1, d2] => { results := [.lit (.bool false)], args := [d1, d2] }
  | _ => none }
def LogbookWholeWrongFalsely : Prop := logbookWholeRow.holds Try.pinned (OpenSpec.ofChange logbookWholeWrong)

/-- 'tinderboxlaw40.LogbookKeeps': WHATEVER THE INPUT: true; the input reads as it did. -/
def logbookKeepsSpec : ChangeSpec := { name := "logbookKeeps", fn := fun _ => fun
  | [d1, d2] => { results := [.lit (.bool true)], args := [d1, d2] }
  | _ => none }
def logbookKeepsRow : OpenClaim := { program := "yteilmbhnbmmcjaa", sum := "91dbb8de317162c80a34e2d2169723208d2b9dffb8d196e56fe9ab8bca36b834", func := "tinderbox/tinderboxlaw40.LogbookKeeps", spec := "logbookKeeps", unfollowed := true, recurses := true, apart := false }
def LogbookKeepsSaid : Prop := logbookKeepsRow.holds Try.pinned (OpenSpec.ofChange logbookKeepsSpec)

/-- ITS FALSE NEIGHBOUR: 'it returns false'. Refute it at one input. -/
def logbookKeepsWrong : ChangeSpec := { name := "logbookKeeps", fn := fun _ => fun
  | [d1, d2] => { results := [.lit (.bool false)], args := [d1, d2] }
  | _ => none }
def LogbookKeepsWrongFalsely : Prop := logbookKeepsRow.holds Try.pinned (OpenSpec.ofChange logbookKeepsWrong)

/-- 'tinderboxlaw40.LogbookNone': WHATEVER THE INPUT: true; the input reads as it did. -/
def logbookNoneSpec : ChangeSpec := { name := "logbookNone", fn := fun _ => fun
  | [d] => { results := [.lit (.bool true)], args := [d] }
  | _ => none }
def logbookNoneRow : OpenClaim := { program := "yteilmbhnbmmcjaa", sum := "91dbb8de317162c80a34e2d2169723208d2b9dffb8d196e56fe9ab8bca36b834", func := "tinderbox/tinderboxlaw40.LogbookNone", spec := "logbookNone", unfollowed := true, recurses := true, apart := false }
def LogbookNoneSaid : Prop := logbookNoneRow.holds Try.pinned (OpenSpec.ofChange logbookNoneSpec)

/-- ITS FALSE NEIGHBOUR: 'it returns false'. Refute it at one input. -/
def logbookNoneWrong : ChangeSpec := { name := "logbookNone", fn := fun _ => fun
  | [d] => { results := [.lit (.bool false)], args := [d] }
  | _ => none }
def LogbookNoneWrongFalsely : Prop := logbookNoneRow.holds Try.pinned (OpenSpec.ofChange logbookNoneWrong)

/-- 'tinderboxlaw41.KvBuckets': WHATEVER THE INPUT: true; the input reads as it did. -/
def kvBucketsSpec : ChangeSpec := { name := "kvBuckets", fn := fun _ => fun
  | [d] => { results := [.lit (.bool true)], args := [d] }
  | _ => none }
def kvBucketsRow : OpenClaim := { program := "yteilmbhnbmmcjaa", sum := "91dbb8de317162c80a34e2d2169723208d2b9dffb8d196e56fe9ab8bca36b834", func := "tinderbox/tinderboxlaw41.KvBuckets", spec := "kvBuckets", inPlace := ["slices.overlaps[tinderbox/api.Pair]"], unfollowed := true, recurses := true, apart := false }
def KvBucketsSaid : Prop := kvBucketsRow.holds Try.pinned (OpenSpec.ofChange kvBucketsSpec)

/-- ITS FALSE NEIGHBOUR: 'it returns false'. Refute it at one input. -/
def kvBucketsWrong : ChangeSpec := { name := "kvBuckets", fn := fun _ => fun
  | [d] => { results := [.lit (.bool false)], args := [d] }
  | _ => none }
def KvBucketsWrongFalsely : Prop := kvBucketsRow.holds Try.pinned (OpenSpec.ofChange kvBucketsWrong)

/-- 'tinderboxlaw41.KvForms': WHATEVER THE INPUT: true; the input reads as it did. -/
def kvFormsSpec : ChangeSpec := { name := "kvForms", fn := fun _ => fun
  | [d1, d2] => { results := [.lit (.bool true)], args := [d1, d2] }
  | _ => none }
def kvFormsRow : OpenClaim := { program := "yteilmbhnbmmcjaa", sum := "91dbb8de317162c80a34e2d2169723208d2b9dffb8d196e56fe9ab8bca36b834", func := "tinderbox/tinderboxlaw41.KvForms", spec := "kvForms", inPlace := ["maps.clone", "slices.overlaps[tinderbox/api.Pair]"], unfollowed := true, recurses := true, apart := false }
def KvFormsSaid : Prop := kvFormsRow.holds Try.pinned (OpenSpec.ofChange kvFormsSpec)

/-- ITS FALSE NEIGHBOUR: 'it returns false'. Refute it at one input. -/
def kvFormsWrong : ChangeSpec := { name := "kvForms", fn := fun _ => fun
  | [d1, d2] => { results := [.lit (.bool false)], args := [d1, d2] }
  | _ => none }
def KvFormsWrongFalsely : Prop := kvFormsRow.holds Try.pinned (OpenSpec.ofChange kvFormsWrong)

/-- 'tinderboxlaw41.KvPlays': WHATEVER THE INPUT: true; the input reads as it did. -/
def kvPlaysSpec : ChangeSpec := { name := "kvPlays", fn := fun _ => fun
  | [d] => { results := [.lit (.bool true)], args := [d] }
  | _ => none }
def kvPlaysRow : OpenClaim := { program := "yteilmbhnbmmcjaa", sum := "91dbb8de317162c80a34e2d2169723208d2b9dffb8d196e56fe9ab8bca36b834", func := "tinderbox/tinderboxlaw41.KvPlays", spec := "kvPlays", inPlace := ["slices.overlaps[tinderbox/api.Pair]"], unfollowed := true, recurses := true, apart := false }
def KvPlaysSaid : Prop := kvPlaysRow.holds Try.pinned (OpenSpec.ofChange kvPlaysSpec)

/-- ITS FALSE NEIGHBOUR: 'it returns false'. Refute it at one input. -/
def kvPlaysWrong : ChangeSpec := { name := "kvPlays", fn := fun _ => fun
  | [d] => { results := [.lit (.bool false)], args := [d] }
  | _ => none }
def KvPlaysWrongFalsely : Prop := kvPlaysRow.holds Try.pinned (OpenSpec.ofChange kvPlaysWrong)

/-- 'tinderboxlaw41.KvWrites': WHATEVER THE INPUT: true; the input reads as it did. -/
def kvWritesSpec : ChangeSpec := { name := "kvWrites", fn := fun _ => fun
  | [d1, d2] => { results := [.lit (.bool true)], args := [d1, d2] }
  | _ => none }
def kvWritesRow : OpenClaim := { program := "yteilmbhnbmmcjaa", sum := "91dbb8de317162c80a34e2d2169723208d2b9dffb8d196e56fe9ab8bca36b834", func := "tinderbox/tinderboxlaw41.KvWrites", spec := "kvWrites", inPlace := ["slices.overlaps[tinderbox/api.Pair]", "maps.clone"], unfollowed := true, recurses := true, apart := false }
def KvWritesSaid : Prop := kvWritesRow.holds Try.pinned (OpenSpec.ofChange kvWritesSpec)

/-- ITS FALSE NEIGHBOUR: 'it returns false'. Refute it at one input. -/
def kvWritesWrong : ChangeSpec := { name := "kvWrites", fn := fun _ => fun
  | [d1, d2] => { results := [.lit (.bool false)], args := [d1, d2] }
  | _ => none }
def KvWritesWrongFalsely : Prop := kvWritesRow.holds Try.pinned (OpenSpec.ofChange kvWritesWrong)

/-- 'tinderboxlaw41.KvNone': WHATEVER THE INPUT: true; the input reads as it did. -/
def kvNoneSpec : ChangeSpec := { name := "kvNone", fn := fun _ => fun
  | [d1, d2] => { results := [.lit (.bool true)], args := [d1, d2] }
  | _ => none }
def kvNoneRow : OpenClaim := { program := "yteilmbhnbmmcjaa", sum := "91dbb8de317162c80a34e2d2169723208d2b9dffb8d196e56fe9ab8bca36b834", func := "tinderbox/tinderboxlaw41.KvNone", spec := "kvNone", inPlace := ["slices.overlaps[tinderbox/api.Pair]"], unfollowed := true, recurses := true, apart := false }
def KvNoneSaid : Prop := kvNoneRow.holds Try.pinned (OpenSpec.ofChange kvNoneSpec)

/-- ITS FALSE NEIGHBOUR: 'it returns false'. Refute it at one input. -/
def kvNoneWrong : ChangeSpec := { name := "kvNone", fn := fun _ => fun
  | [d1, d2] => { results := [.lit (.bool false)], args := [d1, d2] }
  | _ => none }
def KvNoneWrongFalsely : Prop := kvNoneRow.holds Try.pinned (OpenSpec.ofChange kvNoneWrong)

/- THE SECOND FORM. 'bulk': how many values and letters a reading holds, each counted each time it is reached (what is shared counts as often as it is met; a slice's spare places count too). A statement '..UptoSaid' is the law's where the arguments, and the package variables that the reading takes, are together of bulk at most 1048576: NARROWER than '..Said'. Prove '..Said' where nothing that the law and all that it calls make is longer than what came in: it says more and counts as full. Else prove '..UptoSaid'. A law counts once. -/
mutual
def uptoBulk {H : Type} : DataW H → Nat
  | .lit (.string bytes) => bytes.length + 1
  | .lit _ => 1
  | .nil => 1
  | .ptr d => uptoBulk d + 1
  | .slice elems spare => uptoBulkAll elems + uptoBulkAll spare + 1
  | .agg parts => uptoBulkAll parts + 1
  | .iface _ d => uptoBulk d + 1
  | .map entries => uptoBulkEntries entries + 1
  | .held _ => 1
def uptoBulkAll {H : Type} : List (DataW H) → Nat
  | [] => 0
  | d :: r => uptoBulk d + uptoBulkAll r
def uptoBulkEntries {H : Type} : List (Lit × DataW H) → Nat
  | [] => 0
  | x :: r => uptoBulkEntry x + uptoBulkEntries r
def uptoBulkEntry {H : Type} : Lit × DataW H → Nat
  | (.string bytes, d) => bytes.length + uptoBulk d + 1
  | (_, d) => uptoBulk d + 1
 end
def uptoSmall : (H : Type) → List (DataW H) → Bool := fun _ ds => decide (uptoBulkAll ds ≤ 1048576)
def OpenSpec.upto (s : _root_.Go.ChangeSpec) : _root_.Go.OpenSpec := { _root_.Go.OpenSpec.ofChange s with cond := some uptoSmall }

/-- 'tinderboxlaw40.LogbookWhole', WHERE WHAT IT READS IS OF BULK AT MOST 1048576: true; the input reads as it did. -/
def logbookWholeUptoRow : OpenClaim := { program := "yteilmbhnbmmcjaa", sum := "91dbb8de317162c80a34e2d2169723208d2b9dffb8d196e56fe9ab8bca36b834", func := "tinderbox/tinderboxlaw40.LogbookWhole", spec := "logbookWhole", inPlace := ["maps.clone"], unfollowed := true, recurses := true, apart := false, narrowed := true }
def LogbookWholeUptoSaid : Prop := logbookWholeUptoRow.holds Try.pinned (OpenSpec.upto logbookWholeSpec)

/-- 'tinderboxlaw40.LogbookKeeps', WHERE WHAT IT READS IS OF BULK AT MOST 1048576: true; the input reads as it did. -/
def logbookKeepsUptoRow : OpenClaim := { program := "yteilmbhnbmmcjaa", sum := "91dbb8de317162c80a34e2d2169723208d2b9dffb8d196e56fe9ab8bca36b834", func := "tinderbox/tinderboxlaw40.LogbookKeeps", spec := "logbookKeeps", unfollowed := true, recurses := true, apart := false, narrowed := true }
def LogbookKeepsUptoSaid : Prop := logbookKeepsUptoRow.holds Try.pinned (OpenSpec.upto logbookKeepsSpec)

/-- 'tinderboxlaw40.LogbookNone', WHERE WHAT IT READS IS OF BULK AT MOST 1048576: true; the input reads as it did. -/
def logbookNoneUptoRow : OpenClaim := { program := "yteilmbhnbmmcjaa", sum := "91dbb8de317162c80a34e2d2169723208d2b9dffb8d196e56fe9ab8bca36b834", func := "tinderbox/tinderboxlaw40.LogbookNone", spec := "logbookNone", unfollowed := true, recurses := true, apart := false, narrowed := true }
def LogbookNoneUptoSaid : Prop := logbookNoneUptoRow.holds Try.pinned (OpenSpec.upto logbookNoneSpec)

/-- 'tinderboxlaw41.KvBuckets', WHERE WHAT IT READS IS OF BULK AT MOST 1048576: true; the input reads as it did. -/
def kvBucketsUptoRow : OpenClaim := { program := "yteilmbhnbmmcjaa", sum := "91dbb8de317162c80a34e2d2169723208d2b9dffb8d196e56fe9ab8bca36b834", func := "tinderbox/tinderboxlaw41.KvBuckets", spec := "kvBuckets", inPlace := ["slices.overlaps[tinderbox/api.Pair]"], unfollowed := true, recurses := true, apart := false, narrowed := true }
def KvBucketsUptoSaid : Prop := kvBucketsUptoRow.holds Try.pinned (OpenSpec.upto kvBucketsSpec)

/-- 'tinderboxlaw41.KvForms', WHERE WHAT IT READS IS OF BULK AT MOST 1048576: true; the input reads as it did. -/
def kvFormsUptoRow : OpenClaim := { program := "yteilmbhnbmmcjaa", sum := "91dbb8de317162c80a34e2d2169723208d2b9dffb8d196e56fe9ab8bca36b834", func := "tinderbox/tinderboxlaw41.KvForms", spec := "kvForms", inPlace := ["maps.clone", "slices.overlaps[tinderbox/api.Pair]"], unfollowed := true, recurses := true, apart := false, narrowed := true }
def KvFormsUptoSaid : Prop := kvFormsUptoRow.holds Try.pinned (OpenSpec.upto kvFormsSpec)

/-- 'tinderboxlaw41.KvPlays', WHERE WHAT IT READS IS OF BULK AT MOST 1048576: true; the input reads as it did. -/
def kvPlaysUptoRow : OpenClaim := { program := "yteilmbhnbmmcjaa", sum := "91dbb8de317162c80a34e2d2169723208d2b9dffb8d196e56fe9ab8bca36b834", func := "tinderbox/tinderboxlaw41.KvPlays", spec := "kvPlays", inPlace := ["slices.overlaps[tinderbox/api.Pair]"], unfollowed := true, recurses := true, apart := false, narrowed := true }
def KvPlaysUptoSaid : Prop := kvPlaysUptoRow.holds Try.pinned (OpenSpec.upto kvPlaysSpec)

/-- 'tinderboxlaw41.KvWrites', WHERE WHAT IT READS IS OF BULK AT MOST 1048576: true; the input reads as it did. -/
def kvWritesUptoRow : OpenClaim := { program := "yteilmbhnbmmcjaa", sum := "91dbb8de317162c80a34e2d2169723208d2b9dffb8d196e56fe9ab8bca36b834", func := "tinderbox/tinderboxlaw41.KvWrites", spec := "kvWrites", inPlace := ["slices.overlaps[tinderbox/api.Pair]", "maps.clone"], unfollowed := true, recurses := true, apart := false, narrowed := true }
def KvWritesUptoSaid : Prop := kvWritesUptoRow.holds Try.pinned (OpenSpec.upto kvWritesSpec)

/-- 'tinderboxlaw41.KvNone', WHERE WHAT IT READS IS OF BULK AT MOST 1048576: true; the input reads as it did. -/
def kvNoneUptoRow : OpenClaim := { program := "yteilmbhnbmmcjaa", sum := "91dbb8de317162c80a34e2d2169723208d2b9dffb8d196e56fe9ab8bca36b834", func := "tinderbox/tinderboxlaw41.KvNone", spec := "kvNone", inPlace := ["slices.overlaps[tinderbox/api.Pair]"], unfollowed := true, recurses := true, apart := false, narrowed := true }
def KvNoneUptoSaid : Prop := kvNoneUptoRow.holds Try.pinned (OpenSpec.upto kvNoneSpec)

end Rows
end Go.Proofs.Yteilmbhnbmmcjaa
