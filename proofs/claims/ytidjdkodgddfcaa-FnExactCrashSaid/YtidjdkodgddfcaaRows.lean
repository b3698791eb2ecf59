/-
  No cell of these rows narrows 'for every input' (looked for: loops, veiled, ifaces, maps, wideKeys, modest, calm, conditions, laid).
  DERIVED. THE GIVEN ROWS OF THIS SEAT. 12 by the template 'for every input the law returns true; each argument reads behind the call as it read before'; 0 by the template 'total and deterministic' (their statements: YtidjdkodgddfcaaTotals.lean).
  GIVEN WITH THE SEED: the statements are not yours to turn. If you find one false, say at which input.
  Laid BY PROGRAM, IN A SANDBOX (cutbox-rows.mjs): the forced cells as the released guide's own fill.sh prints them over the translation 928722e56cd089f7… (all of the seat's roots in one cut). By AI agents, Wed Nov 11 2026. No macro, syntax, notation, axiom, sorry.
-/
import Derived.Test.YtidjdkodgddfcaaChecked
import GoSem.Claim
import GoSem.ClaimJoined
import GoSem.ClaimMapViews
import Derived.JoinedTies
import Derived.KernelRfl
namespace Go.Proofs.Ytidjdkodgddfcaa
/- THE CELL 'sum', in the pinned program and in every row, IS THE sha256 OF THE DUMP (.gsa) THAT YtidjdkodgddfcaaProg.lean LOADS. Nothing in Lean hashes anything: it is a label: what it is worth is what the hold of that sum in a sandbox is worth. -/
noncomputable def Try.pinned : Pinned := { name := "ytidjdkodgddfcaa", sum := "928722e56cd089f74ade4ac729c9c04ad4b307081922abacc40ddf62996129ba", checked := Try.checked }
namespace Rows
def none {H : Type} : Left H := { results := [], args := [] }

/-- 'laws.FnExactBlockOf': WHATEVER THE INPUT: true; the input reads as it did. -/
def fnExactBlockOfSpec : ChangeSpec := { name := "fnExactBlockOf", fn := fun _ => fun
  | [d1, d2] => { results := [.lit (.bool true)], args := [d1, d2] }
  | _ => none }
def fnExactBlockOfRow : OpenClaim := { program := "ytidjdkodgddfcaa", sum := "928722e56cd089f74ade4ac729c9c04ad4b307081922abacc40ddf62996129ba", func := "loop.example/g00214/laws.FnExactBlockOf", spec := "fnExactBlockOf", apart := false }
def FnExactBlockOfSaid : Prop := fnExactBlockOfRow.holds Try.pinned (OpenSpec.ofChange fnExactBlockOfSpec)

/-- ITS FALSE NEIGHBOUR: 'it returns false'. Refute it at one input. -/
def fnExactBlockOfWrong : ChangeSpec := { name := "fnExactBlockOf", fn := fun _ => fun
  | [d1, d2] => { results := [.lit (.bool false)], args := [d1, d2] }
  | _ => none }
def FnExactBlockOfWrongFalsely : Prop := fnExactBlockOfRow.holds Try.pinned (OpenSpec.ofChange fnExactBlockOfWrong)

/-- 'laws.FnExactBlockSeek': WHATEVER THE INPUT: true; the input reads as it did. -/
def fnExactBlockSeekSpec : ChangeSpec := { name := "fnExactBlockSeek", fn := fun _ => fun
  | [d1, d2] => { results := [.lit (.bool true)], args := [d1, d2] }
  | _ => none }
def fnExactBlockSeekRow : OpenClaim := { program := "ytidjdkodgddfcaa", sum := "928722e56cd089f74ade4ac729c9c04ad4b307081922abacc40ddf62996129ba", func := "loop.example/g00214/laws.FnExactBlockSeek", spec := "fnExactBlockSeek", unfollowed := true, recurses := true, apart := false }
def FnExactBlockSeekSaid : Prop := fnExactBlockSeekRow.holds Try.pinned (OpenSpec.ofChange fnExactBlockSeekSpec)

/-- ITS FALSE NEIGHBOUR: 'it returns false'. Refute it at one input. -/
def fnExactBlockSeekWrong : ChangeSpec := { name := "fnExactBlockSeek", fn := fun _ => fun
  | [d1, d2] => { results := [.lit (.bool false)], args := [d1, d2] }
  | _ => none }
def FnExactBlockSeekWrongFalsely : Prop := fnExactBlockSeekRow.holds Try.pinned (OpenSpec.ofChange fnExactBlockSeekWrong)

/-- 'laws.FnExactReadBlock': WHATEVER THE INPUT: true; the input reads as it did. -/
def fnExactReadBlockSpec : ChangeSpec := { name := "fnExactReadBlock", fn := fun _ => fun
  | [d] => { results := [.lit (.bool true)], args := [d] }
  | _ => none }
def fnExactReadBlockRow : OpenClaim := { program := "ytidjdkodgddfcaa", sum := "928722e56cd089f74ade4ac729c9c04ad4b307081922abacc40ddf62996129ba", func := "loop.example/g00214/laws.FnExactReadBlock", spec := "fnExactReadBlock", apart := false }
def FnExactReadBlockSaid : Prop := fnExactReadBlockRow.holds Try.pinned (OpenSpec.ofChange fnExactReadBlockSpec)

/-- ITS FALSE NEIGHBOUR: 'it returns false'. Refute it at one input. -/
def fnExactReadBlockWrong : ChangeSpec := { name := "fnExactReadBlock", fn := fun _ => fun
  | [d] => { results := [.lit (.bool false)], args := [d] }
  | _ => none }
def FnExactReadBlockWrongFalsely : Prop := fnExactReadBlockRow.holds Try.pinned (OpenSpec.ofChange fnExactReadBlockWrong)

/-- 'laws.FnShort': WHATEVER THE INPUT: true; the input reads as it did. -/
def fnShortSpec : ChangeSpec := { name := "fnShort", fn := fun _ => fun
  | [d] => { results := [.lit (.bool true)], args := [d] }
  | _ => none }
def fnShortRow : OpenClaim := { program := "ytidjdkodgddfcaa", sum := "928722e56cd089f74ade4ac729c9c04ad4b307081922abacc40ddf62996129ba", func := "loop.example/g00214/laws.FnShort", spec := "fnShort", apart := false }
def FnShortSaid : Prop := fnShortRow.holds Try.pinned (OpenSpec.ofChange fnShortSpec)

/-- ITS FALSE NEIGHBOUR: 'it returns false'. Refute it at one input. -/
def fnShortWrong : ChangeSpec := { name := "fnShort", fn := fun _ => fun
  | [d] => { results := [.lit (.bool false)], args := [d] }
  | _ => none }
def FnShortWrongFalsely : Prop := fnShortRow.holds Try.pinned (OpenSpec.ofChange fnShortWrong)

/-- 'laws.FnBlocks': WHATEVER THE INPUT: true; the input reads as it did. -/
def fnBlocksSpec : ChangeSpec := { name := "fnBlocks", fn := fun _ => fun
  | [d] => { results := [.lit (.bool true)], args := [d] }
  | _ => none }
def fnBlocksRow : OpenClaim := { program := "ytidjdkodgddfcaa", sum := "928722e56cd089f74ade4ac729c9c04ad4b307081922abacc40ddf62996129ba", func := "loop.example/g00214/laws.FnBlocks", spec := "fnBlocks", apart := false }
def FnBlocksSaid : Prop := fnBlocksRow.holds Try.pinned (OpenSpec.ofChange fnBlocksSpec)

/-- ITS FALSE NEIGHBOUR: 'it returns false'. Refute it at one input. -/
def fnBlocksWrong : ChangeSpec := { name := "fnBlocks", fn := fun _ => fun
  | [d] => { results := [.lit (.bool false)], args := [d] }
  | _ => none }
def FnBlocksWrongFalsely : Prop := fnBlocksRow.holds Try.pinned (OpenSpec.ofChange fnBlocksWrong)

/-- 'laws.FnBlockSought': WHATEVER THE INPUT: true; the input reads as it did. -/
def fnBlockSoughtSpec : ChangeSpec := { name := "fnBlockSought", fn := fun _ => fun
  | [d] => { results := [.lit (.bool true)], args := [d] }
  | _ => none }
def fnBlockSoughtRow : OpenClaim := { program := "ytidjdkodgddfcaa", sum := "928722e56cd089f74ade4ac729c9c04ad4b307081922abacc40ddf62996129ba", func := "loop.example/g00214/laws.FnBlockSought", spec := "fnBlockSought", unfollowed := true, recurses := true, apart := false }
def FnBlockSoughtSaid : Prop := fnBlockSoughtRow.holds Try.pinned (OpenSpec.ofChange fnBlockSoughtSpec)

/-- ITS FALSE NEIGHBOUR: 'it returns false'. Refute it at one input. -/
def fnBlockSoughtWrong : ChangeSpec := { name := "fnBlockSought", fn := fun _ => fun
  | [d] => { results := [.lit (.bool false)], args := [d] }
  | _ => none }
def FnBlockSoughtWrongFalsely : Prop := fnBlockSoughtRow.holds Try.pinned (OpenSpec.ofChange fnBlockSoughtWrong)

/-- 'laws.FnExactMergeRuns': WHATEVER THE INPUT: true; the input reads as it did. -/
def fnExactMergeRunsSpec : ChangeSpec := { name := "fnExactMergeRuns", fn := fun _ => fun
  | [d] => { results := [.lit (.bool true)], args := [d] }
  | _ => none }
def fnExactMergeRunsRow : OpenClaim := { program := "ytidjdkodgddfcaa", sum := "928722e56cd089f74ade4ac729c9c04ad4b307081922abacc40ddf62996129ba", func := "loop.example/g00214/laws.FnExactMergeRuns", spec := "fnExactMergeRuns", unfollowed := true, recurses := true, apart := false }
def FnExactMergeRunsSaid : Prop := fnExactMergeRunsRow.holds Try.pinned (OpenSpec.ofChange fnExactMergeRunsSpec)

/-- ITS FALSE NEIGHBOUR: 'it returns false'. Refute it at one input. -/
def fnExactMergeRunsWrong : ChangeSpec := { name := "fnExactMergeRuns", fn := fun _ => fun
  | [d] => { results := [.lit (.bool false)], args := [d] }
  | _ => none }
def FnExactMergeRunsWrongFalsely : Prop := fnExactMergeRunsRow.holds Try.pinned (OpenSpec.ofChange fnExactMergeRunsWrong)

/-- 'laws.FnMerged': WHATEVER THE INPUT: true; the input reads as it did. -/
def fnMergedSpec : ChangeSpec := { name := "fnMerged", fn := fun _ => fun
  | [d] => { results := [.lit (.bool true)], args := [d] }
  | _ => none }
def fnMergedRow : OpenClaim := { program := "ytidjdkodgddfcaa", sum := "928722e56cd089f74ade4ac729c9c04ad4b307081922abacc40ddf62996129ba", func := "loop.example/g00214/laws.FnMerged", spec := "fnMerged", unfollowed := true, recurses := true, apart := false }
def FnMergedSaid : Prop := fnMergedRow.holds Try.pinned (OpenSpec.ofChange fnMergedSpec)

/-- ITS FALSE NEIGHBOUR: 'it returns false'. Refute it at one input. -/
def fnMergedWrong : ChangeSpec := { name := "fnMerged", fn := fun _ => fun
  | [d] => { results := [.lit (.bool false)], args := [d] }
  | _ => none }
def FnMergedWrongFalsely : Prop := fnMergedRow.holds Try.pinned (OpenSpec.ofChange fnMergedWrong)

/-- 'laws.FnBatches': WHATEVER THE INPUT: true; the input reads as it did. -/
def fnBatchesSpec : ChangeSpec := { name := "fnBatches", fn := fun _ => fun
  | [d] => { results := [.lit (.bool true)], args := [d] }
  | _ => none }
def fnBatchesRow : OpenClaim := { program := "ytidjdkodgddfcaa", sum := "928722e56cd089f74ade4ac729c9c04ad4b307081922abacc40ddf62996129ba", func := "loop.example/g00214/laws.FnBatches", spec := "fnBatches", unfollowed := true, recurses := true, apart := false }
def FnBatchesSaid : Prop := fnBatchesRow.holds Try.pinned (OpenSpec.ofChange fnBatchesSpec)

/-- ITS FALSE NEIGHBOUR: 'it returns false'. Refute it at one input. -/
def fnBatchesWrong : ChangeSpec := { name := "fnBatches", fn := fun _ => fun
  | [d] => { results := [.lit (.bool false)], args := [d] }
  | _ => none }
def FnBatchesWrongFalsely : Prop := fnBatchesRow.holds Try.pinned (OpenSpec.ofChange fnBatchesWrong)

/-- 'laws.FnExactCrash': WHATEVER THE INPUT: true; the input reads as it did. -/
def fnExactCrashSpec : ChangeSpec := { name := "fnExactCrash", fn := fun _ => fun
  | [d1, d2, d3] => { results := [.lit (.bool true)], args := [d1, d2, d3] }
  | _ => none }
def fnExactCrashRow : OpenClaim := { program := "ytidjdkodgddfcaa", sum := "928722e56cd089f74ade4ac729c9c04ad4b307081922abacc40ddf62996129ba", func := "loop.example/g00214/laws.FnExactCrash", spec := "fnExactCrash", inPlace := ["slices.overlaps[loop.example/g00214/impl.File]"], unfollowed := true, recurses := true, apart := false }
def FnExactCrashSaid : Prop := fnExactCrashRow.holds Try.pinned (OpenSpec.ofChange fnExactCrashSpec)

/-- ITS FALSE NEIGHBOUR: 'it returns false'. Refute it at one input. -/
def fnExactCrashWrong : ChangeSpec := { name := "fnExactCrash", fn := fun _ => fun
  | [d1, d2, d3] => { results := [.lit (.bool false)], args := [d1, d2, d3] }
  | _ => none }
def FnExactCrashWrongFalsely : Prop := fnExactCrashRow.holds Try.pinned (OpenSpec.ofChange fnExactCrashWrong)

/-- 'laws.FnExactDiskOk': WHATEVER THE INPUT: true; the input reads as it did. -/
def fnExactDiskOkSpec : ChangeSpec := { name := "fnExactDiskOk", fn := fun _ => fun
  | [d] => { results := [.lit (.bool true)], args := [d] }
  | _ => none }
def fnExactDiskOkRow : OpenClaim := { program := "ytidjdkodgddfcaa", sum := "928722e56cd089f74ade4ac729c9c04ad4b307081922abacc40ddf62996129ba", func := "loop.example/g00214/laws.FnExactDiskOk", spec := "fnExactDiskOk", inPlace := ["slices.overlaps[loop.example/g00214/impl.File]"], unfollowed := true, recurses := true, apart := false }
def FnExactDiskOkSaid : Prop := fnExactDiskOkRow.holds Try.pinned (OpenSpec.ofChange fnExactDiskOkSpec)

/-- ITS FALSE NEIGHBOUR: 'it returns false'. Refute it at one input. -/
def fnExactDiskOkWrong : ChangeSpec := { name := "fnExactDiskOk", fn := fun _ => fun
  | [d] => { results := [.lit (.bool false)], args := [d] }
  | _ => none }
def FnExactDiskOkWrongFalsely : Prop := fnExactDiskOkRow.holds Try.pinned (OpenSpec.ofChange fnExactDiskOkWrong)

/-- 'laws.FnExactReadFile': WHATEVER THE INPUT: true; the input reads as it did. -/
def fnExactReadFileSpec : ChangeSpec := { name := "fnExactReadFile", fn := fun _ => fun
  | [d1, d2] => { results := [.lit (.bool true)], args := [d1, d2] }
  | _ => none }
def fnExactReadFileRow : OpenClaim := { program := "ytidjdkodgddfcaa", sum := "928722e56cd089f74ade4ac729c9c04ad4b307081922abacc40ddf62996129ba", func := "loop.example/g00214/laws.FnExactReadFile", spec := "fnExactReadFile", inPlace := ["slices.overlaps[loop.example/g00214/impl.File]"], unfollowed := true, recurses := true, apart := false }
def FnExactReadFileSaid : Prop := fnExactReadFileRow.holds Try.pinned (OpenSpec.ofChange fnExactReadFileSpec)

/-- ITS FALSE NEIGHBOUR: 'it returns false'. Refute it at one input. -/
def fnExactReadFileWrong : ChangeSpec := { name := "fnExactReadFile", fn := fun _ => fun
  | [d1, d2] => { results := [.lit (.bool false)], args := [d1, d2] }
  | _ => none }
def FnExactReadFileWrongFalsely : Prop := fnExactReadFileRow.holds Try.pinned (OpenSpec.ofChange fnExactReadFileWrong)

/- THE SECOND FORM. 'bulk': how many values and letters a reading holds, each counted each time it is reached (what is shared counts as often as it is met; a slice's spare places count too). A statement '..UptoSaid' is the law's where the arguments, and the package variables that the reading takes, are together of bulk at most 1048576: NARROWER than '..Said'. Prove '..Said' where nothing that the law and all that it calls make is longer than what came in: it says more and counts as full. Else prove '..UptoSaid'. A law counts once. -/
mutual
def uptoBulk {H : Type} : DataW H → Nat
  | .lit (.string bytes) => bytes.length + 1
  | .lit _ => 1
  | .nil => 1
  | .ptr d => uptoBulk d + 1
  | .slice elems spare => uptoBulkAll elems + uptoBulkAll spare + 1
  | .agg parts => uptoBulkAll parts + 1
  | .iface _ d => uptoBulk d + 1
  | .map entries => uptoBulkEntries entries + 1
  | .held _ => 1
def uptoBulkAll {H : Type} : List (DataW H) → Nat
  | [] => 0
  | d :: r => uptoBulk d + uptoBulkAll r
def uptoBulkEntries {H : Type} : List (Lit × DataW H) → Nat
  | [] => 0
  | x :: r => uptoBulkEntry x + uptoBulkEntries r
def uptoBulkEntry {H : Type} : Lit × DataW H → Nat
  | (.string bytes, d) => bytes.length + uptoBulk d + 1
  | (_, d) => uptoBulk d + 1
 end
def uptoSmall : (H : Type) → List (DataW H) → Bool := fun _ ds => decide (uptoBulkAll ds ≤ 1048576)
def OpenSpec.upto (s : _root_.Go.ChangeSpec) : _root_.Go.OpenSpec := { _root_.Go.OpenSpec.ofChange s with cond := some uptoSmall }

/-- 'laws.FnExactBlockOf', WHERE WHAT IT READS IS OF BULK AT MOST 1048576: true; the input reads as it did. -/
def fnExactBlockOfUptoRow : OpenClaim := { program := "ytidjdkodgddfcaa", sum := "928722e56cd089f74ade4ac729c9c04ad4b307081922abacc40ddf62996129ba", func := "loop.example/g00214/laws.FnExactBlockOf", spec := "fnExactBlockOf", apart := false, narrowed := true }
def FnExactBlockOfUptoSaid : Prop := fnExactBlockOfUptoRow.holds Try.pinned (OpenSpec.upto fnExactBlockOfSpec)

/-- 'laws.FnExactBlockSeek', WHERE WHAT IT READS IS OF BULK AT MOST 1048576: true; the input reads as it did. -/
def fnExactBlockSeekUptoRow : OpenClaim := { program := "ytidjdkodgddfcaa", sum := "928722e56cd089f74ade4ac729c9c04ad4b307081922abacc40ddf62996129ba", func := "loop.example/g00214/laws.FnExactBlockSeek", spec := "fnExactBlockSeek", unfollowed := true, recurses := true, apart := false, narrowed := true }
def FnExactBlockSeekUptoSaid : Prop := fnExactBlockSeekUptoRow.holds Try.pinned (OpenSpec.upto fnExactBlockSeekSpec)

/-- 'laws.FnExactReadBlock', WHERE WHAT IT READS IS OF BULK AT MOST 1048576: true; the input reads as it did. -/
def fnExactReadBlockUptoRow : OpenClaim := { program := "ytidjdkodgddfcaa", sum := "928722e56cd089f74ade4ac729c9c04ad4b307081922abacc40ddf62996129ba", func := "loop.example/g00214/laws.FnExactReadBlock", spec := "fnExactReadBlock", apart := false, narrowed := true }
def FnExactReadBlockUptoSaid : Prop := fnExactReadBlockUptoRow.holds Try.pinned (OpenSpec.upto fnExactReadBlockSpec)

/-- 'laws.FnShort', WHERE WHAT IT READS IS OF BULK AT MOST 1048576: true; the input reads as it did. -/
def fnShortUptoRow : OpenClaim := { program := "ytidjdkodgddfcaa", sum := "928722e56cd089f74ade4ac729c9c04ad4b307081922abacc40ddf62996129ba", func := "loop.example/g00214/laws.FnShort", spec := "fnShort", apart := false, narrowed := true }
def FnShortUptoSaid : Prop := fnShortUptoRow.holds Try.pinned (OpenSpec.upto fnShortSpec)

/-- 'laws.FnBlocks', WHERE WHAT IT READS IS OF BULK AT MOST 1048576: true; the input reads as it did. -/
def fnBlocksUptoRow : OpenClaim := { program := "ytidjdkodgddfcaa", sum := "928722e56cd089f74ade4ac729c9c04ad4b307081922abacc40ddf62996129ba", func := "loop.example/g00214/laws.FnBlocks", spec := "fnBlocks", apart := false, narrowed := true }
def FnBlocksUptoSaid : Prop := fnBlocksUptoRow.holds Try.pinned (OpenSpec.upto fnBlocksSpec)

/-- 'laws.FnBlockSought', WHERE WHAT IT READS IS OF BULK AT MOST 1048576: true; the input reads as it did. -/
def fnBlockSoughtUptoRow : OpenClaim := { program := "ytidjdkodgddfcaa", sum := "928722e56cd089f74ade4ac729c9c04ad4b307081922abacc40ddf62996129ba", func := "loop.example/g00214/laws.FnBlockSought", spec := "fnBlockSought", unfollowed := true, recurses := true, apart := false, narrowed := true }
def FnBlockSoughtUptoSaid : Prop := fnBlockSoughtUptoRow.holds Try.pinned (OpenSpec.upto fnBlockSoughtSpec)

/-- 'laws.FnExactMergeRuns', WHERE WHAT IT READS IS OF BULK AT MOST 1048576: true; the input reads as it did. -/
def fnExactMergeRunsUptoRow : OpenClaim := { program := "ytidjdkodgddfcaa", sum := "928722e56cd089f74ade4ac729c9c04ad4b307081922abacc40ddf62996129ba", func := "loop.example/g00214/laws.FnExactMergeRuns", spec := "fnExactMergeRuns", unfollowed := true, recurses := true, apart := false, narrowed := true }
def FnExactMergeRunsUptoSaid : Prop := fnExactMergeRunsUptoRow.holds Try.pinned (OpenSpec.upto fnExactMergeRunsSpec)

/-- 'laws.FnMerged', WHERE WHAT IT READS IS OF BULK AT MOST 1048576: true; the input reads as it did. -/
def fnMergedUptoRow : OpenClaim := { program := "ytidjdkodgddfcaa", sum := "928722e56cd089f74ade4ac729c9c04ad4b307081922abacc40ddf62996129ba", func := "loop.example/g00214/laws.FnMerged", spec := "fnMerged", unfollowed := true, recurses := true, apart := false, narrowed := true }
def FnMergedUptoSaid : Prop := fnMergedUptoRow.holds Try.pinned (OpenSpec.upto fnMergedSpec)

/-- 'laws.FnBatches', WHERE WHAT IT READS IS OF BULK AT MOST 1048576: true; the input reads as it did. -/
def fnBatchesUptoRow : OpenClaim := { program := "ytidjdkodgddfcaa", sum := "928722e56cd089f74ade4ac729c9c04ad4b307081922abacc40ddf62996129ba", func := "loop.example/g00214/laws.FnBatches", spec := "fnBatches", unfollowed := true, recurses := true, apart := false, narrowed := true }
def FnBatchesUptoSaid : Prop := fnBatchesUptoRow.holds Try.pinned (OpenSpec.upto fnBatchesSpec)

/-- 'laws.FnExactCrash', WHERE WHAT IT READS IS OF BULK AT MOST 1048576: true; the input reads as it did. -/
def fnExactCrashUptoRow : OpenClaim := { program := "ytidjdkodgddfcaa", sum := "928722e56cd089f74ade4ac729c9c04ad4b307081922abacc40ddf62996129ba", func := "loop.example/g00214/laws.FnExactCrash", spec := "fnExactCrash", inPlace := ["slices.overlaps[loop.example/g00214/impl.File]"], unfollowed := true, recurses := true, apart := false, narrowed := true }
def FnExactCrashUptoSaid : Prop := fnExactCrashUptoRow.holds Try.pinned (OpenSpec.upto fnExactCrashSpec)

/-- 'laws.FnExactDiskOk', WHERE WHAT IT READS IS OF BULK AT MOST 1048576: true; the input reads as it did. -/
def fnExactDiskOkUptoRow : OpenClaim := { program := "ytidjdkodgddfcaa", sum := "928722e56cd089f74ade4ac729c9c04ad4b307081922abacc40ddf62996129ba", func := "loop.example/g00214/laws.FnExactDiskOk", spec := "fnExactDiskOk", inPlace := ["slices.overlaps[loop.example/g00214/impl.File]"], unfollowed := true, recurses := true, apart := false, narrowed := true }
def FnExactDiskOkUptoSaid : Prop := fnExactDiskOkUptoRow.holds Try.pinned (OpenSpec.upto fnExactDiskOkSpec)

/-- 'laws.FnExactReadFile', WHERE WHAT IT READS IS OF BULK AT MOST 1048576: true; the input reads as it did. -/
def fnExactReadFileUptoRow : OpenClaim := { program := "ytidjdkodgddfcaa", sum := "928722e56cd089f74ade4ac729c9c04ad4b307081922abacc40ddf62996129ba", func := "loop.example/g00214/laws.FnExactReadFile", spec := "fnExactReadFile", inPlace := ["slices.overlaps[loop.example/g00214/impl.File]"], unfollowed := true, recurses := true, apart := false, narrowed := true }
def FnExactReadFileUptoSaid : Prop := fnExactReadFileUptoRow.holds Try.pinned (OpenSpec.upto fnExactReadFileSpec)

end Rows
end Go.Proofs.Ytidjdkodgddfcaa
