/-
  No cell of these rows narrows 'for every input' (looked for: loops, veiled, ifaces, maps, wideKeys, modest, calm, conditions, laid).
  DERIVED. THE GIVEN ROWS OF THIS SEAT. 11 by the template 'for every input the law returns true; each argument reads behind the call as it read before'; 0 by the template 'total and deterministic' (their statements: YtedgdnkbojjbmaaTotals.lean).
  GIVEN WITH THE SEED: the statements are not yours to turn. If you find one false, say at which input.
  Laid BY PROGRAM, IN A SANDBOX (cutbox-rows.mjs): the forced cells as the released guide's own fill.sh prints them over the translation 71a242f45f23b031… (all of the seat's roots in one cut). By AI agents, Wed Nov 11 2026. No macro, syntax, notation, axiom, sorry.
-/
import Derived.Test.YtedgdnkbojjbmaaChecked
import GoSem.Claim
import GoSem.ClaimJoined
import GoSem.ClaimMapViews
import Derived.JoinedTies
import Derived.KernelRfl
namespace Go.Proofs.Ytedgdnkbojjbmaa
/- THE CELL 'sum', in the pinned program and in every row, IS THE sha256 OF THE DUMP (.gsa) THAT YtedgdnkbojjbmaaProg.lean LOADS. Nothing in Lean hashes anything: it is a label: what it is worth is what the hold of that sum in a sandbox is worth. -/
noncomputable def Try.pinned : Pinned := { name := "ytedgdnkbojjbmaa", sum := "71a242f45f23b031b7a1be6dec191354a0483113e91c61f4052fa4075b3ae7f8", checked := Try.checked }
namespace Rows
def none {H : Type} : Left H := { results := [], args := [] }

/-- 'laws.FnExactSharedWith': WHATEVER THE INPUT: true; the input reads as it did. -/
def fnExactSharedWithSpec : ChangeSpec := { name := "fnExactSharedWith", fn := fun _ => fun
  | [d1, d2] => { results := [.lit (.bool true)], args := [d1, d2] }
  | _ => none }
def fnExactSharedWithRow : OpenClaim := { program := "ytedgdnkbojjbmaa", sum := "71a242f45f23b031b7a1be6dec191354a0483113e91c61f4052fa4075b3ae7f8", func := "loop.example/g00214/laws.FnExactSharedWith", spec := "fnExactSharedWith", apart := false }
def FnExactSharedWithSaid : Prop := fnExactSharedWithRow.holds Try.pinned (OpenSpec.ofChange fnExactSharedWithSpec)

/-- ITS FALSE NEIGHBOUR: 'it returns false'. Refute it at one input. -/
def fnExactSharedWithWrong : ChangeSpec := { name := "fnExactSharedWith", fn := fun _ => fun
  | [d1, d2] => { results := [.lit (.bool false)], args := [d1, d2] }
  | _ => none }
def FnExactSharedWithWrongFalsely : Prop := fnExactSharedWithRow.holds Try.pinned (OpenSpec.ofChange fnExactSharedWithWrong)

/-- 'laws.FnExactShapeOk': WHATEVER THE INPUT: true; the input reads as it did. -/
def fnExactShapeOkSpec : ChangeSpec := { name := "fnExactShapeOk", fn := fun _ => fun
  | [d] => { results := [.lit (.bool true)], args := [d] }
  | _ => none }
def fnExactShapeOkRow : OpenClaim := { program := "ytedgdnkbojjbmaa", sum := "71a242f45f23b031b7a1be6dec191354a0483113e91c61f4052fa4075b3ae7f8", func := "loop.example/g00214/laws.FnExactShapeOk", spec := "fnExactShapeOk", apart := false }
def FnExactShapeOkSaid : Prop := fnExactShapeOkRow.holds Try.pinned (OpenSpec.ofChange fnExactShapeOkSpec)

/-- ITS FALSE NEIGHBOUR: 'it returns false'. Refute it at one input. -/
def fnExactShapeOkWrong : ChangeSpec := { name := "fnExactShapeOk", fn := fun _ => fun
  | [d] => { results := [.lit (.bool false)], args := [d] }
  | _ => none }
def FnExactShapeOkWrongFalsely : Prop := fnExactShapeOkRow.holds Try.pinned (OpenSpec.ofChange fnExactShapeOkWrong)

/-- 'laws.FnExactSnapsOk': WHATEVER THE INPUT: true; the input reads as it did. -/
def fnExactSnapsOkSpec : ChangeSpec := { name := "fnExactSnapsOk", fn := fun _ => fun
  | [d] => { results := [.lit (.bool true)], args := [d] }
  | _ => none }
def fnExactSnapsOkRow : OpenClaim := { program := "ytedgdnkbojjbmaa", sum := "71a242f45f23b031b7a1be6dec191354a0483113e91c61f4052fa4075b3ae7f8", func := "loop.example/g00214/laws.FnExactSnapsOk", spec := "fnExactSnapsOk", apart := false }
def FnExactSnapsOkSaid : Prop := fnExactSnapsOkRow.holds Try.pinned (OpenSpec.ofChange fnExactSnapsOkSpec)

/-- ITS FALSE NEIGHBOUR: 'it returns false'. Refute it at one input. -/
def fnExactSnapsOkWrong : ChangeSpec := { name := "fnExactSnapsOk", fn := fun _ => fun
  | [d] => { results := [.lit (.bool false)], args := [d] }
  | _ => none }
def FnExactSnapsOkWrongFalsely : Prop := fnExactSnapsOkRow.holds Try.pinned (OpenSpec.ofChange fnExactSnapsOkWrong)

/-- 'laws.FnExactCacheOk': WHATEVER THE INPUT: true; the input reads as it did. -/
def fnExactCacheOkSpec : ChangeSpec := { name := "fnExactCacheOk", fn := fun _ => fun
  | [d] => { results := [.lit (.bool true)], args := [d] }
  | _ => none }
def fnExactCacheOkRow : OpenClaim := { program := "ytedgdnkbojjbmaa", sum := "71a242f45f23b031b7a1be6dec191354a0483113e91c61f4052fa4075b3ae7f8", func := "loop.example/g00214/laws.FnExactCacheOk", spec := "fnExactCacheOk", unfollowed := true, recurses := true, apart := false }
def FnExactCacheOkSaid : Prop := fnExactCacheOkRow.holds Try.pinned (OpenSpec.ofChange fnExactCacheOkSpec)

/-- ITS FALSE NEIGHBOUR: 'it returns false'. Refute it at one input. -/
def fnExactCacheOkWrong : ChangeSpec := { name := "fnExactCacheOk", fn := fun _ => fun
  | [d] => { results := [.lit (.bool false)], args := [d] }
  | _ => none }
def FnExactCacheOkWrongFalsely : Prop := fnExactCacheOkRow.holds Try.pinned (OpenSpec.ofChange fnExactCacheOkWrong)

/-- 'laws.FnExactReadFilter': WHATEVER THE INPUT: true; the input reads as it did. -/
def fnExactReadFilterSpec : ChangeSpec := { name := "fnExactReadFilter", fn := fun _ => fun
  | [d] => { results := [.lit (.bool true)], args := [d] }
  | _ => none }
def fnExactReadFilterRow : OpenClaim := { program := "ytedgdnkbojjbmaa", sum := "71a242f45f23b031b7a1be6dec191354a0483113e91c61f4052fa4075b3ae7f8", func := "loop.example/g00214/laws.FnExactReadFilter", spec := "fnExactReadFilter", apart := false }
def FnExactReadFilterSaid : Prop := fnExactReadFilterRow.holds Try.pinned (OpenSpec.ofChange fnExactReadFilterSpec)

/-- ITS FALSE NEIGHBOUR: 'it returns false'. Refute it at one input. -/
def fnExactReadFilterWrong : ChangeSpec := { name := "fnExactReadFilter", fn := fun _ => fun
  | [d] => { results := [.lit (.bool false)], args := [d] }
  | _ => none }
def FnExactReadFilterWrongFalsely : Prop := fnExactReadFilterRow.holds Try.pinned (OpenSpec.ofChange fnExactReadFilterWrong)

/-- 'laws.FnFixed': WHATEVER THE INPUT: true; the input reads as it did. -/
def fnFixedSpec : ChangeSpec := { name := "fnFixed", fn := fun _ => fun
  | [d] => { results := [.lit (.bool true)], args := [d] }
  | _ => none }
def fnFixedRow : OpenClaim := { program := "ytedgdnkbojjbmaa", sum := "71a242f45f23b031b7a1be6dec191354a0483113e91c61f4052fa4075b3ae7f8", func := "loop.example/g00214/laws.FnFixed", spec := "fnFixed", apart := false }
def FnFixedSaid : Prop := fnFixedRow.holds Try.pinned (OpenSpec.ofChange fnFixedSpec)

/-- ITS FALSE NEIGHBOUR: 'it returns false'. Refute it at one input. -/
def fnFixedWrong : ChangeSpec := { name := "fnFixed", fn := fun _ => fun
  | [d] => { results := [.lit (.bool false)], args := [d] }
  | _ => none }
def FnFixedWrongFalsely : Prop := fnFixedRow.holds Try.pinned (OpenSpec.ofChange fnFixedWrong)

/-- 'laws.FnExactCacheUsed': WHATEVER THE INPUT: true; the input reads as it did. -/
def fnExactCacheUsedSpec : ChangeSpec := { name := "fnExactCacheUsed", fn := fun _ => fun
  | [d] => { results := [.lit (.bool true)], args := [d] }
  | _ => none }
def fnExactCacheUsedRow : OpenClaim := { program := "ytedgdnkbojjbmaa", sum := "71a242f45f23b031b7a1be6dec191354a0483113e91c61f4052fa4075b3ae7f8", func := "loop.example/g00214/laws.FnExactCacheUsed", spec := "fnExactCacheUsed", unfollowed := true, recurses := true, apart := false }
def FnExactCacheUsedSaid : Prop := fnExactCacheUsedRow.holds Try.pinned (OpenSpec.ofChange fnExactCacheUsedSpec)

/-- ITS FALSE NEIGHBOUR: 'it returns false'. Refute it at one input. -/
def fnExactCacheUsedWrong : ChangeSpec := { name := "fnExactCacheUsed", fn := fun _ => fun
  | [d] => { results := [.lit (.bool false)], args := [d] }
  | _ => none }
def FnExactCacheUsedWrongFalsely : Prop := fnExactCacheUsedRow.holds Try.pinned (OpenSpec.ofChange fnExactCacheUsedWrong)

/-- 'laws.FnExactBatchText': WHATEVER THE INPUT: true; the input reads as it did. -/
def fnExactBatchTextSpec : ChangeSpec := { name := "fnExactBatchText", fn := fun _ => fun
  | [d] => { results := [.lit (.bool true)], args := [d] }
  | _ => none }
def fnExactBatchTextRow : OpenClaim := { program := "ytedgdnkbojjbmaa", sum := "71a242f45f23b031b7a1be6dec191354a0483113e91c61f4052fa4075b3ae7f8", func := "loop.example/g00214/laws.FnExactBatchText", spec := "fnExactBatchText", unfollowed := true, recurses := true, apart := false }
def FnExactBatchTextSaid : Prop := fnExactBatchTextRow.holds Try.pinned (OpenSpec.ofChange fnExactBatchTextSpec)

/-- ITS FALSE NEIGHBOUR: 'it returns false'. Refute it at one input. -/
def fnExactBatchTextWrong : ChangeSpec := { name := "fnExactBatchText", fn := fun _ => fun
  | [d] => { results := [.lit (.bool false)], args := [d] }
  | _ => none }
def FnExactBatchTextWrongFalsely : Prop := fnExactBatchTextRow.holds Try.pinned (OpenSpec.ofChange fnExactBatchTextWrong)

/-- 'laws.FnExactReadBatch': WHATEVER THE INPUT: true; the input reads as it did. -/
def fnExactReadBatchSpec : ChangeSpec := { name := "fnExactReadBatch", fn := fun _ => fun
  | [d] => { results := [.lit (.bool true)], args := [d] }
  | _ => none }
def fnExactReadBatchRow : OpenClaim := { program := "ytedgdnkbojjbmaa", sum := "71a242f45f23b031b7a1be6dec191354a0483113e91c61f4052fa4075b3ae7f8", func := "loop.example/g00214/laws.FnExactReadBatch", spec := "fnExactReadBatch", unfollowed := true, recurses := true, apart := false }
def FnExactReadBatchSaid : Prop := fnExactReadBatchRow.holds Try.pinned (OpenSpec.ofChange fnExactReadBatchSpec)

/-- ITS FALSE NEIGHBOUR: 'it returns false'. Refute it at one input. -/
def fnExactReadBatchWrong : ChangeSpec := { name := "fnExactReadBatch", fn := fun _ => fun
  | [d] => { results := [.lit (.bool false)], args := [d] }
  | _ => none }
def FnExactReadBatchWrongFalsely : Prop := fnExactReadBatchRow.holds Try.pinned (OpenSpec.ofChange fnExactReadBatchWrong)

/-- 'laws.FnFilters': WHATEVER THE INPUT: true; the input reads as it did. -/
def fnFiltersSpec : ChangeSpec := { name := "fnFilters", fn := fun _ => fun
  | [d] => { results := [.lit (.bool true)], args := [d] }
  | _ => none }
def fnFiltersRow : OpenClaim := { program := "ytedgdnkbojjbmaa", sum := "71a242f45f23b031b7a1be6dec191354a0483113e91c61f4052fa4075b3ae7f8", func := "loop.example/g00214/laws.FnFilters", spec := "fnFilters", apart := false }
def FnFiltersSaid : Prop := fnFiltersRow.holds Try.pinned (OpenSpec.ofChange fnFiltersSpec)

/-- ITS FALSE NEIGHBOUR: 'it returns false'. Refute it at one input. -/
def fnFiltersWrong : ChangeSpec := { name := "fnFilters", fn := fun _ => fun
  | [d] => { results := [.lit (.bool false)], args := [d] }
  | _ => none }
def FnFiltersWrongFalsely : Prop := fnFiltersRow.holds Try.pinned (OpenSpec.ofChange fnFiltersWrong)

/-- 'laws.FnFilterTexts': WHATEVER THE INPUT: true; the input reads as it did. -/
def fnFilterTextsSpec : ChangeSpec := { name := "fnFilterTexts", fn := fun _ => fun
  | [d] => { results := [.lit (.bool true)], args := [d] }
  | _ => none }
def fnFilterTextsRow : OpenClaim := { program := "ytedgdnkbojjbmaa", sum := "71a242f45f23b031b7a1be6dec191354a0483113e91c61f4052fa4075b3ae7f8", func := "loop.example/g00214/laws.FnFilterTexts", spec := "fnFilterTexts", apart := false }
def FnFilterTextsSaid : Prop := fnFilterTextsRow.holds Try.pinned (OpenSpec.ofChange fnFilterTextsSpec)

/-- ITS FALSE NEIGHBOUR: 'it returns false'. Refute it at one input. -/
def fnFilterTextsWrong : ChangeSpec := { name := "fnFilterTexts", fn := fun _ => fun
  | [d] => { results := [.lit (.bool false)], args := [d] }
  | _ => none }
def FnFilterTextsWrongFalsely : Prop := fnFilterTextsRow.holds Try.pinned (OpenSpec.ofChange fnFilterTextsWrong)

/- THE SECOND FORM. 'bulk': how many values and letters a reading holds, each counted each time it is reached (what is shared counts as often as it is met; a slice's spare places count too). A statement '..UptoSaid' is the law's where the arguments, and the package variables that the reading takes, are together of bulk at most 1048576: NARROWER than '..Said'. Prove '..Said' where nothing that the law and all that it calls make is longer than what came in: it says more and counts as full. Else prove '..UptoSaid'. A law counts once. -/
mutual
def uptoBulk {H : Type} : DataW H → Nat
  | .lit (.string bytes) => bytes.length + 1
  | .lit _ => 1
  | .nil => 1
  | .ptr d => uptoBulk d + 1
  | .slice elems spare => uptoBulkAll elems + uptoBulkAll spare + 1
  | .agg parts => uptoBulkAll parts + 1
  | .iface _ d => uptoBulk d + 1
  | .map entries => uptoBulkEntries entries + 1
  | .held _ => 1
def uptoBulkAll {H : Type} : List (DataW H) → Nat
  | [] => 0
  | d :: r => uptoBulk d + uptoBulkAll r
def uptoBulkEntries {H : Type} : List (Lit × DataW H) → Nat
  | [] => 0
  | x :: r => uptoBulkEntry x + uptoBulkEntries r
def uptoBulkEntry {H : Type} : Lit × DataW H → Nat
  | (.string bytes, d) => bytes.length + uptoBulk d + 1
  | (_, d) => uptoBulk d + 1
 end
def uptoSmall : (H : Type) → List (DataW H) → Bool := fun _ ds => decide (uptoBulkAll ds ≤ 1048576)
def OpenSpec.upto (s : _root_.Go.ChangeSpec) : _root_.Go.OpenSpec := { _root_.Go.OpenSpec.ofChange s with cond := some uptoSmall }

/-- 'laws.FnExactSharedWith', WHERE WHAT IT READS IS OF BULK AT MOST 1048576: true; the input reads as it did. -/
def fnExactSharedWithUptoRow : OpenClaim := { program := "ytedgdnkbojjbmaa", sum := "71a242f45f23b031b7a1be6dec191354a0483113e91c61f4052fa4075b3ae7f8", func := "loop.example/g00214/laws.FnExactSharedWith", spec := "fnExactSharedWith", apart := false, narrowed := true }
def FnExactSharedWithUptoSaid : Prop := fnExactSharedWithUptoRow.holds Try.pinned (OpenSpec.upto fnExactSharedWithSpec)

/-- 'laws.FnExactShapeOk', WHERE WHAT IT READS IS OF BULK AT MOST 1048576: true; the input reads as it did. -/
def fnExactShapeOkUptoRow : OpenClaim := { program := "ytedgdnkbojjbmaa", sum := "71a242f45f23b031b7a1be6dec191354a0483113e91c61f4052fa4075b3ae7f8", func := "loop.example/g00214/laws.FnExactShapeOk", spec := "fnExactShapeOk", apart := false, narrowed := true }
def FnExactShapeOkUptoSaid : Prop := fnExactShapeOkUptoRow.holds Try.pinned (OpenSpec.upto fnExactShapeOkSpec)

/-- 'laws.FnExactSnapsOk', WHERE WHAT IT READS IS OF BULK AT MOST 1048576: true; the input reads as it did. -/
def fnExactSnapsOkUptoRow : OpenClaim := { program := "ytedgdnkbojjbmaa", sum := "71a242f45f23b031b7a1be6dec191354a0483113e91c61f4052fa4075b3ae7f8", func := "loop.example/g00214/laws.FnExactSnapsOk", spec := "fnExactSnapsOk", apart := false, narrowed := true }
def FnExactSnapsOkUptoSaid : Prop := fnExactSnapsOkUptoRow.holds Try.pinned (OpenSpec.upto fnExactSnapsOkSpec)

/-- 'laws.FnExactCacheOk', WHERE WHAT IT READS IS OF BULK AT MOST 1048576: true; the input reads as it did. -/
def fnExactCacheOkUptoRow : OpenClaim := { program := "ytedgdnkbojjbmaa", sum := "71a242f45f23b031b7a1be6dec191354a0483113e91c61f4052fa4075b3ae7f8", func := "loop.example/g00214/laws.FnExactCacheOk", spec := "fnExactCacheOk", unfollowed := true, recurses := true, apart := false, narrowed := true }
def FnExactCacheOkUptoSaid : Prop := fnExactCacheOkUptoRow.holds Try.pinned (OpenSpec.upto fnExactCacheOkSpec)

/-- 'laws.FnExactReadFilter', WHERE WHAT IT READS IS OF BULK AT MOST 1048576: true; the input reads as it did. -/
def fnExactReadFilterUptoRow : OpenClaim := { program := "ytedgdnkbojjbmaa", sum := "71a242f45f23b031b7a1be6dec191354a0483113e91c61f4052fa4075b3ae7f8", func := "loop.example/g00214/laws.FnExactReadFilter", spec := "fnExactReadFilter", apart := false, narrowed := true }
def FnExactReadFilterUptoSaid : Prop := fnExactReadFilterUptoRow.holds Try.pinned (OpenSpec.upto fnExactReadFilterSpec)

/-- 'laws.FnFixed', WHERE WHAT IT READS IS OF BULK AT MOST 1048576: true; the input reads as it did. -/
def fnFixedUptoRow : OpenClaim := { program := "ytedgdnkbojjbmaa", sum := "71a242f45f23b031b7a1be6dec191354a0483113e91c61f4052fa4075b3ae7f8", func := "loop.example/g00214/laws.FnFixed", spec := "fnFixed", apart := false, narrowed := true }
def FnFixedUptoSaid : Prop := fnFixedUptoRow.holds Try.pinned (OpenSpec.upto fnFixedSpec)

/-- 'laws.FnExactCacheUsed', WHERE WHAT IT READS IS OF BULK AT MOST 1048576: true; the input reads as it did. -/
def fnExactCacheUsedUptoRow : OpenClaim := { program := "ytedgdnkbojjbmaa", sum := "71a242f45f23b031b7a1be6dec191354a0483113e91c61f4052fa4075b3ae7f8", func := "loop.example/g00214/laws.FnExactCacheUsed", spec := "fnExactCacheUsed", unfollowed := true, recurses := true, apart := false, narrowed := true }
def FnExactCacheUsedUptoSaid : Prop := fnExactCacheUsedUptoRow.holds Try.pinned (OpenSpec.upto fnExactCacheUsedSpec)

/-- 'laws.FnExactBatchText', WHERE WHAT IT READS IS OF BULK AT MOST 1048576: true; the input reads as it did. -/
def fnExactBatchTextUptoRow : OpenClaim := { program := "ytedgdnkbojjbmaa", sum := "71a242f45f23b031b7a1be6dec191354a0483113e91c61f4052fa4075b3ae7f8", func := "loop.example/g00214/laws.FnExactBatchText", spec := "fnExactBatchText", unfollowed := true, recurses := true, apart := false, narrowed := true }
def FnExactBatchTextUptoSaid : Prop := fnExactBatchTextUptoRow.holds Try.pinned (OpenSpec.upto fnExactBatchTextSpec)

/-- 'laws.FnExactReadBatch', WHERE WHAT IT READS IS OF BULK AT MOST 1048576: true; the input reads as it did. -/
def fnExactReadBatchUptoRow : OpenClaim := { program := "ytedgdnkbojjbmaa", sum := "71a242f45f23b031b7a1be6dec191354a0483113e91c61f4052fa4075b3ae7f8", func := "loop.example/g00214/laws.FnExactReadBatch", spec := "fnExactReadBatch", unfollowed := true, recurses := true, apart := false, narrowed := true }
def FnExactReadBatchUptoSaid : Prop := fnExactReadBatchUptoRow.holds Try.pinned (OpenSpec.upto fnExactReadBatchSpec)

/-- 'laws.FnFilters', WHERE WHAT IT READS IS OF BULK AT MOST 1048576: true; the input reads as it did. -/
def fnFiltersUptoRow : OpenClaim := { program := "ytedgdnkbojjbmaa", sum := "71a242f45f23b031b7a1be6dec191354a0483113e91c61f4052fa4075b3ae7f8", func := "loop.example/g00214/laws.FnFilters", spec := "fnFilters", apart := false, narrowed := true }
def FnFiltersUptoSaid : Prop := fnFiltersUptoRow.holds Try.pinned (OpenSpec.upto fnFiltersSpec)

/-- 'laws.FnFilterTexts', WHERE WHAT IT READS IS OF BULK AT MOST 1048576: true; the input reads as it did. -/
def fnFilterTextsUptoRow : OpenClaim := { program := "ytedgdnkbojjbmaa", sum := "71a242f45f23b031b7a1be6dec191354a0483113e91c61f4052fa4075b3ae7f8", func := "loop.example/g00214/laws.FnFilterTexts", spec := "fnFilterTexts", apart := false, narrowed := true }
def FnFilterTextsUptoSaid : Prop := fnFilterTextsUptoRow.holds Try.pinned (OpenSpec.upto fnFilterTextsSpec)

end Rows
end Go.Proofs.Ytedgdnkbojjbmaa
