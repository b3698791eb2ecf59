/-
  No cell of these rows narrows 'for every input' (looked for: loops, veiled, ifaces, maps, wideKeys, modest, calm, conditions, laid).
  DERIVED. THE GIVEN ROWS OF THIS SEAT. 12 by the template 'for every input the law returns true; each argument reads behind the call as it read before'; 0 by the template 'total and deterministic' (their statements: YtcgejabkjljeeaaTotals.lean).
  GIVEN WITH THE SEED: the statements are not yours to turn. If you find one false, say at which input.
  Laid BY PROGRAM, IN A SANDBOX (cutbox-rows.mjs): the forced cells as the released guide's own fill.sh prints them over the translation b381b9b40d5636ea… (all of the seat's roots in one cut). By AI agents, Wed Nov 11 2026. No macro, syntax, notation, axiom, sorry.
-/
import Derived.Test.YtcgejabkjljeeaaChecked
import GoSem.Claim
import GoSem.ClaimJoined
import GoSem.ClaimMapViews
import Derived.JoinedTies
import Derived.KernelRfl
namespace Go.Proofs.Ytcgejabkjljeeaa
/- THE CELL 'sum', in the pinned program and in every row, IS THE sha256 OF THE DUMP (.gsa) THAT YtcgejabkjljeeaaProg.lean LOADS. Nothing in Lean hashes anything: it is a label: what it is worth is what the hold of that sum in a sandbox is worth. -/
noncomputable def Try.pinned : Pinned := { name := "ytcgejabkjljeeaa", sum := "b381b9b40d5636ea450146669165f230c4a67242735d8a3700d1809ad039a82f", checked := Try.checked }
namespace Rows
def none {H : Type} : Left H := { results := [], args := [] }

/-- 'laws.FnExactApply': WHATEVER THE INPUT: true; the input reads as it did. -/
def fnExactApplySpec : ChangeSpec := { name := "fnExactApply", fn := fun _ => fun
  | [d1, d2] => { results := [.lit (.bool true)], args := [d1, d2] }
  | _ => none }
def fnExactApplyRow : OpenClaim := { program := "ytcgejabkjljeeaa", sum := "b381b9b40d5636ea450146669165f230c4a67242735d8a3700d1809ad039a82f", func := "loop.example/g00214/laws.FnExactApply", spec := "fnExactApply", unfollowed := true, recurses := true, apart := false }
def FnExactApplySaid : Prop := fnExactApplyRow.holds Try.pinned (OpenSpec.ofChange fnExactApplySpec)

/-- ITS FALSE NEIGHBOUR: 'it returns false'. Refute it at one input. -/
def fnExactApplyWrong : ChangeSpec := { name := "fnExactApply", fn := fun _ => fun
  | [d1, d2] => { results := [.lit (.bool false)], args := [d1, d2] }
  | _ => none }
def FnExactApplyWrongFalsely : Prop := fnExactApplyRow.holds Try.pinned (OpenSpec.ofChange fnExactApplyWrong)

/-- 'laws.FnExactVersionOk': WHATEVER THE INPUT: true; the input reads as it did. -/
def fnExactVersionOkSpec : ChangeSpec := { name := "fnExactVersionOk", fn := fun _ => fun
  | [d] => { results := [.lit (.bool true)], args := [d] }
  | _ => none }
def fnExactVersionOkRow : OpenClaim := { program := "ytcgejabkjljeeaa", sum := "b381b9b40d5636ea450146669165f230c4a67242735d8a3700d1809ad039a82f", func := "loop.example/g00214/laws.FnExactVersionOk", spec := "fnExactVersionOk", apart := false }
def FnExactVersionOkSaid : Prop := fnExactVersionOkRow.holds Try.pinned (OpenSpec.ofChange fnExactVersionOkSpec)

/-- ITS FALSE NEIGHBOUR: 'it returns false'. Refute it at one input. -/
def fnExactVersionOkWrong : ChangeSpec := { name := "fnExactVersionOk", fn := fun _ => fun
  | [d] => { results := [.lit (.bool false)], args := [d] }
  | _ => none }
def FnExactVersionOkWrongFalsely : Prop := fnExactVersionOkRow.holds Try.pinned (OpenSpec.ofChange fnExactVersionOkWrong)

/-- 'laws.FnExactReplay': WHATEVER THE INPUT: true; the input reads as it did. -/
def fnExactReplaySpec : ChangeSpec := { name := "fnExactReplay", fn := fun _ => fun
  | [d1, d2] => { results := [.lit (.bool true)], args := [d1, d2] }
  | _ => none }
def fnExactReplayRow : OpenClaim := { program := "ytcgejabkjljeeaa", sum := "b381b9b40d5636ea450146669165f230c4a67242735d8a3700d1809ad039a82f", func := "loop.example/g00214/laws.FnExactReplay", spec := "fnExactReplay", unfollowed := true, recurses := true, apart := false }
def FnExactReplaySaid : Prop := fnExactReplayRow.holds Try.pinned (OpenSpec.ofChange fnExactReplaySpec)

/-- ITS FALSE NEIGHBOUR: 'it returns false'. Refute it at one input. -/
def fnExactReplayWrong : ChangeSpec := { name := "fnExactReplay", fn := fun _ => fun
  | [d1, d2] => { results := [.lit (.bool false)], args := [d1, d2] }
  | _ => none }
def FnExactReplayWrongFalsely : Prop := fnExactReplayRow.holds Try.pinned (OpenSpec.ofChange fnExactReplayWrong)

/-- 'laws.FnExactPickLevel': WHATEVER THE INPUT: true; the input reads as it did. -/
def fnExactPickLevelSpec : ChangeSpec := { name := "fnExactPickLevel", fn := fun _ => fun
  | [d] => { results := [.lit (.bool true)], args := [d] }
  | _ => none }
def fnExactPickLevelRow : OpenClaim := { program := "ytcgejabkjljeeaa", sum := "b381b9b40d5636ea450146669165f230c4a67242735d8a3700d1809ad039a82f", func := "loop.example/g00214/laws.FnExactPickLevel", spec := "fnExactPickLevel", apart := false }
def FnExactPickLevelSaid : Prop := fnExactPickLevelRow.holds Try.pinned (OpenSpec.ofChange fnExactPickLevelSpec)

/-- ITS FALSE NEIGHBOUR: 'it returns false'. Refute it at one input. -/
def fnExactPickLevelWrong : ChangeSpec := { name := "fnExactPickLevel", fn := fun _ => fun
  | [d] => { results := [.lit (.bool false)], args := [d] }
  | _ => none }
def FnExactPickLevelWrongFalsely : Prop := fnExactPickLevelRow.holds Try.pinned (OpenSpec.ofChange fnExactPickLevelWrong)

/-- 'laws.FnOverlap': WHATEVER THE INPUT: true; the input reads as it did. -/
def fnOverlapSpec : ChangeSpec := { name := "fnOverlap", fn := fun _ => fun
  | [d] => { results := [.lit (.bool true)], args := [d] }
  | _ => none }
def fnOverlapRow : OpenClaim := { program := "ytcgejabkjljeeaa", sum := "b381b9b40d5636ea450146669165f230c4a67242735d8a3700d1809ad039a82f", func := "loop.example/g00214/laws.FnOverlap", spec := "fnOverlap", apart := false }
def FnOverlapSaid : Prop := fnOverlapRow.holds Try.pinned (OpenSpec.ofChange fnOverlapSpec)

/-- ITS FALSE NEIGHBOUR: 'it returns false'. Refute it at one input. -/
def fnOverlapWrong : ChangeSpec := { name := "fnOverlap", fn := fun _ => fun
  | [d] => { results := [.lit (.bool false)], args := [d] }
  | _ => none }
def FnOverlapWrongFalsely : Prop := fnOverlapRow.holds Try.pinned (OpenSpec.ofChange fnOverlapWrong)

/-- 'laws.FnExactVersionText': WHATEVER THE INPUT: true; the input reads as it did. -/
def fnExactVersionTextSpec : ChangeSpec := { name := "fnExactVersionText", fn := fun _ => fun
  | [d] => { results := [.lit (.bool true)], args := [d] }
  | _ => none }
def fnExactVersionTextRow : OpenClaim := { program := "ytcgejabkjljeeaa", sum := "b381b9b40d5636ea450146669165f230c4a67242735d8a3700d1809ad039a82f", func := "loop.example/g00214/laws.FnExactVersionText", spec := "fnExactVersionText", apart := false }
def FnExactVersionTextSaid : Prop := fnExactVersionTextRow.holds Try.pinned (OpenSpec.ofChange fnExactVersionTextSpec)

/-- ITS FALSE NEIGHBOUR: 'it returns false'. Refute it at one input. -/
def fnExactVersionTextWrong : ChangeSpec := { name := "fnExactVersionText", fn := fun _ => fun
  | [d] => { results := [.lit (.bool false)], args := [d] }
  | _ => none }
def FnExactVersionTextWrongFalsely : Prop := fnExactVersionTextRow.holds Try.pinned (OpenSpec.ofChange fnExactVersionTextWrong)

/-- 'laws.FnPicked': WHATEVER THE INPUT: true; the input reads as it did. -/
def fnPickedSpec : ChangeSpec := { name := "fnPicked", fn := fun _ => fun
  | [d] => { results := [.lit (.bool true)], args := [d] }
  | _ => none }
def fnPickedRow : OpenClaim := { program := "ytcgejabkjljeeaa", sum := "b381b9b40d5636ea450146669165f230c4a67242735d8a3700d1809ad039a82f", func := "loop.example/g00214/laws.FnPicked", spec := "fnPicked", apart := false }
def FnPickedSaid : Prop := fnPickedRow.holds Try.pinned (OpenSpec.ofChange fnPickedSpec)

/-- ITS FALSE NEIGHBOUR: 'it returns false'. Refute it at one input. -/
def fnPickedWrong : ChangeSpec := { name := "fnPicked", fn := fun _ => fun
  | [d] => { results := [.lit (.bool false)], args := [d] }
  | _ => none }
def FnPickedWrongFalsely : Prop := fnPickedRow.holds Try.pinned (OpenSpec.ofChange fnPickedWrong)

/-- 'laws.FnExactOverlapping': WHATEVER THE INPUT: true; the input reads as it did. -/
def fnExactOverlappingSpec : ChangeSpec := { name := "fnExactOverlapping", fn := fun _ => fun
  | [d1, d2, d3, d4] => { results := [.lit (.bool true)], args := [d1, d2, d3, d4] }
  | _ => none }
def fnExactOverlappingRow : OpenClaim := { program := "ytcgejabkjljeeaa", sum := "b381b9b40d5636ea450146669165f230c4a67242735d8a3700d1809ad039a82f", func := "loop.example/g00214/laws.FnExactOverlapping", spec := "fnExactOverlapping", apart := false }
def FnExactOverlappingSaid : Prop := fnExactOverlappingRow.holds Try.pinned (OpenSpec.ofChange fnExactOverlappingSpec)

/-- ITS FALSE NEIGHBOUR: 'it returns false'. Refute it at one input. -/
def fnExactOverlappingWrong : ChangeSpec := { name := "fnExactOverlapping", fn := fun _ => fun
  | [d1, d2, d3, d4] => { results := [.lit (.bool false)], args := [d1, d2, d3, d4] }
  | _ => none }
def FnExactOverlappingWrongFalsely : Prop := fnExactOverlappingRow.holds Try.pinned (OpenSpec.ofChange fnExactOverlappingWrong)

/-- 'laws.FnExactReadVersion': WHATEVER THE INPUT: true; the input reads as it did. -/
def fnExactReadVersionSpec : ChangeSpec := { name := "fnExactReadVersion", fn := fun _ => fun
  | [d] => { results := [.lit (.bool true)], args := [d] }
  | _ => none }
def fnExactReadVersionRow : OpenClaim := { program := "ytcgejabkjljeeaa", sum := "b381b9b40d5636ea450146669165f230c4a67242735d8a3700d1809ad039a82f", func := "loop.example/g00214/laws.FnExactReadVersion", spec := "fnExactReadVersion", apart := false }
def FnExactReadVersionSaid : Prop := fnExactReadVersionRow.holds Try.pinned (OpenSpec.ofChange fnExactReadVersionSpec)

/-- ITS FALSE NEIGHBOUR: 'it returns false'. Refute it at one input. -/
def fnExactReadVersionWrong : ChangeSpec := { name := "fnExactReadVersion", fn := fun _ => fun
  | [d] => { results := [.lit (.bool false)], args := [d] }
  | _ => none }
def FnExactReadVersionWrongFalsely : Prop := fnExactReadVersionRow.holds Try.pinned (OpenSpec.ofChange fnExactReadVersionWrong)

/-- 'laws.FnApplied': WHATEVER THE INPUT: true; the input reads as it did. -/
def fnAppliedSpec : ChangeSpec := { name := "fnApplied", fn := fun _ => fun
  | [d] => { results := [.lit (.bool true)], args := [d] }
  | _ => none }
def fnAppliedRow : OpenClaim := { program := "ytcgejabkjljeeaa", sum := "b381b9b40d5636ea450146669165f230c4a67242735d8a3700d1809ad039a82f", func := "loop.example/g00214/laws.FnApplied", spec := "fnApplied", unfollowed := true, recurses := true, apart := false }
def FnAppliedSaid : Prop := fnAppliedRow.holds Try.pinned (OpenSpec.ofChange fnAppliedSpec)

/-- ITS FALSE NEIGHBOUR: 'it returns false'. Refute it at one input. -/
def fnAppliedWrong : ChangeSpec := { name := "fnApplied", fn := fun _ => fun
  | [d] => { results := [.lit (.bool false)], args := [d] }
  | _ => none }
def FnAppliedWrongFalsely : Prop := fnAppliedRow.holds Try.pinned (OpenSpec.ofChange fnAppliedWrong)

/-- 'laws.FnReplayed': WHATEVER THE INPUT: true; the input reads as it did. -/
def fnReplayedSpec : ChangeSpec := { name := "fnReplayed", fn := fun _ => fun
  | [d] => { results := [.lit (.bool true)], args := [d] }
  | _ => none }
def fnReplayedRow : OpenClaim := { program := "ytcgejabkjljeeaa", sum := "b381b9b40d5636ea450146669165f230c4a67242735d8a3700d1809ad039a82f", func := "loop.example/g00214/laws.FnReplayed", spec := "fnReplayed", unfollowed := true, recurses := true, apart := false }
def FnReplayedSaid : Prop := fnReplayedRow.holds Try.pinned (OpenSpec.ofChange fnReplayedSpec)

/-- ITS FALSE NEIGHBOUR: 'it returns false'. Refute it at one input. -/
def fnReplayedWrong : ChangeSpec := { name := "fnReplayed", fn := fun _ => fun
  | [d] => { results := [.lit (.bool false)], args := [d] }
  | _ => none }
def FnReplayedWrongFalsely : Prop := fnReplayedRow.holds Try.pinned (OpenSpec.ofChange fnReplayedWrong)

/-- 'laws.FnVersionTexts': WHATEVER THE INPUT: true; the input reads as it did. -/
def fnVersionTextsSpec : ChangeSpec := { name := "fnVersionTexts", fn := fun _ => fun
  | [d] => { results := [.lit (.bool true)], args := [d] }
  | _ => none }
def fnVersionTextsRow : OpenClaim := { program := "ytcgejabkjljeeaa", sum := "b381b9b40d5636ea450146669165f230c4a67242735d8a3700d1809ad039a82f", func := "loop.example/g00214/laws.FnVersionTexts", spec := "fnVersionTexts", apart := false }
def FnVersionTextsSaid : Prop := fnVersionTextsRow.holds Try.pinned (OpenSpec.ofChange fnVersionTextsSpec)

/-- ITS FALSE NEIGHBOUR: 'it returns false'. Refute it at one input. -/
def fnVersionTextsWrong : ChangeSpec := { name := "fnVersionTexts", fn := fun _ => fun
  | [d] => { results := [.lit (.bool false)], args := [d] }
  | _ => none }
def FnVersionTextsWrongFalsely : Prop := fnVersionTextsRow.holds Try.pinned (OpenSpec.ofChange fnVersionTextsWrong)

/- THE SECOND FORM. 'bulk': how many values and letters a reading holds, each counted each time it is reached (what is shared counts as often as it is met; a slice's spare places count too). A statement '..UptoSaid' is the law's where the arguments, and the package variables that the reading takes, are together of bulk at most 1048576: NARROWER than '..Said'. Prove '..Said' where nothing that the law and all that it calls make is longer than what came in: it says more and counts as full. Else prove '..UptoSaid'. A law counts once. -/
mutual
def uptoBulk {H : Type} : DataW H → Nat
  | .lit (.string bytes) => bytes.length + 1
  | .lit _ => 1
  | .nil => 1
  | .ptr d => uptoBulk d + 1
  | .slice elems spare => uptoBulkAll elems + uptoBulkAll spare + 1
  | .agg parts => uptoBulkAll parts + 1
  | .iface _ d => uptoBulk d + 1
  | .map entries => uptoBulkEntries entries + 1
  | .held _ => 1
def uptoBulkAll {H : Type} : List (DataW H) → Nat
  | [] => 0
  | d :: r => uptoBulk d + uptoBulkAll r
def uptoBulkEntries {H : Type} : List (Lit × DataW H) → Nat
  | [] => 0
  | x :: r => uptoBulkEntry x + uptoBulkEntries r
def uptoBulkEntry {H : Type} : Lit × DataW H → Nat
  | (.string bytes, d) => bytes.length + uptoBulk d + 1
  | (_, d) => uptoBulk d + 1
 end
def uptoSmall : (H : Type) → List (DataW H) → Bool := fun _ ds => decide (uptoBulkAll ds ≤ 1048576)
def OpenSpec.upto (s : _root_.Go.ChangeSpec) : _root_.Go.OpenSpec := { _root_.Go.OpenSpec.ofChange s with cond := some uptoSmall }

/-- 'laws.FnExactApply', WHERE WHAT IT READS IS OF BULK AT MOST 1048576: true; the input reads as it did. -/
def fnExactApplyUptoRow : OpenClaim := { program := "ytcgejabkjljeeaa", sum := "b381b9b40d5636ea450146669165f230c4a67242735d8a3700d1809ad039a82f", func := "loop.example/g00214/laws.FnExactApply", spec := "fnExactApply", unfollowed := true, recurses := true, apart := false, narrowed := true }
def FnExactApplyUptoSaid : Prop := fnExactApplyUptoRow.holds Try.pinned (OpenSpec.upto fnExactApplySpec)

/-- 'laws.FnExactVersionOk', WHERE WHAT IT READS IS OF BULK AT MOST 1048576: true; the input reads as it did. -/
def fnExactVersionOkUptoRow : OpenClaim := { program := "ytcgejabkjljeeaa", sum := "b381b9b40d5636ea450146669165f230c4a67242735d8a3700d1809ad039a82f", func := "loop.example/g00214/laws.FnExactVersionOk", spec := "fnExactVersionOk", apart := false, narrowed := true }
def FnExactVersionOkUptoSaid : Prop := fnExactVersionOkUptoRow.holds Try.pinned (OpenSpec.upto fnExactVersionOkSpec)

/-- 'laws.FnExactReplay', WHERE WHAT IT READS IS OF BULK AT MOST 1048576: true; the input reads as it did. -/
def fnExactReplayUptoRow : OpenClaim := { program := "ytcgejabkjljeeaa", sum := "b381b9b40d5636ea450146669165f230c4a67242735d8a3700d1809ad039a82f", func := "loop.example/g00214/laws.FnExactReplay", spec := "fnExactReplay", unfollowed := true, recurses := true, apart := false, narrowed := true }
def FnExactReplayUptoSaid : Prop := fnExactReplayUptoRow.holds Try.pinned (OpenSpec.upto fnExactReplaySpec)

/-- 'laws.FnExactPickLevel', WHERE WHAT IT READS IS OF BULK AT MOST 1048576: true; the input reads as it did. -/
def fnExactPickLevelUptoRow : OpenClaim := { program := "ytcgejabkjljeeaa", sum := "b381b9b40d5636ea450146669165f230c4a67242735d8a3700d1809ad039a82f", func := "loop.example/g00214/laws.FnExactPickLevel", spec := "fnExactPickLevel", apart := false, narrowed := true }
def FnExactPickLevelUptoSaid : Prop := fnExactPickLevelUptoRow.holds Try.pinned (OpenSpec.upto fnExactPickLevelSpec)

/-- 'laws.FnOverlap', WHERE WHAT IT READS IS OF BULK AT MOST 1048576: true; the input reads as it did. -/
def fnOverlapUptoRow : OpenClaim := { program := "ytcgejabkjljeeaa", sum := "b381b9b40d5636ea450146669165f230c4a67242735d8a3700d1809ad039a82f", func := "loop.example/g00214/laws.FnOverlap", spec := "fnOverlap", apart := false, narrowed := true }
def FnOverlapUptoSaid : Prop := fnOverlapUptoRow.holds Try.pinned (OpenSpec.upto fnOverlapSpec)

/-- 'laws.FnExactVersionText', WHERE WHAT IT READS IS OF BULK AT MOST 1048576: true; the input reads as it did. -/
def fnExactVersionTextUptoRow : OpenClaim := { program := "ytcgejabkjljeeaa", sum := "b381b9b40d5636ea450146669165f230c4a67242735d8a3700d1809ad039a82f", func := "loop.example/g00214/laws.FnExactVersionText", spec := "fnExactVersionText", apart := false, narrowed := true }
def FnExactVersionTextUptoSaid : Prop := fnExactVersionTextUptoRow.holds Try.pinned (OpenSpec.upto fnExactVersionTextSpec)

/-- 'laws.FnPicked', WHERE WHAT IT READS IS OF BULK AT MOST 1048576: true; the input reads as it did. -/
def fnPickedUptoRow : OpenClaim := { program := "ytcgejabkjljeeaa", sum := "b381b9b40d5636ea450146669165f230c4a67242735d8a3700d1809ad039a82f", func := "loop.example/g00214/laws.FnPicked", spec := "fnPicked", apart := false, narrowed := true }
def FnPickedUptoSaid : Prop := fnPickedUptoRow.holds Try.pinned (OpenSpec.upto fnPickedSpec)

/-- 'laws.FnExactOverlapping', WHERE WHAT IT READS IS OF BULK AT MOST 1048576: true; the input reads as it did. -/
def fnExactOverlappingUptoRow : OpenClaim := { program := "ytcgejabkjljeeaa", sum := "b381b9b40d5636ea450146669165f230c4a67242735d8a3700d1809ad039a82f", func := "loop.example/g00214/laws.FnExactOverlapping", spec := "fnExactOverlapping", apart := false, narrowed := true }
def FnExactOverlappingUptoSaid : Prop := fnExactOverlappingUptoRow.holds Try.pinned (OpenSpec.upto fnExactOverlappingSpec)

/-- 'laws.FnExactReadVersion', WHERE WHAT IT READS IS OF BULK AT MOST 1048576: true; the input reads as it did. -/
def fnExactReadVersionUptoRow : OpenClaim := { program := "ytcgejabkjljeeaa", sum := "b381b9b40d5636ea450146669165f230c4a67242735d8a3700d1809ad039a82f", func := "loop.example/g00214/laws.FnExactReadVersion", spec := "fnExactReadVersion", apart := false, narrowed := true }
def FnExactReadVersionUptoSaid : Prop := fnExactReadVersionUptoRow.holds Try.pinned (OpenSpec.upto fnExactReadVersionSpec)

/-- 'laws.FnApplied', WHERE WHAT IT READS IS OF BULK AT MOST 1048576: true; the input reads as it did. -/
def fnAppliedUptoRow : OpenClaim := { program := "ytcgejabkjljeeaa", sum := "b381b9b40d5636ea450146669165f230c4a67242735d8a3700d1809ad039a82f", func := "loop.example/g00214/laws.FnApplied", spec := "fnApplied", unfollowed := true, recurses := true, apart := false, narrowed := true }
def FnAppliedUptoSaid : Prop := fnAppliedUptoRow.holds Try.pinned (OpenSpec.upto fnAppliedSpec)

/-- 'laws.FnReplayed', WHERE WHAT IT READS IS OF BULK AT MOST 1048576: true; the input reads as it did. -/
def fnReplayedUptoRow : OpenClaim := { program := "ytcgejabkjljeeaa", sum := "b381b9b40d5636ea450146669165f230c4a67242735d8a3700d1809ad039a82f", func := "loop.example/g00214/laws.FnReplayed", spec := "fnReplayed", unfollowed := true, recurses := true, apart := false, narrowed := true }
def FnReplayedUptoSaid : Prop := fnReplayedUptoRow.holds Try.pinned (OpenSpec.upto fnReplayedSpec)

/-- 'laws.FnVersionTexts', WHERE WHAT IT READS IS OF BULK AT MOST 1048576: true; the input reads as it did. -/
def fnVersionTextsUptoRow : OpenClaim := { program := "ytcgejabkjljeeaa", sum := "b381b9b40d5636ea450146669165f230c4a67242735d8a3700d1809ad039a82f", func := "loop.example/g00214/laws.FnVersionTexts", spec := "fnVersionTexts", apart := false, narrowed := true }
def FnVersionTextsUptoSaid : Prop := fnVersionTextsUptoRow.holds Try.pinned (OpenSpec.upto fnVersionTextsSpec)

end Rows
end Go.Proofs.Ytcgejabkjljeeaa
