/-
  No cell of these rows narrows 'for every input' (looked for: loops, veiled, ifaces, maps, wideKeys, modest, calm, conditions, laid).
  DERIVED. THE GIVEN ROWS OF THIS SEAT. 12 by the template 'for every input the law returns true; each argument reads behind the call as it read before'; 0 by the template 'total and deterministic' (their statements: YtbojfnijgmppbaaTotals.lean).
  GIVEN WITH THE SEED: the statements are not yours to turn. If you find one false, say at which input.
  Laid BY PROGRAM, IN A SANDBOX (cutbox-rows.mjs): the forced cells as the released guide's own fill.sh prints them over the translation c20331ef05183258… (all of the seat's roots in one cut). By AI agents, Wed Nov 11 2026. No macro, syntax, notation, axiom, sorry.
-/
import Derived.Test.YtbojfnijgmppbaaChecked
import GoSem.Claim
import GoSem.ClaimJoined
import GoSem.ClaimMapViews
import Derived.JoinedTies
import Derived.KernelRfl
namespace Go.Proofs.Ytbojfnijgmppbaa
/- THE CELL 'sum', in the pinned program and in every row, IS THE sha256 OF THE DUMP (.gsa) THAT YtbojfnijgmppbaaProg.lean LOADS. Nothing in Lean hashes anything: it is a label: what it is worth is what the hold of that sum in a sandbox is worth. -/
noncomputable def Try.pinned : Pinned := { name := "ytbojfnijgmppbaa", sum := "c20331ef05183258312784c8e06f36201b92c8a4b74ec792d1a8aca00dd1ae5c", checked := Try.checked }
namespace Rows
def none {H : Type} : Left H := { results := [], args := [] }

/-- 'laws.FnExactRunsOk': WHATEVER THE INPUT: true; the input reads as it did. -/
def fnExactRunsOkSpec : ChangeSpec := { name := "fnExactRunsOk", fn := fun _ => fun
  | [d] => { results := [.lit (.bool true)], args := [d] }
  | _ => none }
def fnExactRunsOkRow : OpenClaim := { program := "ytbojfnijgmppbaa", sum := "c20331ef05183258312784c8e06f36201b92c8a4b74ec792d1a8aca00dd1ae5c", func := "loop.example/g00214/laws.FnExactRunsOk", spec := "fnExactRunsOk", unfollowed := true, recurses := true, apart := false }
def FnExactRunsOkSaid : Prop := fnExactRunsOkRow.holds Try.pinned (OpenSpec.ofChange fnExactRunsOkSpec)

/-- ITS FALSE NEIGHBOUR: 'it returns false'. Refute it at one input. -/
def fnExactRunsOkWrong : ChangeSpec := { name := "fnExactRunsOk", fn := fun _ => fun
  | [d] => { results := [.lit (.bool false)], args := [d] }
  | _ => none }
def FnExactRunsOkWrongFalsely : Prop := fnExactRunsOkRow.holds Try.pinned (OpenSpec.ofChange fnExactRunsOkWrong)

/-- 'laws.FnExactSplitRun': WHATEVER THE INPUT: true; the input reads as it did. -/
def fnExactSplitRunSpec : ChangeSpec := { name := "fnExactSplitRun", fn := fun _ => fun
  | [d1, d2] => { results := [.lit (.bool true)], args := [d1, d2] }
  | _ => none }
def fnExactSplitRunRow : OpenClaim := { program := "ytbojfnijgmppbaa", sum := "c20331ef05183258312784c8e06f36201b92c8a4b74ec792d1a8aca00dd1ae5c", func := "loop.example/g00214/laws.FnExactSplitRun", spec := "fnExactSplitRun", apart := false }
def FnExactSplitRunSaid : Prop := fnExactSplitRunRow.holds Try.pinned (OpenSpec.ofChange fnExactSplitRunSpec)

/-- ITS FALSE NEIGHBOUR: 'it returns false'. Refute it at one input. -/
def fnExactSplitRunWrong : ChangeSpec := { name := "fnExactSplitRun", fn := fun _ => fun
  | [d1, d2] => { results := [.lit (.bool false)], args := [d1, d2] }
  | _ => none }
def FnExactSplitRunWrongFalsely : Prop := fnExactSplitRunRow.holds Try.pinned (OpenSpec.ofChange fnExactSplitRunWrong)

/-- 'laws.FnSplit': WHATEVER THE INPUT: true; the input reads as it did. -/
def fnSplitSpec : ChangeSpec := { name := "fnSplit", fn := fun _ => fun
  | [d] => { results := [.lit (.bool true)], args := [d] }
  | _ => none }
def fnSplitRow : OpenClaim := { program := "ytbojfnijgmppbaa", sum := "c20331ef05183258312784c8e06f36201b92c8a4b74ec792d1a8aca00dd1ae5c", func := "loop.example/g00214/laws.FnSplit", spec := "fnSplit", apart := false }
def FnSplitSaid : Prop := fnSplitRow.holds Try.pinned (OpenSpec.ofChange fnSplitSpec)

/-- ITS FALSE NEIGHBOUR: 'it returns false'. Refute it at one input. -/
def fnSplitWrong : ChangeSpec := { name := "fnSplit", fn := fun _ => fun
  | [d] => { results := [.lit (.bool false)], args := [d] }
  | _ => none }
def FnSplitWrongFalsely : Prop := fnSplitRow.holds Try.pinned (OpenSpec.ofChange fnSplitWrong)

/-- 'laws.FnExactMemUsers': WHATEVER THE INPUT: true; the input reads as it did. -/
def fnExactMemUsersSpec : ChangeSpec := { name := "fnExactMemUsers", fn := fun _ => fun
  | [d] => { results := [.lit (.bool true)], args := [d] }
  | _ => none }
def fnExactMemUsersRow : OpenClaim := { program := "ytbojfnijgmppbaa", sum := "c20331ef05183258312784c8e06f36201b92c8a4b74ec792d1a8aca00dd1ae5c", func := "loop.example/g00214/laws.FnExactMemUsers", spec := "fnExactMemUsers", apart := false }
def FnExactMemUsersSaid : Prop := fnExactMemUsersRow.holds Try.pinned (OpenSpec.ofChange fnExactMemUsersSpec)

/-- ITS FALSE NEIGHBOUR: 'it returns false'. Refute it at one input. -/
def fnExactMemUsersWrong : ChangeSpec := { name := "fnExactMemUsers", fn := fun _ => fun
  | [d] => { results := [.lit (.bool false)], args := [d] }
  | _ => none }
def FnExactMemUsersWrongFalsely : Prop := fnExactMemUsersRow.holds Try.pinned (OpenSpec.ofChange fnExactMemUsersWrong)

/-- 'laws.FnExactMemPut': WHATEVER THE INPUT: true; the input reads as it did. -/
def fnExactMemPutSpec : ChangeSpec := { name := "fnExactMemPut", fn := fun _ => fun
  | [d1, d2] => { results := [.lit (.bool true)], args := [d1, d2] }
  | _ => none }
def fnExactMemPutRow : OpenClaim := { program := "ytbojfnijgmppbaa", sum := "c20331ef05183258312784c8e06f36201b92c8a4b74ec792d1a8aca00dd1ae5c", func := "loop.example/g00214/laws.FnExactMemPut", spec := "fnExactMemPut", inPlace := ["slices.overlaps[loop.example/g00214/impl.Entry]"], unfollowed := true, recurses := true, apart := false }
def FnExactMemPutSaid : Prop := fnExactMemPutRow.holds Try.pinned (OpenSpec.ofChange fnExactMemPutSpec)

/-- ITS FALSE NEIGHBOUR: 'it returns false'. Refute it at one input. -/
def fnExactMemPutWrong : ChangeSpec := { name := "fnExactMemPut", fn := fun _ => fun
  | [d1, d2] => { results := [.lit (.bool false)], args := [d1, d2] }
  | _ => none }
def FnExactMemPutWrongFalsely : Prop := fnExactMemPutRow.holds Try.pinned (OpenSpec.ofChange fnExactMemPutWrong)

/-- 'laws.FnPut': WHATEVER THE INPUT: true; the input reads as it did. -/
def fnPutSpec : ChangeSpec := { name := "fnPut", fn := fun _ => fun
  | [d] => { results := [.lit (.bool true)], args := [d] }
  | _ => none }
def fnPutRow : OpenClaim := { program := "ytbojfnijgmppbaa", sum := "c20331ef05183258312784c8e06f36201b92c8a4b74ec792d1a8aca00dd1ae5c", func := "loop.example/g00214/laws.FnPut", spec := "fnPut", inPlace := ["slices.overlaps[loop.example/g00214/impl.Entry]"], unfollowed := true, recurses := true, apart := false }
def FnPutSaid : Prop := fnPutRow.holds Try.pinned (OpenSpec.ofChange fnPutSpec)

/-- ITS FALSE NEIGHBOUR: 'it returns false'. Refute it at one input. -/
def fnPutWrong : ChangeSpec := { name := "fnPut", fn := fun _ => fun
  | [d] => { results := [.lit (.bool false)], args := [d] }
  | _ => none }
def FnPutWrongFalsely : Prop := fnPutRow.holds Try.pinned (OpenSpec.ofChange fnPutWrong)

/-- 'laws.FnGot': WHATEVER THE INPUT: true; the input reads as it did. -/
def fnGotSpec : ChangeSpec := { name := "fnGot", fn := fun _ => fun
  | [d] => { results := [.lit (.bool true)], args := [d] }
  | _ => none }
def fnGotRow : OpenClaim := { program := "ytbojfnijgmppbaa", sum := "c20331ef05183258312784c8e06f36201b92c8a4b74ec792d1a8aca00dd1ae5c", func := "loop.example/g00214/laws.FnGot", spec := "fnGot", unfollowed := true, recurses := true, apart := false }
def FnGotSaid : Prop := fnGotRow.holds Try.pinned (OpenSpec.ofChange fnGotSpec)

/-- ITS FALSE NEIGHBOUR: 'it returns false'. Refute it at one input. -/
def fnGotWrong : ChangeSpec := { name := "fnGot", fn := fun _ => fun
  | [d] => { results := [.lit (.bool false)], args := [d] }
  | _ => none }
def FnGotWrongFalsely : Prop := fnGotRow.holds Try.pinned (OpenSpec.ofChange fnGotWrong)

/-- 'laws.FnExactVisible': WHATEVER THE INPUT: true; the input reads as it did. -/
def fnExactVisibleSpec : ChangeSpec := { name := "fnExactVisible", fn := fun _ => fun
  | [d1, d2] => { results := [.lit (.bool true)], args := [d1, d2] }
  | _ => none }
def fnExactVisibleRow : OpenClaim := { program := "ytbojfnijgmppbaa", sum := "c20331ef05183258312784c8e06f36201b92c8a4b74ec792d1a8aca00dd1ae5c", func := "loop.example/g00214/laws.FnExactVisible", spec := "fnExactVisible", unfollowed := true, recurses := true, apart := false }
def FnExactVisibleSaid : Prop := fnExactVisibleRow.holds Try.pinned (OpenSpec.ofChange fnExactVisibleSpec)

/-- ITS FALSE NEIGHBOUR: 'it returns false'. Refute it at one input. -/
def fnExactVisibleWrong : ChangeSpec := { name := "fnExactVisible", fn := fun _ => fun
  | [d1, d2] => { results := [.lit (.bool false)], args := [d1, d2] }
  | _ => none }
def FnExactVisibleWrongFalsely : Prop := fnExactVisibleRow.holds Try.pinned (OpenSpec.ofChange fnExactVisibleWrong)

/-- 'laws.FnVisible': WHATEVER THE INPUT: true; the input reads as it did. -/
def fnVisibleSpec : ChangeSpec := { name := "fnVisible", fn := fun _ => fun
  | [d] => { results := [.lit (.bool true)], args := [d] }
  | _ => none }
def fnVisibleRow : OpenClaim := { program := "ytbojfnijgmppbaa", sum := "c20331ef05183258312784c8e06f36201b92c8a4b74ec792d1a8aca00dd1ae5c", func := "loop.example/g00214/laws.FnVisible", spec := "fnVisible", unfollowed := true, recurses := true, apart := false }
def FnVisibleSaid : Prop := fnVisibleRow.holds Try.pinned (OpenSpec.ofChange fnVisibleSpec)

/-- ITS FALSE NEIGHBOUR: 'it returns false'. Refute it at one input. -/
def fnVisibleWrong : ChangeSpec := { name := "fnVisible", fn := fun _ => fun
  | [d] => { results := [.lit (.bool false)], args := [d] }
  | _ => none }
def FnVisibleWrongFalsely : Prop := fnVisibleRow.holds Try.pinned (OpenSpec.ofChange fnVisibleWrong)

/-- 'laws.FnExactScan': WHATEVER THE INPUT: true; the input reads as it did. -/
def fnExactScanSpec : ChangeSpec := { name := "fnExactScan", fn := fun _ => fun
  | [d1, d2, d3, d4] => { results := [.lit (.bool true)], args := [d1, d2, d3, d4] }
  | _ => none }
def fnExactScanRow : OpenClaim := { program := "ytbojfnijgmppbaa", sum := "c20331ef05183258312784c8e06f36201b92c8a4b74ec792d1a8aca00dd1ae5c", func := "loop.example/g00214/laws.FnExactScan", spec := "fnExactScan", unfollowed := true, recurses := true, apart := false }
def FnExactScanSaid : Prop := fnExactScanRow.holds Try.pinned (OpenSpec.ofChange fnExactScanSpec)

/-- ITS FALSE NEIGHBOUR: 'it returns false'. Refute it at one input. -/
def fnExactScanWrong : ChangeSpec := { name := "fnExactScan", fn := fun _ => fun
  | [d1, d2, d3, d4] => { results := [.lit (.bool false)], args := [d1, d2, d3, d4] }
  | _ => none }
def FnExactScanWrongFalsely : Prop := fnExactScanRow.holds Try.pinned (OpenSpec.ofChange fnExactScanWrong)

/-- 'laws.FnExactScanBack': WHATEVER THE INPUT: true; the input reads as it did. -/
def fnExactScanBackSpec : ChangeSpec := { name := "fnExactScanBack", fn := fun _ => fun
  | [d1, d2, d3, d4] => { results := [.lit (.bool true)], args := [d1, d2, d3, d4] }
  | _ => none }
def fnExactScanBackRow : OpenClaim := { program := "ytbojfnijgmppbaa", sum := "c20331ef05183258312784c8e06f36201b92c8a4b74ec792d1a8aca00dd1ae5c", func := "loop.example/g00214/laws.FnExactScanBack", spec := "fnExactScanBack", unfollowed := true, recurses := true, apart := false }
def FnExactScanBackSaid : Prop := fnExactScanBackRow.holds Try.pinned (OpenSpec.ofChange fnExactScanBackSpec)

/-- ITS FALSE NEIGHBOUR: 'it returns false'. Refute it at one input. -/
def fnExactScanBackWrong : ChangeSpec := { name := "fnExactScanBack", fn := fun _ => fun
  | [d1, d2, d3, d4] => { results := [.lit (.bool false)], args := [d1, d2, d3, d4] }
  | _ => none }
def FnExactScanBackWrongFalsely : Prop := fnExactScanBackRow.holds Try.pinned (OpenSpec.ofChange fnExactScanBackWrong)

/-- 'laws.FnScanned': WHATEVER THE INPUT: true; the input reads as it did. -/
def fnScannedSpec : ChangeSpec := { name := "fnScanned", fn := fun _ => fun
  | [d] => { results := [.lit (.bool true)], args := [d] }
  | _ => none }
def fnScannedRow : OpenClaim := { program := "ytbojfnijgmppbaa", sum := "c20331ef05183258312784c8e06f36201b92c8a4b74ec792d1a8aca00dd1ae5c", func := "loop.example/g00214/laws.FnScanned", spec := "fnScanned", unfollowed := true, recurses := true, apart := false }
def FnScannedSaid : Prop := fnScannedRow.holds Try.pinned (OpenSpec.ofChange fnScannedSpec)

/-- ITS FALSE NEIGHBOUR: 'it returns false'. Refute it at one input. -/
def fnScannedWrong : ChangeSpec := { name := "fnScanned", fn := fun _ => fun
  | [d] => { results := [.lit (.bool false)], args := [d] }
  | _ => none }
def FnScannedWrongFalsely : Prop := fnScannedRow.holds Try.pinned (OpenSpec.ofChange fnScannedWrong)

/- THE SECOND FORM. 'bulk': how many values and letters a reading holds, each counted each time it is reached (what is shared counts as often as it is met; a slice's spare places count too). A statement '..UptoSaid' is the law's where the arguments, and the package variables that the reading takes, are together of bulk at most 1048576: NARROWER than '..Said'. Prove '..Said' where nothing that the law and all that it calls make is longer than what came in: it says more and counts as full. Else prove '..UptoSaid'. A law counts once. -/
mutual
def uptoBulk {H : Type} : DataW H → Nat
  | .lit (.string bytes) => bytes.length + 1
  | .lit _ => 1
  | .nil => 1
  | .ptr d => uptoBulk d + 1
  | .slice elems spare => uptoBulkAll elems + uptoBulkAll spare + 1
  | .agg parts => uptoBulkAll parts + 1
  | .iface _ d => uptoBulk d + 1
  | .map entries => uptoBulkEntries entries + 1
  | .held _ => 1
def uptoBulkAll {H : Type} : List (DataW H) → Nat
  | [] => 0
  | d :: r => uptoBulk d + uptoBulkAll r
def uptoBulkEntries {H : Type} : List (Lit × DataW H) → Nat
  | [] => 0
  | x :: r => uptoBulkEntry x + uptoBulkEntries r
def uptoBulkEntry {H : Type} : Lit × DataW H → Nat
  | (.string bytes, d) => bytes.length + uptoBulk d + 1
  | (_, d) => uptoBulk d + 1
 end
def uptoSmall : (H : Type) → List (DataW H) → Bool := fun _ ds => decide (uptoBulkAll ds ≤ 1048576)
def OpenSpec.upto (s : _root_.Go.ChangeSpec) : _root_.Go.OpenSpec := { _root_.Go.OpenSpec.ofChange s with cond := some uptoSmall }

/-- 'laws.FnExactRunsOk', WHERE WHAT IT READS IS OF BULK AT MOST 1048576: true; the input reads as it did. -/
def fnExactRunsOkUptoRow : OpenClaim := { program := "ytbojfnijgmppbaa", sum := "c20331ef05183258312784c8e06f36201b92c8a4b74ec792d1a8aca00dd1ae5c", func := "loop.example/g00214/laws.FnExactRunsOk", spec := "fnExactRunsOk", unfollowed := true, recurses := true, apart := false, narrowed := true }
def FnExactRunsOkUptoSaid : Prop := fnExactRunsOkUptoRow.holds Try.pinned (OpenSpec.upto fnExactRunsOkSpec)

/-- 'laws.FnExactSplitRun', WHERE WHAT IT READS IS OF BULK AT MOST 1048576: true; the input reads as it did. -/
def fnExactSplitRunUptoRow : OpenClaim := { program := "ytbojfnijgmppbaa", sum := "c20331ef05183258312784c8e06f36201b92c8a4b74ec792d1a8aca00dd1ae5c", func := "loop.example/g00214/laws.FnExactSplitRun", spec := "fnExactSplitRun", apart := false, narrowed := true }
def FnExactSplitRunUptoSaid : Prop := fnExactSplitRunUptoRow.holds Try.pinned (OpenSpec.upto fnExactSplitRunSpec)

/-- 'laws.FnSplit', WHERE WHAT IT READS IS OF BULK AT MOST 1048576: true; the input reads as it did. -/
def fnSplitUptoRow : OpenClaim := { program := "ytbojfnijgmppbaa", sum := "c20331ef05183258312784c8e06f36201b92c8a4b74ec792d1a8aca00dd1ae5c", func := "loop.example/g00214/laws.FnSplit", spec := "fnSplit", apart := false, narrowed := true }
def FnSplitUptoSaid : Prop := fnSplitUptoRow.holds Try.pinned (OpenSpec.upto fnSplitSpec)

/-- 'laws.FnExactMemUsers', WHERE WHAT IT READS IS OF BULK AT MOST 1048576: true; the input reads as it did. -/
def fnExactMemUsersUptoRow : OpenClaim := { program := "ytbojfnijgmppbaa", sum := "c20331ef05183258312784c8e06f36201b92c8a4b74ec792d1a8aca00dd1ae5c", func := "loop.example/g00214/laws.FnExactMemUsers", spec := "fnExactMemUsers", apart := false, narrowed := true }
def FnExactMemUsersUptoSaid : Prop := fnExactMemUsersUptoRow.holds Try.pinned (OpenSpec.upto fnExactMemUsersSpec)

/-- 'laws.FnExactMemPut', WHERE WHAT IT READS IS OF BULK AT MOST 1048576: true; the input reads as it did. -/
def fnExactMemPutUptoRow : OpenClaim := { program := "ytbojfnijgmppbaa", sum := "c20331ef05183258312784c8e06f36201b92c8a4b74ec792d1a8aca00dd1ae5c", func := "loop.example/g00214/laws.FnExactMemPut", spec := "fnExactMemPut", inPlace := ["slices.overlaps[loop.example/g00214/impl.Entry]"], unfollowed := true, recurses := true, apart := false, narrowed := true }
def FnExactMemPutUptoSaid : Prop := fnExactMemPutUptoRow.holds Try.pinned (OpenSpec.upto fnExactMemPutSpec)

/-- 'laws.FnPut', WHERE WHAT IT READS IS OF BULK AT MOST 1048576: true; the input reads as it did. -/
def fnPutUptoRow : OpenClaim := { program := "ytbojfnijgmppbaa", sum := "c20331ef05183258312784c8e06f36201b92c8a4b74ec792d1a8aca00dd1ae5c", func := "loop.example/g00214/laws.FnPut", spec := "fnPut", inPlace := ["slices.overlaps[loop.example/g00214/impl.Entry]"], unfollowed := true, recurses := true, apart := false, narrowed := true }
def FnPutUptoSaid : Prop := fnPutUptoRow.holds Try.pinned (OpenSpec.upto fnPutSpec)

/-- 'laws.FnGot', WHERE WHAT IT READS IS OF BULK AT MOST 1048576: true; the input reads as it did. -/
def fnGotUptoRow : OpenClaim := { program := "ytbojfnijgmppbaa", sum := "c20331ef05183258312784c8e06f36201b92c8a4b74ec792d1a8aca00dd1ae5c", func := "loop.example/g00214/laws.FnGot", spec := "fnGot", unfollowed := true, recurses := true, apart := false, narrowed := true }
def FnGotUptoSaid : Prop := fnGotUptoRow.holds Try.pinned (OpenSpec.upto fnGotSpec)

/-- 'laws.FnExactVisible', WHERE WHAT IT READS IS OF BULK AT MOST 1048576: true; the input reads as it did. -/
def fnExactVisibleUptoRow : OpenClaim := { program := "ytbojfnijgmppbaa", sum := "c20331ef05183258312784c8e06f36201b92c8a4b74ec792d1a8aca00dd1ae5c", func := "loop.example/g00214/laws.FnExactVisible", spec := "fnExactVisible", unfollowed := true, recurses := true, apart := false, narrowed := true }
def FnExactVisibleUptoSaid : Prop := fnExactVisibleUptoRow.holds Try.pinned (OpenSpec.upto fnExactVisibleSpec)

/-- 'laws.FnVisible', WHERE WHAT IT READS IS OF BULK AT MOST 1048576: true; the input reads as it did. -/
def fnVisibleUptoRow : OpenClaim := { program := "ytbojfnijgmppbaa", sum := "c20331ef05183258312784c8e06f36201b92c8a4b74ec792d1a8aca00dd1ae5c", func := "loop.example/g00214/laws.FnVisible", spec := "fnVisible", unfollowed := true, recurses := true, apart := false, narrowed := true }
def FnVisibleUptoSaid : Prop := fnVisibleUptoRow.holds Try.pinned (OpenSpec.upto fnVisibleSpec)

/-- 'laws.FnExactScan', WHERE WHAT IT READS IS OF BULK AT MOST 1048576: true; the input reads as it did. -/
def fnExactScanUptoRow : OpenClaim := { program := "ytbojfnijgmppbaa", sum := "c20331ef05183258312784c8e06f36201b92c8a4b74ec792d1a8aca00dd1ae5c", func := "loop.example/g00214/laws.FnExactScan", spec := "fnExactScan", unfollowed := true, recurses := true, apart := false, narrowed := true }
def FnExactScanUptoSaid : Prop := fnExactScanUptoRow.holds Try.pinned (OpenSpec.upto fnExactScanSpec)

/-- 'laws.FnExactScanBack', WHERE WHAT IT READS IS OF BULK AT MOST 1048576: true; the input reads as it did. -/
def fnExactScanBackUptoRow : OpenClaim := { program := "ytbojfnijgmppbaa", sum := "c20331ef05183258312784c8e06f36201b92c8a4b74ec792d1a8aca00dd1ae5c", func := "loop.example/g00214/laws.FnExactScanBack", spec := "fnExactScanBack", unfollowed := true, recurses := true, apart := false, narrowed := true }
def FnExactScanBackUptoSaid : Prop := fnExactScanBackUptoRow.holds Try.pinned (OpenSpec.upto fnExactScanBackSpec)

/-- 'laws.FnScanned', WHERE WHAT IT READS IS OF BULK AT MOST 1048576: true; the input reads as it did. -/
def fnScannedUptoRow : OpenClaim := { program := "ytbojfnijgmppbaa", sum := "c20331ef05183258312784c8e06f36201b92c8a4b74ec792d1a8aca00dd1ae5c", func := "loop.example/g00214/laws.FnScanned", spec := "fnScanned", unfollowed := true, recurses := true, apart := false, narrowed := true }
def FnScannedUptoSaid : Prop := fnScannedUptoRow.holds Try.pinned (OpenSpec.upto fnScannedSpec)

end Rows
end Go.Proofs.Ytbojfnijgmppbaa
