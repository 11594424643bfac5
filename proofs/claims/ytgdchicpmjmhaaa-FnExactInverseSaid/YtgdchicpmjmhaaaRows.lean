/-
  No cell of these rows narrows 'for every input' (looked for: loops, veiled, ifaces, maps, wideKeys, modest, calm, conditions, laid).
  DERIVED. THE GIVEN ROWS OF THIS SEAT. 4 by the template 'for every input the law returns true; each argument reads behind the call as it read before'; 0 by the template 'total and deterministic' (their statements: YtgdchicpmjmhaaaTotals.lean).
  GIVEN WITH THE SEED: the statements are not yours to turn. If you find one false, say at which input.
  Laid BY PROGRAM, IN A SANDBOX (cutbox-rows.mjs): the forced cells as the released guide's own fill.sh prints them over the translation b0623aec0acbecdb… (all of the seat's roots in one cut). By AI agents, Wed Nov 11 2026. No macro, syntax, notation, axiom, sorry.
-/
import Derived.Test.YtgdchicpmjmhaaaChecked
import GoSem.Claim
import GoSem.ClaimJoined
import GoSem.ClaimMapViews
import Derived.JoinedTies
import Derived.KernelRfl
namespace Go.Proofs.Ytgdchicpmjmhaaa
/- THE CELL 'sum', in the pinned program and in every row, IS THE sha256 OF THE DUMP (.gsa) THAT YtgdchicpmjmhaaaProg.lean LOADS. Nothing in Lean hashes anything: it is a label: what it is worth is what the hold of that sum in a sandbox is worth. -/
noncomputable def Try.pinned : Pinned := { name := "ytgdchicpmjmhaaa", sum := "b0623aec0acbecdb29f86be8699015694597999b746f764fe4eda96eddc6fa1c", checked := Try.checked }
namespace Rows
def none {H : Type} : Left H := { results := [], args := [] }

/-- 'laws.FnExactInverse': WHATEVER THE INPUT: true; the input reads as it did. -/
def fnExactInverseSpec : ChangeSpec := { name := "fnExactInverse", fn := fun _ => fun
  | [d] => { results := [.lit (.bool true)], args := [d] }
  | _ => none }
def fnExactInverseRow : OpenClaim := { program := "ytgdchicpmjmhaaa", sum := "b0623aec0acbecdb29f86be8699015694597999b746f764fe4eda96eddc6fa1c", func := "loop.example/g00570/laws.FnExactInverse", spec := "fnExactInverse", unfollowed := true, recurses := true, apart := false }
def FnExactInverseSaid : Prop := fnExactInverseRow.holds Try.pinned (OpenSpec.ofChange fnExactInverseSpec)

/-- ITS FALSE NEIGHBOUR: 'it returns false'. Refute it at one input. -/
def fnExactInverseWrong : ChangeSpec := { name := "fnExactInverse", fn := fun _ => fun
  | [d] => { results := [.lit (.bool false)], args := [d] }
  | _ => none }
def FnExactInverseWrongFalsely : Prop := fnExactInverseRow.holds Try.pinned (OpenSpec.ofChange fnExactInverseWrong)

/-- 'laws.FnCrashed': WHATEVER THE INPUT: true; the input reads as it did. -/
def fnCrashedSpec : ChangeSpec := { name := "fnCrashed", fn := fun _ => fun
  | [d] => { results := [.lit (.bool true)], args := [d] }
  | _ => none }
def fnCrashedRow : OpenClaim := { program := "ytgdchicpmjmhaaa", sum := "b0623aec0acbecdb29f86be8699015694597999b746f764fe4eda96eddc6fa1c", func := "loop.example/g00570/laws.FnCrashed", spec := "fnCrashed", inPlace := ["internal/bytealg.abigen_runtime_cmpstring", "slices.overlaps[loop.example/g00570/impl.File]"], unfollowed := true, recurses := true, apart := false }
def FnCrashedSaid : Prop := fnCrashedRow.holds Try.pinned (OpenSpec.ofChange fnCrashedSpec)

/-- ITS FALSE NEIGHBOUR: 'it returns false'. Refute it at one input. -/
def fnCrashedWrong : ChangeSpec := { name := "fnCrashed", fn := fun _ => fun
  | [d] => { results := [.lit (.bool false)], args := [d] }
  | _ => none }
def FnCrashedWrongFalsely : Prop := fnCrashedRow.holds Try.pinned (OpenSpec.ofChange fnCrashedWrong)

/-- 'laws.FnDone': WHATEVER THE INPUT: true; the input reads as it did. -/
def fnDoneSpec : ChangeSpec := { name := "fnDone", fn := fun _ => fun
  | [d] => { results := [.lit (.bool true)], args := [d] }
  | _ => none }
def fnDoneRow : OpenClaim := { program := "ytgdchicpmjmhaaa", sum := "b0623aec0acbecdb29f86be8699015694597999b746f764fe4eda96eddc6fa1c", func := "loop.example/g00570/laws.FnDone", spec := "fnDone", inPlace := ["internal/bytealg.abigen_runtime_cmpstring", "slices.overlaps[loop.example/g00570/impl.File]"], unfollowed := true, recurses := true, apart := false }
def FnDoneSaid : Prop := fnDoneRow.holds Try.pinned (OpenSpec.ofChange fnDoneSpec)

/-- ITS FALSE NEIGHBOUR: 'it returns false'. Refute it at one input. -/
def fnDoneWrong : ChangeSpec := { name := "fnDone", fn := fun _ => fun
  | [d] => { results := [.lit (.bool false)], args := [d] }
  | _ => none }
def FnDoneWrongFalsely : Prop := fnDoneRow.holds Try.pinned (OpenSpec.ofChange fnDoneWrong)

/-- 'laws.FnReplaced': WHATEVER THE INPUT: true; the input reads as it did. -/
def fnReplacedSpec : ChangeSpec := { name := "fnReplaced", fn := fun _ => fun
  | [d] => { results := [.lit (.bool true)], args := [d] }
  | _ => none }
def fnReplacedRow : OpenClaim := { program := "ytgdchicpmjmhaaa", sum := "b0623aec0acbecdb29f86be8699015694597999b746f764fe4eda96eddc6fa1c", func := "loop.example/g00570/laws.FnReplaced", spec := "fnReplaced", inPlace := ["internal/bytealg.abigen_runtime_cmpstring", "slices.overlaps[loop.example/g00570/impl.File]", "slices.overlaps[loop.example/g00570/impl.DOp]"], unfollowed := true, recurses := true, apart := false }
def FnReplacedSaid : Prop := fnReplacedRow.holds Try.pinned (OpenSpec.ofChange fnReplacedSpec)

/-- ITS FALSE NEIGHBOUR: 'it returns false'. Refute it at one input. -/
def fnReplacedWrong : ChangeSpec := { name := "fnReplaced", fn := fun _ => fun
  | [d] => { results := [.lit (.bool false)], args := [d] }
  | _ => none }
def FnReplacedWrongFalsely : Prop := fnReplacedRow.holds Try.pinned (OpenSpec.ofChange fnReplacedWrong)

/- THE SECOND FORM. 'bulk': how many values and letters a reading holds, each counted each time it is reached (what is shared counts as often as it is met; a slice's spare places count too). A statement '..UptoSaid' is the law's where the arguments, and the package variables that the reading takes, are together of bulk at most 1048576: NARROWER than '..Said'. Prove '..Said' where nothing that the law and all that it calls make is longer than what came in: it says more and counts as full. Else prove '..UptoSaid'. A law counts once. -/
mutual
def uptoBulk {H : Type} : DataW H → Nat
  | .lit (.string bytes) => bytes.length + 1
  | .lit _ => 1
  | .nil => 1
  | .ptr d => uptoBulk d + 1
  | .slice elems spare => uptoBulkAll elems + uptoBulkAll spare + 1
  | .agg parts => uptoBulkAll parts + 1
  | .iface _ d => uptoBulk d + 1
  | .map entries => uptoBulkEntries entries + 1
  | .held _ => 1
def uptoBulkAll {H : Type} : List (DataW H) → Nat
  | [] => 0
  | d :: r => uptoBulk d + uptoBulkAll r
def uptoBulkEntries {H : Type} : List (Lit × DataW H) → Nat
  | [] => 0
  | x :: r => uptoBulkEntry x + uptoBulkEntries r
def uptoBulkEntry {H : Type} : Lit × DataW H → Nat
  | (.string bytes, d) => bytes.length + uptoBulk d + 1
  | (_, d) => uptoBulk d + 1
 end
def uptoSmall : (H : Type) → List (DataW H) → Bool := fun _ ds => decide (uptoBulkAll ds ≤ 1048576)
def OpenSpec.upto (s : _root_.Go.ChangeSpec) : _root_.Go.OpenSpec := { _root_.Go.OpenSpec.ofChange s with cond := some uptoSmall }

/-- 'laws.FnExactInverse', WHERE WHAT IT READS IS OF BULK AT MOST 1048576: true; the input reads as it did. -/
def fnExactInverseUptoRow : OpenClaim := { program := "ytgdchicpmjmhaaa", sum := "b0623aec0acbecdb29f86be8699015694597999b746f764fe4eda96eddc6fa1c", func := "loop.example/g00570/laws.FnExactInverse", spec := "fnExactInverse", unfollowed := true, recurses := true, apart := false, narrowed := true }
def FnExactInverseUptoSaid : Prop := fnExactInverseUptoRow.holds Try.pinned (OpenSpec.upto fnExactInverseSpec)

/-- 'laws.FnCrashed', WHERE WHAT IT READS IS OF BULK AT MOST 1048576: true; the input reads as it did. -/
def fnCrashedUptoRow : OpenClaim := { program := "ytgdchicpmjmhaaa", sum := "b0623aec0acbecdb29f86be8699015694597999b746f764fe4eda96eddc6fa1c", func := "loop.example/g00570/laws.FnCrashed", spec := "fnCrashed", inPlace := ["internal/bytealg.abigen_runtime_cmpstring", "slices.overlaps[loop.example/g00570/impl.File]"], unfollowed := true, recurses := true, apart := false, narrowed := true }
def FnCrashedUptoSaid : Prop := fnCrashedUptoRow.holds Try.pinned (OpenSpec.upto fnCrashedSpec)

/-- 'laws.FnDone', WHERE WHAT IT READS IS OF BULK AT MOST 1048576: true; the input reads as it did. -/
def fnDoneUptoRow : OpenClaim := { program := "ytgdchicpmjmhaaa", sum := "b0623aec0acbecdb29f86be8699015694597999b746f764fe4eda96eddc6fa1c", func := "loop.example/g00570/laws.FnDone", spec := "fnDone", inPlace := ["internal/bytealg.abigen_runtime_cmpstring", "slices.overlaps[loop.example/g00570/impl.File]"], unfollowed := true, recurses := true, apart := false, narrowed := true }
def FnDoneUptoSaid : Prop := fnDoneUptoRow.holds Try.pinned (OpenSpec.upto fnDoneSpec)

/-- 'laws.FnReplaced', WHERE WHAT IT READS IS OF BULK AT MOST 1048576: true; the input reads as it did. -/
def fnReplacedUptoRow : OpenClaim := { program := "ytgdchicpmjmhaaa", sum := "b0623aec0acbecdb29f86be8699015694597999b746f764fe4eda96eddc6fa1c", func := "loop.example/g00570/laws.FnReplaced", spec := "fnReplaced", inPlace := ["internal/bytealg.abigen_runtime_cmpstring", "slices.overlaps[loop.example/g00570/impl.File]", "slices.overlaps[loop.example/g00570/impl.DOp]"], unfollowed := true, recurses := true, apart := false, narrowed := true }
def FnReplacedUptoSaid : Prop := fnReplacedUptoRow.holds Try.pinned (OpenSpec.upto fnReplacedSpec)

end Rows
end Go.Proofs.Ytgdchicpmjmhaaa
