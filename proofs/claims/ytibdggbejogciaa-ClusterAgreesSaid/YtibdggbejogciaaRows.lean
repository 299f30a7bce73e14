/-
  No cell of these rows narrows 'for every input' (looked for: loops, veiled, ifaces, maps, wideKeys, modest, calm, conditions, laid).
  DERIVED. THE GIVEN ROWS OF THIS SEAT. 6 by the template 'for every input the law returns true; each argument reads behind the call as it read before'; 0 by the template 'total and deterministic' (their statements: YtibdggbejogciaaTotals.lean).
  GIVEN WITH THE SEED: the statements are not yours to turn. If you find one false, say at which input.
  Laid BY PROGRAM, IN A SANDBOX (cutbox-rows.mjs): the forced cells as the released guide's own fill.sh prints them over the translation c03dbff257a70a94… (all of the seat's roots in one cut). By AI agents, Wed Nov 11 2026. No macro, syntax, notation, axiom, sorry.
-/
import Derived.Test.YtibdggbejogciaaChecked
import GoSem.Claim
import GoSem.ClaimJoined
import GoSem.ClaimMapViews
import Derived.JoinedTies
import Derived.KernelRfl
namespace Go.Proofs.Ytibdggbejogciaa
/- THE CELL 'sum', in the pinned program and in every row, IS THE sha256 OF THE DUMP (.gsa) THAT YtibdggbejogciaaProg.lean LOADS. Nothing in Lean hashes anything: it is a label: what it is worth is what the hold of that sum in a sandbox is worth. -/
noncomputable def Try.pinned : Pinned := { name := "ytibdggbejogciaa", sum := "c03dbff257a70a94ab00036b35b78333cf98979e9698f1a3f3ad376de2cd7d70", checked := Try.checked }
namespace Rows
def none {H : Type} : Left H := { results := [], args := [] }

/-- 'seepagelaw21.ClusterIgnores': WHATEVER THE INPUT: true; the input reads as it did. -/
def clusterIgnoresSpec : ChangeSpec := { name := "clusterIgnores", fn := fun _ => fun
  | [d1, d2, d3] => { results := [.lit (.bool true)], args := [d1, d2, d3] }
  | _ => none }
def clusterIgnoresRow : OpenClaim := { program := "ytibdggbejogciaa", sum := "c03dbff257a70a94ab00036b35b78333cf98979e9698f1a3f3ad376de2cd7d70", func := "seepage/seepagelaw21.ClusterIgnores", spec := "clusterIgnores", unfollowed := true, recurses := true, apart := false }
def ClusterIgnoresSaid : Prop := clusterIgnoresRow.holds Try.pinned (OpenSpec.ofChange clusterIgnoresSpec)

/-- ITS FALSE NEIGHBOUR: 'it returns false'. Refute it at one input. -/
def clusterIgnoresWrong : ChangeSpec := { name := "clusterIgnores", fn := fun _ => fun
  | [d1, d2, d3] => { results := [.lit (.bool false)], args := [d1, d2, d3] }
  | _ => none }
def ClusterIgnoresWrongFalsely : Prop := clusterIgnoresRow.holds Try.pinned (OpenSpec.ofChange clusterIgnoresWrong)

/-- 'seepagelaw21.ClusterGrows': WHATEVER THE INPUT: true; the input reads as it did. -/
def clusterGrowsSpec : ChangeSpec := { name := "clusterGrows", fn := fun _ => fun
  | [d1, d2, d3] => { results := [.lit (.bool true)], args := [d1, d2, d3] }
  | _ => none }
def clusterGrowsRow : OpenClaim := { program := "ytibdggbejogciaa", sum := "c03dbff257a70a94ab00036b35b78333cf98979e9698f1a3f3ad376de2cd7d70", func := "seepage/seepagelaw21.ClusterGrows", spec := "clusterGrows", unfollowed := true, recurses := true, apart := false }
def ClusterGrowsSaid : Prop := clusterGrowsRow.holds Try.pinned (OpenSpec.ofChange clusterGrowsSpec)

/-- ITS FALSE NEIGHBOUR: 'it returns false'. Refute it at one input. -/
def clusterGrowsWrong : ChangeSpec := { name := "clusterGrows", fn := fun _ => fun
  | [d1, d2, d3] => { results := [.lit (.bool false)], args := [d1, d2, d3] }
  | _ => none }
def ClusterGrowsWrongFalsely : Prop := clusterGrowsRow.holds Try.pinned (OpenSpec.ofChange clusterGrowsWrong)

/-- 'seepagelaw21.ClusterAgrees': WHATEVER THE INPUT: true; the input reads as it did. -/
def clusterAgreesSpec : ChangeSpec := { name := "clusterAgrees", fn := fun _ => fun
  | [d1, d2] => { results := [.lit (.bool true)], args := [d1, d2] }
  | _ => none }
def clusterAgreesRow : OpenClaim := { program := "ytibdggbejogciaa", sum := "c03dbff257a70a94ab00036b35b78333cf98979e9698f1a3f3ad376de2cd7d70", func := "seepage/seepagelaw21.ClusterAgrees", spec := "clusterAgrees", unfollowed := true, recurses := true, apart := false }
def ClusterAgreesSaid : Prop := clusterAgreesRow.holds Try.pinned (OpenSpec.ofChange clusterAgreesSpec)

/-- ITS FALSE NEIGHBOUR: 'it returns false'. Refute it at one input. -/
def clusterAgreesWrong : ChangeSpec := { name := "clusterAgrees", fn := fun _ => fun
  | [d1, d2] => { results := [.lit (.bool false)], args := [d1, d2] }
  | _ => none }
def ClusterAgreesWrongFalsely : Prop := clusterAgreesRow.holds Try.pinned (OpenSpec.ofChange clusterAgreesWrong)

/-- 'seepagelaw21.ClusterSteps': WHATEVER THE INPUT: true; the input reads as it did. -/
def clusterStepsSpec : ChangeSpec := { name := "clusterSteps", fn := fun _ => fun
  | [d1, d2, d3] => { results := [.lit (.bool true)], args := [d1, d2, d3] }
  | _ => none }
def clusterStepsRow : OpenClaim := { program := "ytibdggbejogciaa", sum := "c03dbff257a70a94ab00036b35b78333cf98979e9698f1a3f3ad376de2cd7d70", func := "seepage/seepagelaw21.ClusterSteps", spec := "clusterSteps", unfollowed := true, recurses := true, apart := false }
def ClusterStepsSaid : Prop := clusterStepsRow.holds Try.pinned (OpenSpec.ofChange clusterStepsSpec)

/-- ITS FALSE NEIGHBOUR: 'it returns false'. Refute it at one input. -/
def clusterStepsWrong : ChangeSpec := { name := "clusterSteps", fn := fun _ => fun
  | [d1, d2, d3] => { results := [.lit (.bool false)], args := [d1, d2, d3] }
  | _ => none }
def ClusterStepsWrongFalsely : Prop := clusterStepsRow.holds Try.pinned (OpenSpec.ofChange clusterStepsWrong)

/-- 'seepagelaw21.ClusterNil': WHATEVER THE INPUT: true; the input reads as it did. -/
def clusterNilSpec : ChangeSpec := { name := "clusterNil", fn := fun _ => fun
  | [d1, d2] => { results := [.lit (.bool true)], args := [d1, d2] }
  | _ => none }
def clusterNilRow : OpenClaim := { program := "ytibdggbejogciaa", sum := "c03dbff257a70a94ab00036b35b78333cf98979e9698f1a3f3ad376de2cd7d70", func := "seepage/seepagelaw21.ClusterNil", spec := "clusterNil", unfollowed := true, recurses := true, apart := false }
def ClusterNilSaid : Prop := clusterNilRow.holds Try.pinned (OpenSpec.ofChange clusterNilSpec)

/-- ITS FALSE NEIGHBOUR: 'it returns false'. Refute it at one input. -/
def clusterNilWrong : ChangeSpec := { name := "clusterNil", fn := fun _ => fun
  | [d1, d2] => { results := [.lit (.bool false)], args := [d1, d2] }
  | _ => none }
def ClusterNilWrongFalsely : Prop := clusterNilRow.holds Try.pinned (OpenSpec.ofChange clusterNilWrong)

/-- 'seepagelaw21.ClusterKnown': WHATEVER THE INPUT: true; the input reads as it did. -/
def clusterKnownSpec : ChangeSpec := { name := "clusterKnown", fn := fun _ => fun
  | [] => { results := [.lit (.bool true)], args := [] }
  | _ => none }
def clusterKnownRow : OpenClaim := { program := "ytibdggbejogciaa", sum := "c03dbff257a70a94ab00036b35b78333cf98979e9698f1a3f3ad376de2cd7d70", func := "seepage/seepagelaw21.ClusterKnown", spec := "clusterKnown", unfollowed := true, recurses := true, apart := false }
def ClusterKnownSaid : Prop := clusterKnownRow.holds Try.pinned (OpenSpec.ofChange clusterKnownSpec)

/-- ITS FALSE NEIGHBOUR: 'it returns false'. Refute it at one input. -/
def clusterKnownWrong : ChangeSpec := { name := "clusterKnown", fn := fun _ => fun
  | [] => { results := [.lit (.bool false)], args := [] }
  | _ => none }
def ClusterKnownWrongFalsely : Prop := clusterKnownRow.holds Try.pinned (OpenSpec.ofChange clusterKnownWrong)

/- THE SECOND FORM. 'bulk': how many values and letters a reading holds, each counted each time it is reached (what is shared counts as often as it is met; a slice's spare places count too). A statement '..UptoSaid' is the law's where the arguments, and the package variables that the reading takes, are together of bulk at most 1048576: NARROWER than '..Said'. Prove '..Said' where nothing that the law and all that it calls make is longer than what came in: it says more and counts as full. Else prove '..UptoSaid'. A law counts once. -/
mutual
def uptoBulk {H : Type} : DataW H → Nat
  | .lit (.string bytes) => bytes.length + 1
  | .lit _ => 1
  | .nil => 1
  | .ptr d => uptoBulk d + 1
  | .slice elems spare => uptoBulkAll elems + uptoBulkAll spare + 1
  | .agg parts => uptoBulkAll parts + 1
  | .iface _ d => uptoBulk d + 1
  | .map entries => uptoBulkEntries entries + 1
  | .held _ => 1
def uptoBulkAll {H : Type} : List (DataW H) → Nat
  | [] => 0
  | d :: r => uptoBulk d + uptoBulkAll r
def uptoBulkEntries {H : Type} : List (Lit × DataW H) → Nat
  | [] => 0
  | x :: r => uptoBulkEntry x + uptoBulkEntries r
def uptoBulkEntry {H : Type} : Lit × DataW H → Nat
  | (.string bytes, d) => bytes.length + uptoBulk d + 1
  | (_, d) => uptoBulk d + 1
 end
def uptoSmall : (H : Type) → List (DataW H) → Bool := fun _ ds => decide (uptoBulkAll ds ≤ 1048576)
def OpenSpec.upto (s : _root_.Go.ChangeSpec) : _root_.Go.OpenSpec := { _root_.Go.OpenSpec.ofChange s with cond := some uptoSmall }

/-- 'seepagelaw21.ClusterIgnores', WHERE WHAT IT READS IS OF BULK AT MOST 1048576: true; the input reads as it did. -/
def clusterIgnoresUptoRow : OpenClaim := { program := "ytibdggbejogciaa", sum := "c03dbff257a70a94ab00036b35b78333cf98979e9698f1a3f3ad376de2cd7d70", func := "seepage/seepagelaw21.ClusterIgnores", spec := "clusterIgnores", unfollowed := true, recurses := true, apart := false, narrowed := true }
def ClusterIgnoresUptoSaid : Prop := clusterIgnoresUptoRow.holds Try.pinned (OpenSpec.upto clusterIgnoresSpec)

/-- 'seepagelaw21.ClusterGrows', WHERE WHAT IT READS IS OF BULK AT MOST 1048576: true; the input reads as it did. -/
def clusterGrowsUptoRow : OpenClaim := { program := "ytibdggbejogciaa", sum := "c03dbff257a70a94ab00036b35b78333cf98979e9698f1a3f3ad376de2cd7d70", func := "seepage/seepagelaw21.ClusterGrows", spec := "clusterGrows", unfollowed := true, recurses := true, apart := false, narrowed := true }
def ClusterGrowsUptoSaid : Prop := clusterGrowsUptoRow.holds Try.pinned (OpenSpec.upto clusterGrowsSpec)

/-- 'seepagelaw21.ClusterAgrees', WHERE WHAT IT READS IS OF BULK AT MOST 1048576: true; the input reads as it did. -/
def clusterAgreesUptoRow : OpenClaim := { program := "ytibdggbejogciaa", sum := "c03dbff257a70a94ab00036b35b78333cf98979e9698f1a3f3ad376de2cd7d70", func := "seepage/seepagelaw21.ClusterAgrees", spec := "clusterAgrees", unfollowed := true, recurses := true, apart := false, narrowed := true }
def ClusterAgreesUptoSaid : Prop := clusterAgreesUptoRow.holds Try.pinned (OpenSpec.upto clusterAgreesSpec)

/-- 'seepagelaw21.ClusterSteps', WHERE WHAT IT READS IS OF BULK AT MOST 1048576: true; the input reads as it did. -/
def clusterStepsUptoRow : OpenClaim := { program := "ytibdggbejogciaa", sum := "c03dbff257a70a94ab00036b35b78333cf98979e9698f1a3f3ad376de2cd7d70", func := "seepage/seepagelaw21.ClusterSteps", spec := "clusterSteps", unfollowed := true, recurses := true, apart := false, narrowed := true }
def ClusterStepsUptoSaid : Prop := clusterStepsUptoRow.holds Try.pinned (OpenSpec.upto clusterStepsSpec)

/-- 'seepagelaw21.ClusterNil', WHERE WHAT IT READS IS OF BULK AT MOST 1048576: true; the input reads as it did. -/
def clusterNilUptoRow : OpenClaim := { program := "ytibdggbejogciaa", sum := "c03dbff257a70a94ab00036b35b78333cf98979e9698f1a3f3ad376de2cd7d70", func := "seepage/seepagelaw21.ClusterNil", spec := "clusterNil", unfollowed := true, recurses := true, apart := false, narrowed := true }
def ClusterNilUptoSaid : Prop := clusterNilUptoRow.holds Try.pinned (OpenSpec.upto clusterNilSpec)

/-- 'seepagelaw21.ClusterKnown', WHERE WHAT IT READS IS OF BULK AT MOST 1048576: true; the input reads as it did. -/
def clusterKnownUptoRow : OpenClaim := { program := "ytibdggbejogciaa", sum := "c03dbff257a70a94ab00036b35b78333cf98979e9698f1a3f3ad376de2cd7d70", func := "seepage/seepagelaw21.ClusterKnown", spec := "clusterKnown", unfollowed := true, recurses := true, apart := false, narrowed := true }
def ClusterKnownUptoSaid : Prop := clusterKnownUptoRow.holds Try.pinned (OpenSpec.upto clusterKnownSpec)

end Rows
end Go.Proofs.Ytibdggbejogciaa
