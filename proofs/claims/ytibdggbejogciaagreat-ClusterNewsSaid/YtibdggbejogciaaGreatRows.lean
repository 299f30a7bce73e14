/-
  No cell of these rows narrows 'for every input' (looked for: loops, veiled, ifaces, maps, wideKeys, modest, calm, conditions, laid).
  DERIVED. THE GIVEN ROWS OF THIS SEAT. 3 by the template 'for every input the law returns true; each argument reads behind the call as it read before'; 0 by the template 'total and deterministic' (their statements: YtibdggbejogciaaGreatTotals.lean).
  GIVEN WITH THE SEED: the statements are not yours to turn. If you find one false, say at which input.
  Laid BY PROGRAM, IN A SANDBOX (cutbox-rows.mjs): the forced cells as the released guide's own fill.sh prints them over the translation f69a644decfe651c… (all of the seat's roots in one cut). By AI agents, Wed Nov 11 2026. No macro, syntax, notation, axiom, sorry.
-/
import Derived.Test.YtibdggbejogciaaGreatChecked
import GoSem.Claim
import GoSem.ClaimJoined
import GoSem.ClaimMapViews
import Derived.JoinedTies
import Derived.KernelRfl
namespace Go.Proofs.YtibdggbejogciaaGreat
/- THE CELL 'sum', in the pinned program and in every row, IS THE sha256 OF THE DUMP (.gsa) THAT YtibdggbejogciaaGreatProg.lean LOADS. Nothing in Lean hashes anything: it is a label: what it is worth is what the hold of that sum in a sandbox is worth. -/
noncomputable def Tryz.pinned : Pinned := { name := "ytibdggbejogciaagreat", sum := "f69a644decfe651c2c75080311c0a94f8bef5a8e8cc592448c21c8f6276a400b", checked := Tryz.checked }
namespace Rows
def none {H : Type} : Left H := { results := [], args := [] }

/-- 'seepagelaw21.ClusterNews': WHATEVER THE INPUT: true; the input reads as it did. -/
def clusterNewsSpec : ChangeSpec := { name := "clusterNews", fn := fun _ => fun
  | [d1, d2] => { results := [.lit (.bool true)], args := [d1, d2] }
  | _ => none }
def clusterNewsRow : OpenClaim := { program := "ytibdggbejogciaagreat", sum := "f69a644decfe651c2c75080311c0a94f8bef5a8e8cc592448c21c8f6276a400b", func := "seepage/seepagelaw21.ClusterNews", spec := "clusterNews", unfollowed := true, recurses := true, apart := false }
def ClusterNewsSaid : Prop := clusterNewsRow.holds Tryz.pinned (OpenSpec.ofChange clusterNewsSpec)

/-- ITS FALSE NEIGHBOUR: 'it returns false'. Refute it at one input. -/
def clusterNewsWrong : ChangeSpec := { name := "clusterNews", fn := fun _ => fun
  | [d1, d2] => { results := [.lit (.bool false)], args := [d1, d2] }
  | _ => none }
def ClusterNewsWrongFalsely : Prop := clusterNewsRow.holds Tryz.pinned (OpenSpec.ofChange clusterNewsWrong)

/-- 'seepagelaw21.ClusterAsks': WHATEVER THE INPUT: true; the input reads as it did. -/
def clusterAsksSpec : ChangeSpec := { name := "clusterAsks", fn := fun _ => fun
  | [d1, d2, d3, d4] => { results := [.lit (.bool true)], args := [d1, d2, d3, d4] }
  | _ => none }
def clusterAsksRow : OpenClaim := { program := "ytibdggbejogciaagreat", sum := "f69a644decfe651c2c75080311c0a94f8bef5a8e8cc592448c21c8f6276a400b", func := "seepage/seepagelaw21.ClusterAsks", spec := "clusterAsks", unfollowed := true, recurses := true, apart := false }
def ClusterAsksSaid : Prop := clusterAsksRow.holds Tryz.pinned (OpenSpec.ofChange clusterAsksSpec)

/-- ITS FALSE NEIGHBOUR: 'it returns false'. Refute it at one input. -/
def clusterAsksWrong : ChangeSpec := { name := "clusterAsks", fn := fun _ => fun
  | [d1, d2, d3, d4] => { results := [.lit (.bool false)], args := [d1, d2, d3, d4] }
  | _ => none }
def ClusterAsksWrongFalsely : Prop := clusterAsksRow.holds Tryz.pinned (OpenSpec.ofChange clusterAsksWrong)

/-- 'seepagelaw21.ClusterLists': WHATEVER THE INPUT: true; the input reads as it did. -/
def clusterListsSpec : ChangeSpec := { name := "clusterLists", fn := fun _ => fun
  | [d1, d2, d3] => { results := [.lit (.bool true)], args := [d1, d2, d3] }
  | _ => none }
def clusterListsRow : OpenClaim := { program := "ytibdggbejogciaagreat", sum := "f69a644decfe651c2c75080311c0a94f8bef5a8e8cc592448c21c8f6276a400b", func := "seepage/seepagelaw21.ClusterLists", spec := "clusterLists", unfollowed := true, recurses := true, apart := false }
def ClusterListsSaid : Prop := clusterListsRow.holds Tryz.pinned (OpenSpec.ofChange clusterListsSpec)

/-- ITS FALSE NEIGHBOUR: 'it returns false'. Refute it at one input. -/
def clusterListsWrong : ChangeSpec := { name := "clusterLists", fn := fun _ => fun
  | [d1, d2, d3] => { results := [.lit (.bool false)], args := [d1, d2, d3] }
  | _ => none }
def ClusterListsWrongFalsely : Prop := clusterListsRow.holds Tryz.pinned (OpenSpec.ofChange clusterListsWrong)

/- THE SECOND FORM. 'bulk': how many values and letters a reading holds, each counted each time it is reached (what is shared counts as often as it is met; a slice's spare places count too). A statement '..UptoSaid' is the law's where the arguments, and the package variables that the reading takes, are together of bulk at most 1048576: NARROWER than '..Said'. Prove '..Said' where nothing that the law and all that it calls make is longer than what came in: it says more and counts as full. Else prove '..UptoSaid'. A law counts once. -/
mutual
def uptoBulk {H : Type} : DataW H → Nat
  | .lit (.string bytes) => bytes.length + 1
  | .lit _ => 1
  | .nil => 1
  | .ptr d => uptoBulk d + 1
  | .slice elems spare => uptoBulkAll elems + uptoBulkAll spare + 1
  | .agg parts => uptoBulkAll parts + 1
  | .iface _ d => uptoBulk d + 1
  | .map entries => uptoBulkEntries entries + 1
  | .held _ => 1
def uptoBulkAll {H : Type} : List (DataW H) → Nat
  | [] => 0
  | d :: r => uptoBulk d + uptoBulkAll r
def uptoBulkEntries {H : Type} : List (Lit × DataW H) → Nat
  | [] => 0
  | x :: r => uptoBulkEntry x + uptoBulkEntries r
def uptoBulkEntry {H : Type} : Lit × DataW H → Nat
  | (.string bytes, d) => bytes.length + uptoBulk d + 1
  | (_, d) => uptoBulk d + 1
 end
def uptoSmall : (H : Type) → List (DataW H) → Bool := fun _ ds => decide (uptoBulkAll ds ≤ 1048576)
def OpenSpec.upto (s : _root_.Go.ChangeSpec) : _root_.Go.OpenSpec := { _root_.Go.OpenSpec.ofChange s with cond := some uptoSmall }

/-- 'seepagelaw21.ClusterNews', WHERE WHAT IT READS IS OF BULK AT MOST 1048576: true; the input reads as it did. -/
def clusterNewsUptoRow : OpenClaim := { program := "ytibdggbejogciaagreat", sum := "f69a644decfe651c2c75080311c0a94f8bef5a8e8cc592448c21c8f6276a400b", func := "seepage/seepagelaw21.ClusterNews", spec := "clusterNews", unfollowed := true, recurses := true, apart := false, narrowed := true }
def ClusterNewsUptoSaid : Prop := clusterNewsUptoRow.holds Tryz.pinned (OpenSpec.upto clusterNewsSpec)

/-- 'seepagelaw21.ClusterAsks', WHERE WHAT IT READS IS OF BULK AT MOST 1048576: true; the input reads as it did. -/
def clusterAsksUptoRow : OpenClaim := { program := "ytibdggbejogciaagreat", sum := "f69a644decfe651c2c75080311c0a94f8bef5a8e8cc592448c21c8f6276a400b", func := "seepage/seepagelaw21.ClusterAsks", spec := "clusterAsks", unfollowed := true, recurses := true, apart := false, narrowed := true }
def ClusterAsksUptoSaid : Prop := clusterAsksUptoRow.holds Tryz.pinned (OpenSpec.upto clusterAsksSpec)

/-- 'seepagelaw21.ClusterLists', WHERE WHAT IT READS IS OF BULK AT MOST 1048576: true; the input reads as it did. -/
def clusterListsUptoRow : OpenClaim := { program := "ytibdggbejogciaagreat", sum := "f69a644decfe651c2c75080311c0a94f8bef5a8e8cc592448c21c8f6276a400b", func := "seepage/seepagelaw21.ClusterLists", spec := "clusterLists", unfollowed := true, recurses := true, apart := false, narrowed := true }
def ClusterListsUptoSaid : Prop := clusterListsUptoRow.holds Tryz.pinned (OpenSpec.upto clusterListsSpec)

end Rows
end Go.Proofs.YtibdggbejogciaaGreat
