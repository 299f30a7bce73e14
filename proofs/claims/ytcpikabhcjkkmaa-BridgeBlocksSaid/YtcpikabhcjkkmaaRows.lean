/-
  No cell of these rows narrows 'for every input' (looked for: loops, veiled, ifaces, maps, wideKeys, modest, calm, conditions, laid).
  DERIVED. THE GIVEN ROWS OF THIS SEAT. 10 by the template 'for every input the law returns true; each argument reads behind the call as it read before'; 0 by the template 'total and deterministic' (their statements: YtcpikabhcjkkmaaTotals.lean).
  GIVEN WITH THE SEED: the statements are not yours to turn. If you find one false, say at which input.
  Laid BY PROGRAM, IN A SANDBOX (cutbox-rows.mjs): the forced cells as the released guide's own fill.sh prints them over the translation 6e93ad1d30daa098… (all of the seat's roots in one cut). By AI agents, Wed Nov 11 2026. No macro, syntax, notation, axiom, sorry.
-/
import Derived.Test.YtcpikabhcjkkmaaChecked
import GoSem.Claim
import GoSem.ClaimJoined
import GoSem.ClaimMapViews
import Derived.JoinedTies
import Derived.KernelRfl
namespace Go.Proofs.Ytcpikabhcjkkmaa
/- THE CELL 'sum', in the pinned program and in every row, IS THE sha256 OF THE DUMP (.gsa) THAT YtcpikabhcjkkmaaProg.lean LOADS. Nothing in Lean hashes anything: it is a label: what it is worth is what the hold of that sum in a sandbox is worth. -/
noncomputable def Try.pinned : Pinned := { name := "ytcpikabhcjkkmaa", sum := "6e93ad1d30daa098c94db35f23e38fa4c9f9933b65bf4c8f91fbd176bd5feee1", checked := Try.checked }
namespace Rows
def none {H : Type} : Left H := { results := [], args := [] }

/-- 'seepagelaw14.BridgeFinds': WHATEVER THE INPUT: true; the input reads as it did. -/
def bridgeFindsSpec : ChangeSpec := { name := "bridgeFinds", fn := fun _ => fun
  | [d1, d2] => { results := [.lit (.bool true)], args := [d1, d2] }
  | _ => none }
def bridgeFindsRow : OpenClaim := { program := "ytcpikabhcjkkmaa", sum := "6e93ad1d30daa098c94db35f23e38fa4c9f9933b65bf4c8f91fbd176bd5feee1", func := "seepage/seepagelaw14.BridgeFinds", spec := "bridgeFinds", unfollowed := true, recurses := true, apart := false }
def BridgeFindsSaid : Prop := bridgeFindsRow.holds Try.pinned (OpenSpec.ofChange bridgeFindsSpec)

/-- ITS FALSE NEIGHBOUR: 'it returns false'. Refute it at one input. -/
def bridgeFindsWrong : ChangeSpec := { name := "bridgeFinds", fn := fun _ => fun
  | [d1, d2] => { results := [.lit (.bool false)], args := [d1, d2] }
  | _ => none }
def BridgeFindsWrongFalsely : Prop := bridgeFindsRow.holds Try.pinned (OpenSpec.ofChange bridgeFindsWrong)

/-- 'seepagelaw14.BridgeBlocks': WHATEVER THE INPUT: true; the input reads as it did. -/
def bridgeBlocksSpec : ChangeSpec := { name := "bridgeBlocks", fn := fun _ => fun
  | [d1, d2] => { results := [.lit (.bool true)], args := [d1, d2] }
  | _ => none }
def bridgeBlocksRow : OpenClaim := { program := "ytcpikabhcjkkmaa", sum := "6e93ad1d30daa098c94db35f23e38fa4c9f9933b65bf4c8f91fbd176bd5feee1", func := "seepage/seepagelaw14.BridgeBlocks", spec := "bridgeBlocks", unfollowed := true, recurses := true, apart := false }
def BridgeBlocksSaid : Prop := bridgeBlocksRow.holds Try.pinned (OpenSpec.ofChange bridgeBlocksSpec)

/-- ITS FALSE NEIGHBOUR: 'it returns false'. Refute it at one input. -/
def bridgeBlocksWrong : ChangeSpec := { name := "bridgeBlocks", fn := fun _ => fun
  | [d1, d2] => { results := [.lit (.bool false)], args := [d1, d2] }
  | _ => none }
def BridgeBlocksWrongFalsely : Prop := bridgeBlocksRow.holds Try.pinned (OpenSpec.ofChange bridgeBlocksWrong)

/-- 'seepagelaw14.BridgeCycles': WHATEVER THE INPUT: true; the input reads as it did. -/
def bridgeCyclesSpec : ChangeSpec := { name := "bridgeCycles", fn := fun _ => fun
  | [d1, d2, d3] => { results := [.lit (.bool true)], args := [d1, d2, d3] }
  | _ => none }
def bridgeCyclesRow : OpenClaim := { program := "ytcpikabhcjkkmaa", sum := "6e93ad1d30daa098c94db35f23e38fa4c9f9933b65bf4c8f91fbd176bd5feee1", func := "seepage/seepagelaw14.BridgeCycles", spec := "bridgeCycles", unfollowed := true, recurses := true, apart := false }
def BridgeCyclesSaid : Prop := bridgeCyclesRow.holds Try.pinned (OpenSpec.ofChange bridgeCyclesSpec)

/-- ITS FALSE NEIGHBOUR: 'it returns false'. Refute it at one input. -/
def bridgeCyclesWrong : ChangeSpec := { name := "bridgeCycles", fn := fun _ => fun
  | [d1, d2, d3] => { results := [.lit (.bool false)], args := [d1, d2, d3] }
  | _ => none }
def BridgeCyclesWrongFalsely : Prop := bridgeCyclesRow.holds Try.pinned (OpenSpec.ofChange bridgeCyclesWrong)

/-- 'seepagelaw14.BridgeNil': WHATEVER THE INPUT: true; the input reads as it did. -/
def bridgeNilSpec : ChangeSpec := { name := "bridgeNil", fn := fun _ => fun
  | [d] => { results := [.lit (.bool true)], args := [d] }
  | _ => none }
def bridgeNilRow : OpenClaim := { program := "ytcpikabhcjkkmaa", sum := "6e93ad1d30daa098c94db35f23e38fa4c9f9933b65bf4c8f91fbd176bd5feee1", func := "seepage/seepagelaw14.BridgeNil", spec := "bridgeNil", unfollowed := true, recurses := true, apart := false }
def BridgeNilSaid : Prop := bridgeNilRow.holds Try.pinned (OpenSpec.ofChange bridgeNilSpec)

/-- ITS FALSE NEIGHBOUR: 'it returns false'. Refute it at one input. -/
def bridgeNilWrong : ChangeSpec := { name := "bridgeNil", fn := fun _ => fun
  | [d] => { results := [.lit (.bool false)], args := [d] }
  | _ => none }
def BridgeNilWrongFalsely : Prop := bridgeNilRow.holds Try.pinned (OpenSpec.ofChange bridgeNilWrong)

/-- 'seepagelaw14.BridgeLabels': WHATEVER THE INPUT: true; the input reads as it did. -/
def bridgeLabelsSpec : ChangeSpec := { name := "bridgeLabels", fn := fun _ => fun
  | [d1, d2] => { results := [.lit (.bool true)], args := [d1, d2] }
  | _ => none }
def bridgeLabelsRow : OpenClaim := { program := "ytcpikabhcjkkmaa", sum := "6e93ad1d30daa098c94db35f23e38fa4c9f9933b65bf4c8f91fbd176bd5feee1", func := "seepage/seepagelaw14.BridgeLabels", spec := "bridgeLabels", unfollowed := true, recurses := true, apart := false }
def BridgeLabelsSaid : Prop := bridgeLabelsRow.holds Try.pinned (OpenSpec.ofChange bridgeLabelsSpec)

/-- ITS FALSE NEIGHBOUR: 'it returns false'. Refute it at one input. -/
def bridgeLabelsWrong : ChangeSpec := { name := "bridgeLabels", fn := fun _ => fun
  | [d1, d2] => { results := [.lit (.bool false)], args := [d1, d2] }
  | _ => none }
def BridgeLabelsWrongFalsely : Prop := bridgeLabelsRow.holds Try.pinned (OpenSpec.ofChange bridgeLabelsWrong)

/-- 'seepagelaw14.BridgeParts': WHATEVER THE INPUT: true; the input reads as it did. -/
def bridgePartsSpec : ChangeSpec := { name := "bridgeParts", fn := fun _ => fun
  | [d1, d2] => { results := [.lit (.bool true)], args := [d1, d2] }
  | _ => none }
def bridgePartsRow : OpenClaim := { program := "ytcpikabhcjkkmaa", sum := "6e93ad1d30daa098c94db35f23e38fa4c9f9933b65bf4c8f91fbd176bd5feee1", func := "seepage/seepagelaw14.BridgeParts", spec := "bridgeParts", unfollowed := true, recurses := true, apart := false }
def BridgePartsSaid : Prop := bridgePartsRow.holds Try.pinned (OpenSpec.ofChange bridgePartsSpec)

/-- ITS FALSE NEIGHBOUR: 'it returns false'. Refute it at one input. -/
def bridgePartsWrong : ChangeSpec := { name := "bridgeParts", fn := fun _ => fun
  | [d1, d2] => { results := [.lit (.bool false)], args := [d1, d2] }
  | _ => none }
def BridgePartsWrongFalsely : Prop := bridgePartsRow.holds Try.pinned (OpenSpec.ofChange bridgePartsWrong)

/-- 'seepagelaw14.BridgeCycle': WHATEVER THE INPUT: true; the input reads as it did. -/
def bridgeCycleSpec : ChangeSpec := { name := "bridgeCycle", fn := fun _ => fun
  | [d1, d2, d3] => { results := [.lit (.bool true)], args := [d1, d2, d3] }
  | _ => none }
def bridgeCycleRow : OpenClaim := { program := "ytcpikabhcjkkmaa", sum := "6e93ad1d30daa098c94db35f23e38fa4c9f9933b65bf4c8f91fbd176bd5feee1", func := "seepage/seepagelaw14.BridgeCycle", spec := "bridgeCycle", unfollowed := true, recurses := true, apart := false }
def BridgeCycleSaid : Prop := bridgeCycleRow.holds Try.pinned (OpenSpec.ofChange bridgeCycleSpec)

/-- ITS FALSE NEIGHBOUR: 'it returns false'. Refute it at one input. -/
def bridgeCycleWrong : ChangeSpec := { name := "bridgeCycle", fn := fun _ => fun
  | [d1, d2, d3] => { results := [.lit (.bool false)], args := [d1, d2, d3] }
  | _ => none }
def BridgeCycleWrongFalsely : Prop := bridgeCycleRow.holds Try.pinned (OpenSpec.ofChange bridgeCycleWrong)

/-- 'seepagelaw14.BridgeDoubles': WHATEVER THE INPUT: true; the input reads as it did. -/
def bridgeDoublesSpec : ChangeSpec := { name := "bridgeDoubles", fn := fun _ => fun
  | [d1, d2] => { results := [.lit (.bool true)], args := [d1, d2] }
  | _ => none }
def bridgeDoublesRow : OpenClaim := { program := "ytcpikabhcjkkmaa", sum := "6e93ad1d30daa098c94db35f23e38fa4c9f9933b65bf4c8f91fbd176bd5feee1", func := "seepage/seepagelaw14.BridgeDoubles", spec := "bridgeDoubles", unfollowed := true, recurses := true, apart := false }
def BridgeDoublesSaid : Prop := bridgeDoublesRow.holds Try.pinned (OpenSpec.ofChange bridgeDoublesSpec)

/-- ITS FALSE NEIGHBOUR: 'it returns false'. Refute it at one input. -/
def bridgeDoublesWrong : ChangeSpec := { name := "bridgeDoubles", fn := fun _ => fun
  | [d1, d2] => { results := [.lit (.bool false)], args := [d1, d2] }
  | _ => none }
def BridgeDoublesWrongFalsely : Prop := bridgeDoublesRow.holds Try.pinned (OpenSpec.ofChange bridgeDoublesWrong)

/-- 'seepagelaw14.BridgeRemoves': WHATEVER THE INPUT: true; the input reads as it did. -/
def bridgeRemovesSpec : ChangeSpec := { name := "bridgeRemoves", fn := fun _ => fun
  | [d1, d2] => { results := [.lit (.bool true)], args := [d1, d2] }
  | _ => none }
def bridgeRemovesRow : OpenClaim := { program := "ytcpikabhcjkkmaa", sum := "6e93ad1d30daa098c94db35f23e38fa4c9f9933b65bf4c8f91fbd176bd5feee1", func := "seepage/seepagelaw14.BridgeRemoves", spec := "bridgeRemoves", unfollowed := true, recurses := true, apart := false }
def BridgeRemovesSaid : Prop := bridgeRemovesRow.holds Try.pinned (OpenSpec.ofChange bridgeRemovesSpec)

/-- ITS FALSE NEIGHBOUR: 'it returns false'. Refute it at one input. -/
def bridgeRemovesWrong : ChangeSpec := { name := "bridgeRemoves", fn := fun _ => fun
  | [d1, d2] => { results := [.lit (.bool false)], args := [d1, d2] }
  | _ => none }
def BridgeRemovesWrongFalsely : Prop := bridgeRemovesRow.holds Try.pinned (OpenSpec.ofChange bridgeRemovesWrong)

/-- 'seepagelaw14.BridgeCuts': WHATEVER THE INPUT: true; the input reads as it did. -/
def bridgeCutsSpec : ChangeSpec := { name := "bridgeCuts", fn := fun _ => fun
  | [d1, d2] => { results := [.lit (.bool true)], args := [d1, d2] }
  | _ => none }
def bridgeCutsRow : OpenClaim := { program := "ytcpikabhcjkkmaa", sum := "6e93ad1d30daa098c94db35f23e38fa4c9f9933b65bf4c8f91fbd176bd5feee1", func := "seepage/seepagelaw14.BridgeCuts", spec := "bridgeCuts", unfollowed := true, recurses := true, apart := false }
def BridgeCutsSaid : Prop := bridgeCutsRow.holds Try.pinned (OpenSpec.ofChange bridgeCutsSpec)

/-- ITS FALSE NEIGHBOUR: 'it returns false'. Refute it at one input. -/
def bridgeCutsWrong : ChangeSpec := { name := "bridgeCuts", fn := fun _ => fun
  | [d1, d2] => { results := [.lit (.bool false)], args := [d1, d2] }
  | _ => none }
def BridgeCutsWrongFalsely : Prop := bridgeCutsRow.holds Try.pinned (OpenSpec.ofChange bridgeCutsWrong)

/- THE SECOND FORM. 'bulk': how many values and letters a reading holds, each counted each time it is reached (what is shared counts as often as it is met; a slice's spare places count too). A statement '..UptoSaid' is the law's where the arguments, and the package variables that the reading takes, are together of bulk at most 1048576: NARROWER than '..Said'. Prove '..Said' where nothing that the law and all that it calls make is longer than what came in: it says more and counts as full. Else prove '..UptoSaid'. A law counts once. -/
mutual
def uptoBulk {H : Type} : DataW H → Nat
  | .lit (.string bytes) => bytes.length + 1
  | .lit _ => 1
  | .nil => 1
  | .ptr d => uptoBulk d + 1
  | .slice elems spare => uptoBulkAll elems + uptoBulkAll spare + 1
  | .agg parts => uptoBulkAll parts + 1
  | .iface _ d => uptoBulk d + 1
  | .map entries => uptoBulkEntries entries + 1
  | .held _ => 1
def uptoBulkAll {H : Type} : List (DataW H) → Nat
  | [] => 0
  | d :: r => uptoBulk d + uptoBulkAll r
def uptoBulkEntries {H : Type} : List (Lit × DataW H) → Nat
  | [] => 0
  | x :: r => uptoBulkEntry x + uptoBulkEntries r
def uptoBulkEntry {H : Type} : Lit × DataW H → Nat
  | (.string bytes, d) => bytes.length + uptoBulk d + 1
  | (_, d) => uptoBulk d + 1
 end
def uptoSmall : (H : Type) → List (DataW H) → Bool := fun _ ds => decide (uptoBulkAll ds ≤ 1048576)
def OpenSpec.upto (s : _root_.Go.ChangeSpec) : _root_.Go.OpenSpec := { _root_.Go.OpenSpec.ofChange s with cond := some uptoSmall }

/-- 'seepagelaw14.BridgeFinds', WHERE WHAT IT READS IS OF BULK AT MOST 1048576: true; the input reads as it did. -/
def bridgeFindsUptoRow : OpenClaim := { program := "ytcpikabhcjkkmaa", sum := "6e93ad1d30daa098c94db35f23e38fa4c9f9933b65bf4c8f91fbd176bd5feee1", func := "seepage/seepagelaw14.BridgeFinds", spec := "bridgeFinds", unfollowed := true, recurses := true, apart := false, narrowed := true }
def BridgeFindsUptoSaid : Prop := bridgeFindsUptoRow.holds Try.pinned (OpenSpec.upto bridgeFindsSpec)

/-- 'seepagelaw14.BridgeBlocks', WHERE WHAT IT READS IS OF BULK AT MOST 1048576: true; the input reads as it did. -/
def bridgeBlocksUptoRow : OpenClaim := { program := "ytcpikabhcjkkmaa", sum := "6e93ad1d30daa098c94db35f23e38fa4c9f9933b65bf4c8f91fbd176bd5feee1", func := "seepage/seepagelaw14.BridgeBlocks", spec := "bridgeBlocks", unfollowed := true, recurses := true, apart := false, narrowed := true }
def BridgeBlocksUptoSaid : Prop := bridgeBlocksUptoRow.holds Try.pinned (OpenSpec.upto bridgeBlocksSpec)

/-- 'seepagelaw14.BridgeCycles', WHERE WHAT IT READS IS OF BULK AT MOST 1048576: true; the input reads as it did. -/
def bridgeCyclesUptoRow : OpenClaim := { program := "ytcpikabhcjkkmaa", sum := "6e93ad1d30daa098c94db35f23e38fa4c9f9933b65bf4c8f91fbd176bd5feee1", func := "seepage/seepagelaw14.BridgeCycles", spec := "bridgeCycles", unfollowed := true, recurses := true, apart := false, narrowed := true }
def BridgeCyclesUptoSaid : Prop := bridgeCyclesUptoRow.holds Try.pinned (OpenSpec.upto bridgeCyclesSpec)

/-- 'seepagelaw14.BridgeNil', WHERE WHAT IT READS IS OF BULK AT MOST 1048576: true; the input reads as it did. -/
def bridgeNilUptoRow : OpenClaim := { program := "ytcpikabhcjkkmaa", sum := "6e93ad1d30daa098c94db35f23e38fa4c9f9933b65bf4c8f91fbd176bd5feee1", func := "seepage/seepagelaw14.BridgeNil", spec := "bridgeNil", unfollowed := true, recurses := true, apart := false, narrowed := true }
def BridgeNilUptoSaid : Prop := bridgeNilUptoRow.holds Try.pinned (OpenSpec.upto bridgeNilSpec)

/-- 'seepagelaw14.BridgeLabels', WHERE WHAT IT READS IS OF BULK AT MOST 1048576: true; the input reads as it did. -/
def bridgeLabelsUptoRow : OpenClaim := { program := "ytcpikabhcjkkmaa", sum := "6e93ad1d30daa098c94db35f23e38fa4c9f9933b65bf4c8f91fbd176bd5feee1", func := "seepage/seepagelaw14.BridgeLabels", spec := "bridgeLabels", unfollowed := true, recurses := true, apart := false, narrowed := true }
def BridgeLabelsUptoSaid : Prop := bridgeLabelsUptoRow.holds Try.pinned (OpenSpec.upto bridgeLabelsSpec)

/-- 'seepagelaw14.BridgeParts', WHERE WHAT IT READS IS OF BULK AT MOST 1048576: true; the input reads as it did. -/
def bridgePartsUptoRow : OpenClaim := { program := "ytcpikabhcjkkmaa", sum := "6e93ad1d30daa098c94db35f23e38fa4c9f9933b65bf4c8f91fbd176bd5feee1", func := "seepage/seepagelaw14.BridgeParts", spec := "bridgeParts", unfollowed := true, recurses := true, apart := false, narrowed := true }
def BridgePartsUptoSaid : Prop := bridgePartsUptoRow.holds Try.pinned (OpenSpec.upto bridgePartsSpec)

/-- 'seepagelaw14.BridgeCycle', WHERE WHAT IT READS IS OF BULK AT MOST 1048576: true; the input reads as it did. -/
def bridgeCycleUptoRow : OpenClaim := { program := "ytcpikabhcjkkmaa", sum := "6e93ad1d30daa098c94db35f23e38fa4c9f9933b65bf4c8f91fbd176bd5feee1", func := "seepage/seepagelaw14.BridgeCycle", spec := "bridgeCycle", unfollowed := true, recurses := true, apart := false, narrowed := true }
def BridgeCycleUptoSaid : Prop := bridgeCycleUptoRow.holds Try.pinned (OpenSpec.upto bridgeCycleSpec)

/-- 'seepagelaw14.BridgeDoubles', WHERE WHAT IT READS IS OF BULK AT MOST 1048576: true; the input reads as it did. -/
def bridgeDoublesUptoRow : OpenClaim := { program := "ytcpikabhcjkkmaa", sum := "6e93ad1d30daa098c94db35f23e38fa4c9f9933b65bf4c8f91fbd176bd5feee1", func := "seepage/seepagelaw14.BridgeDoubles", spec := "bridgeDoubles", unfollowed := true, recurses := true, apart := false, narrowed := true }
def BridgeDoublesUptoSaid : Prop := bridgeDoublesUptoRow.holds Try.pinned (OpenSpec.upto bridgeDoublesSpec)

/-- 'seepagelaw14.BridgeRemoves', WHERE WHAT IT READS IS OF BULK AT MOST 1048576: true; the input reads as it did. -/
def bridgeRemovesUptoRow : OpenClaim := { program := "ytcpikabhcjkkmaa", sum := "6e93ad1d30daa098c94db35f23e38fa4c9f9933b65bf4c8f91fbd176bd5feee1", func := "seepage/seepagelaw14.BridgeRemoves", spec := "bridgeRemoves", unfollowed := true, recurses := true, apart := false, narrowed := true }
def BridgeRemovesUptoSaid : Prop := bridgeRemovesUptoRow.holds Try.pinned (OpenSpec.upto bridgeRemovesSpec)

/-- 'seepagelaw14.BridgeCuts', WHERE WHAT IT READS IS OF BULK AT MOST 1048576: true; the input reads as it did. -/
def bridgeCutsUptoRow : OpenClaim := { program := "ytcpikabhcjkkmaa", sum := "6e93ad1d30daa098c94db35f23e38fa4c9f9933b65bf4c8f91fbd176bd5feee1", func := "seepage/seepagelaw14.BridgeCuts", spec := "bridgeCuts", unfollowed := true, recurses := true, apart := false, narrowed := true }
def BridgeCutsUptoSaid : Prop := bridgeCutsUptoRow.holds Try.pinned (OpenSpec.upto bridgeCutsSpec)

end Rows
end Go.Proofs.Ytcpikabhcjkkmaa
