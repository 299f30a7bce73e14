/-
  No cell of these rows narrows 'for every input' (looked for: loops, veiled, ifaces, maps, wideKeys, modest, calm, conditions, laid).
  DERIVED. THE GIVEN ROWS OF THIS SEAT. 9 by the template 'for every input the law returns true; each argument reads behind the call as it read before'; 0 by the template 'total and deterministic' (their statements: YtbmcflmflmlmaaaTotals.lean).
  GIVEN WITH THE SEED: the statements are not yours to turn. If you find one false, say at which input.
  Laid BY PROGRAM, IN A SANDBOX (cutbox-rows.mjs): the forced cells as the released guide's own fill.sh prints them over the translation fb9f31bd341eaa1a… (all of the seat's roots in one cut). By AI agents, Wed Nov 11 2026. No macro, syntax, notation, axiom, sorry.
-/
import Derived.Test.YtbmcflmflmlmaaaChecked
import GoSem.Claim
import GoSem.ClaimJoined
import GoSem.ClaimMapViews
import Derived.JoinedTies
import Derived.KernelRfl
namespace Go.Proofs.Ytbmcflmflmlmaaa
/- THE CELL 'sum', in the pinned program and in every row, IS THE sha256 OF THE DUMP (.gsa) THAT YtbmcflmflmlmaaaProg.lean LOADS. Nothing in Lean hashes anything: it is a label: what it is worth is what the hold of that sum in a sandbox is worth. -/
noncomputable def Try.pinned : Pinned := { name := "ytbmcflmflmlmaaa", sum := "fb9f31bd341eaa1acf61ea0fea87ccfa2afce631c9b77c8b0b5538a13f20f75b", checked := Try.checked }
namespace Rows
def none {H : Type} : Left H := { results := [], args := [] }

/-- 'seepagelaw17.KruskalOrders': WHATEVER THE INPUT: true; the input reads as it did. -/
def kruskalOrdersSpec : ChangeSpec := { name := "kruskalOrders", fn := fun _ => fun
  | [d] => { results := [.lit (.bool true)], args := [d] }
  | _ => none }
def kruskalOrdersRow : OpenClaim := { program := "ytbmcflmflmlmaaa", sum := "fb9f31bd341eaa1acf61ea0fea87ccfa2afce631c9b77c8b0b5538a13f20f75b", func := "seepage/seepagelaw17.KruskalOrders", spec := "kruskalOrders", inPlace := ["math/bits.Add64"], unfollowed := true, recurses := true, apart := false }
def KruskalOrdersSaid : Prop := kruskalOrdersRow.holds Try.pinned (OpenSpec.ofChange kruskalOrdersSpec)

/-- ITS FALSE NEIGHBOUR: 'it returns false'. Refute it at one input. -/
def kruskalOrdersWrong : ChangeSpec := { name := "kruskalOrders", fn := fun _ => fun
  | [d] => { results := [.lit (.bool false)], args := [d] }
  | _ => none }
def KruskalOrdersWrongFalsely : Prop := kruskalOrdersRow.holds Try.pinned (OpenSpec.ofChange kruskalOrdersWrong)

/-- 'seepagelaw17.KruskalGrows': WHATEVER THE INPUT: true; the input reads as it did. -/
def kruskalGrowsSpec : ChangeSpec := { name := "kruskalGrows", fn := fun _ => fun
  | [d1, d2] => { results := [.lit (.bool true)], args := [d1, d2] }
  | _ => none }
def kruskalGrowsRow : OpenClaim := { program := "ytbmcflmflmlmaaa", sum := "fb9f31bd341eaa1acf61ea0fea87ccfa2afce631c9b77c8b0b5538a13f20f75b", func := "seepage/seepagelaw17.KruskalGrows", spec := "kruskalGrows", inPlace := ["math/bits.Add64"], unfollowed := true, recurses := true, apart := false }
def KruskalGrowsSaid : Prop := kruskalGrowsRow.holds Try.pinned (OpenSpec.ofChange kruskalGrowsSpec)

/-- ITS FALSE NEIGHBOUR: 'it returns false'. Refute it at one input. -/
def kruskalGrowsWrong : ChangeSpec := { name := "kruskalGrows", fn := fun _ => fun
  | [d1, d2] => { results := [.lit (.bool false)], args := [d1, d2] }
  | _ => none }
def KruskalGrowsWrongFalsely : Prop := kruskalGrowsRow.holds Try.pinned (OpenSpec.ofChange kruskalGrowsWrong)

/-- 'seepagelaw17.KruskalSwaps': WHATEVER THE INPUT: true; the input reads as it did. -/
def kruskalSwapsSpec : ChangeSpec := { name := "kruskalSwaps", fn := fun _ => fun
  | [d1, d2, d3] => { results := [.lit (.bool true)], args := [d1, d2, d3] }
  | _ => none }
def kruskalSwapsRow : OpenClaim := { program := "ytbmcflmflmlmaaa", sum := "fb9f31bd341eaa1acf61ea0fea87ccfa2afce631c9b77c8b0b5538a13f20f75b", func := "seepage/seepagelaw17.KruskalSwaps", spec := "kruskalSwaps", inPlace := ["math/bits.Add64"], unfollowed := true, recurses := true, apart := false }
def KruskalSwapsSaid : Prop := kruskalSwapsRow.holds Try.pinned (OpenSpec.ofChange kruskalSwapsSpec)

/-- ITS FALSE NEIGHBOUR: 'it returns false'. Refute it at one input. -/
def kruskalSwapsWrong : ChangeSpec := { name := "kruskalSwaps", fn := fun _ => fun
  | [d1, d2, d3] => { results := [.lit (.bool false)], args := [d1, d2, d3] }
  | _ => none }
def KruskalSwapsWrongFalsely : Prop := kruskalSwapsRow.holds Try.pinned (OpenSpec.ofChange kruskalSwapsWrong)

/-- 'seepagelaw17.KruskalCycles': WHATEVER THE INPUT: true; the input reads as it did. -/
def kruskalCyclesSpec : ChangeSpec := { name := "kruskalCycles", fn := fun _ => fun
  | [d] => { results := [.lit (.bool true)], args := [d] }
  | _ => none }
def kruskalCyclesRow : OpenClaim := { program := "ytbmcflmflmlmaaa", sum := "fb9f31bd341eaa1acf61ea0fea87ccfa2afce631c9b77c8b0b5538a13f20f75b", func := "seepage/seepagelaw17.KruskalCycles", spec := "kruskalCycles", inPlace := ["math/bits.Add64"], unfollowed := true, recurses := true, apart := false }
def KruskalCyclesSaid : Prop := kruskalCyclesRow.holds Try.pinned (OpenSpec.ofChange kruskalCyclesSpec)

/-- ITS FALSE NEIGHBOUR: 'it returns false'. Refute it at one input. -/
def kruskalCyclesWrong : ChangeSpec := { name := "kruskalCycles", fn := fun _ => fun
  | [d] => { results := [.lit (.bool false)], args := [d] }
  | _ => none }
def KruskalCyclesWrongFalsely : Prop := kruskalCyclesRow.holds Try.pinned (OpenSpec.ofChange kruskalCyclesWrong)

/-- 'seepagelaw17.KruskalThresholds': WHATEVER THE INPUT: true; the input reads as it did. -/
def kruskalThresholdsSpec : ChangeSpec := { name := "kruskalThresholds", fn := fun _ => fun
  | [d1, d2] => { results := [.lit (.bool true)], args := [d1, d2] }
  | _ => none }
def kruskalThresholdsRow : OpenClaim := { program := "ytbmcflmflmlmaaa", sum := "fb9f31bd341eaa1acf61ea0fea87ccfa2afce631c9b77c8b0b5538a13f20f75b", func := "seepage/seepagelaw17.KruskalThresholds", spec := "kruskalThresholds", inPlace := ["math/bits.Add64"], unfollowed := true, recurses := true, apart := false }
def KruskalThresholdsSaid : Prop := kruskalThresholdsRow.holds Try.pinned (OpenSpec.ofChange kruskalThresholdsSpec)

/-- ITS FALSE NEIGHBOUR: 'it returns false'. Refute it at one input. -/
def kruskalThresholdsWrong : ChangeSpec := { name := "kruskalThresholds", fn := fun _ => fun
  | [d1, d2] => { results := [.lit (.bool false)], args := [d1, d2] }
  | _ => none }
def KruskalThresholdsWrongFalsely : Prop := kruskalThresholdsRow.holds Try.pinned (OpenSpec.ofChange kruskalThresholdsWrong)

/-- 'seepagelaw17.KruskalPicks': WHATEVER THE INPUT: true; the input reads as it did. -/
def kruskalPicksSpec : ChangeSpec := { name := "kruskalPicks", fn := fun _ => fun
  | [d1, d2, d3] => { results := [.lit (.bool true)], args := [d1, d2, d3] }
  | _ => none }
def kruskalPicksRow : OpenClaim := { program := "ytbmcflmflmlmaaa", sum := "fb9f31bd341eaa1acf61ea0fea87ccfa2afce631c9b77c8b0b5538a13f20f75b", func := "seepage/seepagelaw17.KruskalPicks", spec := "kruskalPicks", inPlace := ["math/bits.Add64"], unfollowed := true, recurses := true, apart := false }
def KruskalPicksSaid : Prop := kruskalPicksRow.holds Try.pinned (OpenSpec.ofChange kruskalPicksSpec)

/-- ITS FALSE NEIGHBOUR: 'it returns false'. Refute it at one input. -/
def kruskalPicksWrong : ChangeSpec := { name := "kruskalPicks", fn := fun _ => fun
  | [d1, d2, d3] => { results := [.lit (.bool false)], args := [d1, d2, d3] }
  | _ => none }
def KruskalPicksWrongFalsely : Prop := kruskalPicksRow.holds Try.pinned (OpenSpec.ofChange kruskalPicksWrong)

/-- 'seepagelaw17.KruskalLeast': WHATEVER THE INPUT: true; the input reads as it did. -/
def kruskalLeastSpec : ChangeSpec := { name := "kruskalLeast", fn := fun _ => fun
  | [d1, d2] => { results := [.lit (.bool true)], args := [d1, d2] }
  | _ => none }
def kruskalLeastRow : OpenClaim := { program := "ytbmcflmflmlmaaa", sum := "fb9f31bd341eaa1acf61ea0fea87ccfa2afce631c9b77c8b0b5538a13f20f75b", func := "seepage/seepagelaw17.KruskalLeast", spec := "kruskalLeast", inPlace := ["math/bits.Add64"], unfollowed := true, recurses := true, apart := false }
def KruskalLeastSaid : Prop := kruskalLeastRow.holds Try.pinned (OpenSpec.ofChange kruskalLeastSpec)

/-- ITS FALSE NEIGHBOUR: 'it returns false'. Refute it at one input. -/
def kruskalLeastWrong : ChangeSpec := { name := "kruskalLeast", fn := fun _ => fun
  | [d1, d2] => { results := [.lit (.bool false)], args := [d1, d2] }
  | _ => none }
def KruskalLeastWrongFalsely : Prop := kruskalLeastRow.holds Try.pinned (OpenSpec.ofChange kruskalLeastWrong)

/-- 'seepagelaw17.KruskalKnown': WHATEVER THE INPUT: true; the input reads as it did. -/
def kruskalKnownSpec : ChangeSpec := { name := "kruskalKnown", fn := fun _ => fun
  | [] => { results := [.lit (.bool true)], args := [] }
  | _ => none }
def kruskalKnownRow : OpenClaim := { program := "ytbmcflmflmlmaaa", sum := "fb9f31bd341eaa1acf61ea0fea87ccfa2afce631c9b77c8b0b5538a13f20f75b", func := "seepage/seepagelaw17.KruskalKnown", spec := "kruskalKnown", inPlace := ["math/bits.Add64"], unfollowed := true, recurses := true, apart := false }
def KruskalKnownSaid : Prop := kruskalKnownRow.holds Try.pinned (OpenSpec.ofChange kruskalKnownSpec)

/-- ITS FALSE NEIGHBOUR: 'it returns false'. Refute it at one input. -/
def kruskalKnownWrong : ChangeSpec := { name := "kruskalKnown", fn := fun _ => fun
  | [] => { results := [.lit (.bool false)], args := [] }
  | _ => none }
def KruskalKnownWrongFalsely : Prop := kruskalKnownRow.holds Try.pinned (OpenSpec.ofChange kruskalKnownWrong)

/-- 'seepagelaw17.KruskalForests': WHATEVER THE INPUT: true; the input reads as it did. -/
def kruskalForestsSpec : ChangeSpec := { name := "kruskalForests", fn := fun _ => fun
  | [d] => { results := [.lit (.bool true)], args := [d] }
  | _ => none }
def kruskalForestsRow : OpenClaim := { program := "ytbmcflmflmlmaaa", sum := "fb9f31bd341eaa1acf61ea0fea87ccfa2afce631c9b77c8b0b5538a13f20f75b", func := "seepage/seepagelaw17.KruskalForests", spec := "kruskalForests", inPlace := ["math/bits.Add64"], unfollowed := true, recurses := true, apart := false }
def KruskalForestsSaid : Prop := kruskalForestsRow.holds Try.pinned (OpenSpec.ofChange kruskalForestsSpec)

/-- ITS FALSE NEIGHBOUR: 'it returns false'. Refute it at one input. -/
def kruskalForestsWrong : ChangeSpec := { name := "kruskalForests", fn := fun _ => fun
  | [d] => { results := [.lit (.bool false)], args := [d] }
  | _ => none }
def KruskalForestsWrongFalsely : Prop := kruskalForestsRow.holds Try.pinned (OpenSpec.ofChange kruskalForestsWrong)

/- THE SECOND FORM. 'bulk': how many values and letters a reading holds, each counted each time it is reached (what is shared counts as often as it is met; a slice's spare places count too). A statement '..UptoSaid' is the law's where the arguments, and the package variables that the reading takes, are together of bulk at most 1048576: NARROWER than '..Said'. Prove '..Said' where nothing that the law and all that it calls make is longer than what came in: it says more and counts as full. Else prove '..UptoSaid'. A law counts once. -/
mutual
def uptoBulk {H : Type} : DataW H → Nat
  | .lit (.string bytes) => bytes.length + 1
  | .lit _ => 1
  | .nil => 1
  | .ptr d => uptoBulk d + 1
  | .slice elems spare => uptoBulkAll elems + uptoBulkAll spare + 1
  | .agg parts => uptoBulkAll parts + 1
  | .iface _ d => uptoBulk d + 1
  | .map entries => uptoBulkEntries entries + 1
  | .held _ => 1
def uptoBulkAll {H : Type} : List (DataW H) → Nat
  | [] => 0
  | d :: r => uptoBulk d + uptoBulkAll r
def uptoBulkEntries {H : Type} : List (Lit × DataW H) → Nat
  | [] => 0
  | x :: r => uptoBulkEntry x + uptoBulkEntries r
def uptoBulkEntry {H : Type} : Lit × DataW H → Nat
  | (.string bytes, d) => bytes.length + uptoBulk d + 1
  | (_, d) => uptoBulk d + 1
 end
def uptoSmall : (H : Type) → List (DataW H) → Bool := fun _ ds => decide (uptoBulkAll ds ≤ 1048576)
def OpenSpec.upto (s : _root_.Go.ChangeSpec) : _root_.Go.OpenSpec := { _root_.Go.OpenSpec.ofChange s with cond := some uptoSmall }

/-- 'seepagelaw17.KruskalOrders', WHERE WHAT IT READS IS OF BULK AT MOST 1048576: true; the input reads as it did. -/
def kruskalOrdersUptoRow : OpenClaim := { program := "ytbmcflmflmlmaaa", sum := "fb9f31bd341eaa1acf61ea0fea87ccfa2afce631c9b77c8b0b5538a13f20f75b", func := "seepage/seepagelaw17.KruskalOrders", spec := "kruskalOrders", inPlace := ["math/bits.Add64"], unfollowed := true, recurses := true, apart := false, narrowed := true }
def KruskalOrdersUptoSaid : Prop := kruskalOrdersUptoRow.holds Try.pinned (OpenSpec.upto kruskalOrdersSpec)

/-- 'seepagelaw17.KruskalGrows', WHERE WHAT IT READS IS OF BULK AT MOST 1048576: true; the input reads as it did. -/
def kruskalGrowsUptoRow : OpenClaim := { program := "ytbmcflmflmlmaaa", sum := "fb9f31bd341eaa1acf61ea0fea87ccfa2afce631c9b77c8b0b5538a13f20f75b", func := "seepage/seepagelaw17.KruskalGrows", spec := "kruskalGrows", inPlace := ["math/bits.Add64"], unfollowed := true, recurses := true, apart := false, narrowed := true }
def KruskalGrowsUptoSaid : Prop := kruskalGrowsUptoRow.holds Try.pinned (OpenSpec.upto kruskalGrowsSpec)

/-- 'seepagelaw17.KruskalSwaps', WHERE WHAT IT READS IS OF BULK AT MOST 1048576: true; the input reads as it did. -/
def kruskalSwapsUptoRow : OpenClaim := { program := "ytbmcflmflmlmaaa", sum := "fb9f31bd341eaa1acf61ea0fea87ccfa2afce631c9b77c8b0b5538a13f20f75b", func := "seepage/seepagelaw17.KruskalSwaps", spec := "kruskalSwaps", inPlace := ["math/bits.Add64"], unfollowed := true, recurses := true, apart := false, narrowed := true }
def KruskalSwapsUptoSaid : Prop := kruskalSwapsUptoRow.holds Try.pinned (OpenSpec.upto kruskalSwapsSpec)

/-- 'seepagelaw17.KruskalCycles', WHERE WHAT IT READS IS OF BULK AT MOST 1048576: true; the input reads as it did. -/
def kruskalCyclesUptoRow : OpenClaim := { program := "ytbmcflmflmlmaaa", sum := "fb9f31bd341eaa1acf61ea0fea87ccfa2afce631c9b77c8b0b5538a13f20f75b", func := "seepage/seepagelaw17.KruskalCycles", spec := "kruskalCycles", inPlace := ["math/bits.Add64"], unfollowed := true, recurses := true, apart := false, narrowed := true }
def KruskalCyclesUptoSaid : Prop := kruskalCyclesUptoRow.holds Try.pinned (OpenSpec.upto kruskalCyclesSpec)

/-- 'seepagelaw17.KruskalThresholds', WHERE WHAT IT READS IS OF BULK AT MOST 1048576: true; the input reads as it did. -/
def kruskalThresholdsUptoRow : OpenClaim := { program := "ytbmcflmflmlmaaa", sum := "fb9f31bd341eaa1acf61ea0fea87ccfa2afce631c9b77c8b0b5538a13f20f75b", func := "seepage/seepagelaw17.KruskalThresholds", spec := "kruskalThresholds", inPlace := ["math/bits.Add64"], unfollowed := true, recurses := true, apart := false, narrowed := true }
def KruskalThresholdsUptoSaid : Prop := kruskalThresholdsUptoRow.holds Try.pinned (OpenSpec.upto kruskalThresholdsSpec)

/-- 'seepagelaw17.KruskalPicks', WHERE WHAT IT READS IS OF BULK AT MOST 1048576: true; the input reads as it did. -/
def kruskalPicksUptoRow : OpenClaim := { program := "ytbmcflmflmlmaaa", sum := "fb9f31bd341eaa1acf61ea0fea87ccfa2afce631c9b77c8b0b5538a13f20f75b", func := "seepage/seepagelaw17.KruskalPicks", spec := "kruskalPicks", inPlace := ["math/bits.Add64"], unfollowed := true, recurses := true, apart := false, narrowed := true }
def KruskalPicksUptoSaid : Prop := kruskalPicksUptoRow.holds Try.pinned (OpenSpec.upto kruskalPicksSpec)

/-- 'seepagelaw17.KruskalLeast', WHERE WHAT IT READS IS OF BULK AT MOST 1048576: true; the input reads as it did. -/
def kruskalLeastUptoRow : OpenClaim := { program := "ytbmcflmflmlmaaa", sum := "fb9f31bd341eaa1acf61ea0fea87ccfa2afce631c9b77c8b0b5538a13f20f75b", func := "seepage/seepagelaw17.KruskalLeast", spec := "kruskalLeast", inPlace := ["math/bits.Add64"], unfollowed := true, recurses := true, apart := false, narrowed := true }
def KruskalLeastUptoSaid : Prop := kruskalLeastUptoRow.holds Try.pinned (OpenSpec.upto kruskalLeastSpec)

/-- 'seepagelaw17.KruskalKnown', WHERE WHAT IT READS IS OF BULK AT MOST 1048576: true; the input reads as it did. -/
def kruskalKnownUptoRow : OpenClaim := { program := "ytbmcflmflmlmaaa", sum := "fb9f31bd341eaa1acf61ea0fea87ccfa2afce631c9b77c8b0b5538a13f20f75b", func := "seepage/seepagelaw17.KruskalKnown", spec := "kruskalKnown", inPlace := ["math/bits.Add64"], unfollowed := true, recurses := true, apart := false, narrowed := true }
def KruskalKnownUptoSaid : Prop := kruskalKnownUptoRow.holds Try.pinned (OpenSpec.upto kruskalKnownSpec)

/-- 'seepagelaw17.KruskalForests', WHERE WHAT IT READS IS OF BULK AT MOST 1048576: true; the input reads as it did. -/
def kruskalForestsUptoRow : OpenClaim := { program := "ytbmcflmflmlmaaa", sum := "fb9f31bd341eaa1acf61ea0fea87ccfa2afce631c9b77c8b0b5538a13f20f75b", func := "seepage/seepagelaw17.KruskalForests", spec := "kruskalForests", inPlace := ["math/bits.Add64"], unfollowed := true, recurses := true, apart := false, narrowed := true }
def KruskalForestsUptoSaid : Prop := kruskalForestsUptoRow.holds Try.pinned (OpenSpec.upto kruskalForestsSpec)

end Rows
end Go.Proofs.Ytbmcflmflmlmaaa
