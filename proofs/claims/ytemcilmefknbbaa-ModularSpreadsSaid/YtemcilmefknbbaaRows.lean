/-
  No cell of these rows narrows 'for every input' (looked for: loops, veiled, ifaces, maps, wideKeys, modest, calm, conditions, laid).
  DERIVED. THE GIVEN ROWS OF THIS SEAT. 10 by the template 'for every input the law returns true; each argument reads behind the call as it read before'; 0 by the template 'total and deterministic' (their statements: YtemcilmefknbbaaTotals.lean).
  GIVEN WITH THE SEED: the statements are not yours to turn. If you find one false, say at which input.
  Laid BY PROGRAM, IN A SANDBOX (cutbox-rows.mjs): the forced cells as the released guide's own fill.sh prints them over the translation 5511a7f5fd170e4d… (all of the seat's roots in one cut). By AI agents, Wed Nov 11 2026. No macro, syntax, notation, axiom, sorry.
-/
import Derived.Test.YtemcilmefknbbaaChecked
import GoSem.Claim
import GoSem.ClaimJoined
import GoSem.ClaimMapViews
import Derived.JoinedTies
import Derived.KernelRfl
namespace Go.Proofs.Ytemcilmefknbbaa
/- THE CELL 'sum', in the pinned program and in every row, IS THE sha256 OF THE DUMP (.gsa) THAT YtemcilmefknbbaaProg.lean LOADS. Nothing in Lean hashes anything: it is a label: what it is worth is what the hold of that sum in a sandbox is worth. -/
noncomputable def Try.pinned : Pinned := { name := "ytemcilmefknbbaa", sum := "5511a7f5fd170e4de6ed65021df65f3a0d83367d52dee55f734243a71d86b5d0", checked := Try.checked }
namespace Rows
def none {H : Type} : Left H := { results := [], args := [] }

/-- 'seepagelaw24.ModularQualities': WHATEVER THE INPUT: true; the input reads as it did. -/
def modularQualitiesSpec : ChangeSpec := { name := "modularQualities", fn := fun _ => fun
  | [d] => { results := [.lit (.bool true)], args := [d] }
  | _ => none }
def modularQualitiesRow : OpenClaim := { program := "ytemcilmefknbbaa", sum := "5511a7f5fd170e4de6ed65021df65f3a0d83367d52dee55f734243a71d86b5d0", func := "seepage/seepagelaw24.ModularQualities", spec := "modularQualities", inPlace := ["math/bits.Add64"], unfollowed := true, recurses := true, apart := false }
def ModularQualitiesSaid : Prop := modularQualitiesRow.holds Try.pinned (OpenSpec.ofChange modularQualitiesSpec)

/-- ITS FALSE NEIGHBOUR: 'it returns false'. Refute it at one input. -/
def modularQualitiesWrong : ChangeSpec := { name := "modularQualities", fn := fun _ => fun
  | [d] => { results := [.lit (.bool false)], args := [d] }
  | _ => none }
def ModularQualitiesWrongFalsely : Prop := modularQualitiesRow.holds Try.pinned (OpenSpec.ofChange modularQualitiesWrong)

/-- 'seepagelaw24.ModularMoves': WHATEVER THE INPUT: true; the input reads as it did. -/
def modularMovesSpec : ChangeSpec := { name := "modularMoves", fn := fun _ => fun
  | [d] => { results := [.lit (.bool true)], args := [d] }
  | _ => none }
def modularMovesRow : OpenClaim := { program := "ytemcilmefknbbaa", sum := "5511a7f5fd170e4de6ed65021df65f3a0d83367d52dee55f734243a71d86b5d0", func := "seepage/seepagelaw24.ModularMoves", spec := "modularMoves", inPlace := ["math/bits.Add64"], unfollowed := true, recurses := true, apart := false }
def ModularMovesSaid : Prop := modularMovesRow.holds Try.pinned (OpenSpec.ofChange modularMovesSpec)

/-- ITS FALSE NEIGHBOUR: 'it returns false'. Refute it at one input. -/
def modularMovesWrong : ChangeSpec := { name := "modularMoves", fn := fun _ => fun
  | [d] => { results := [.lit (.bool false)], args := [d] }
  | _ => none }
def ModularMovesWrongFalsely : Prop := modularMovesRow.holds Try.pinned (OpenSpec.ofChange modularMovesWrong)

/-- 'seepagelaw24.ModularBounds': WHATEVER THE INPUT: true; the input reads as it did. -/
def modularBoundsSpec : ChangeSpec := { name := "modularBounds", fn := fun _ => fun
  | [d1, d2] => { results := [.lit (.bool true)], args := [d1, d2] }
  | _ => none }
def modularBoundsRow : OpenClaim := { program := "ytemcilmefknbbaa", sum := "5511a7f5fd170e4de6ed65021df65f3a0d83367d52dee55f734243a71d86b5d0", func := "seepage/seepagelaw24.ModularBounds", spec := "modularBounds", inPlace := ["math/bits.Add64"], unfollowed := true, recurses := true, apart := false }
def ModularBoundsSaid : Prop := modularBoundsRow.holds Try.pinned (OpenSpec.ofChange modularBoundsSpec)

/-- ITS FALSE NEIGHBOUR: 'it returns false'. Refute it at one input. -/
def modularBoundsWrong : ChangeSpec := { name := "modularBounds", fn := fun _ => fun
  | [d1, d2] => { results := [.lit (.bool false)], args := [d1, d2] }
  | _ => none }
def ModularBoundsWrongFalsely : Prop := modularBoundsRow.holds Try.pinned (OpenSpec.ofChange modularBoundsWrong)

/-- 'seepagelaw24.ModularGains': WHATEVER THE INPUT: true; the input reads as it did. -/
def modularGainsSpec : ChangeSpec := { name := "modularGains", fn := fun _ => fun
  | [d1, d2, d3] => { results := [.lit (.bool true)], args := [d1, d2, d3] }
  | _ => none }
def modularGainsRow : OpenClaim := { program := "ytemcilmefknbbaa", sum := "5511a7f5fd170e4de6ed65021df65f3a0d83367d52dee55f734243a71d86b5d0", func := "seepage/seepagelaw24.ModularGains", spec := "modularGains", inPlace := ["math/bits.Add64"], unfollowed := true, recurses := true, apart := false }
def ModularGainsSaid : Prop := modularGainsRow.holds Try.pinned (OpenSpec.ofChange modularGainsSpec)

/-- ITS FALSE NEIGHBOUR: 'it returns false'. Refute it at one input. -/
def modularGainsWrong : ChangeSpec := { name := "modularGains", fn := fun _ => fun
  | [d1, d2, d3] => { results := [.lit (.bool false)], args := [d1, d2, d3] }
  | _ => none }
def ModularGainsWrongFalsely : Prop := modularGainsRow.holds Try.pinned (OpenSpec.ofChange modularGainsWrong)

/-- 'seepagelaw24.ModularNames': WHATEVER THE INPUT: true; the input reads as it did. -/
def modularNamesSpec : ChangeSpec := { name := "modularNames", fn := fun _ => fun
  | [d1, d2, d3] => { results := [.lit (.bool true)], args := [d1, d2, d3] }
  | _ => none }
def modularNamesRow : OpenClaim := { program := "ytemcilmefknbbaa", sum := "5511a7f5fd170e4de6ed65021df65f3a0d83367d52dee55f734243a71d86b5d0", func := "seepage/seepagelaw24.ModularNames", spec := "modularNames", inPlace := ["math/bits.Add64"], unfollowed := true, recurses := true, apart := false }
def ModularNamesSaid : Prop := modularNamesRow.holds Try.pinned (OpenSpec.ofChange modularNamesSpec)

/-- ITS FALSE NEIGHBOUR: 'it returns false'. Refute it at one input. -/
def modularNamesWrong : ChangeSpec := { name := "modularNames", fn := fun _ => fun
  | [d1, d2, d3] => { results := [.lit (.bool false)], args := [d1, d2, d3] }
  | _ => none }
def ModularNamesWrongFalsely : Prop := modularNamesRow.holds Try.pinned (OpenSpec.ofChange modularNamesWrong)

/-- 'seepagelaw24.ModularBack': WHATEVER THE INPUT: true; the input reads as it did. -/
def modularBackSpec : ChangeSpec := { name := "modularBack", fn := fun _ => fun
  | [d1, d2, d3] => { results := [.lit (.bool true)], args := [d1, d2, d3] }
  | _ => none }
def modularBackRow : OpenClaim := { program := "ytemcilmefknbbaa", sum := "5511a7f5fd170e4de6ed65021df65f3a0d83367d52dee55f734243a71d86b5d0", func := "seepage/seepagelaw24.ModularBack", spec := "modularBack", inPlace := ["math/bits.Add64"], unfollowed := true, recurses := true, apart := false }
def ModularBackSaid : Prop := modularBackRow.holds Try.pinned (OpenSpec.ofChange modularBackSpec)

/-- ITS FALSE NEIGHBOUR: 'it returns false'. Refute it at one input. -/
def modularBackWrong : ChangeSpec := { name := "modularBack", fn := fun _ => fun
  | [d1, d2, d3] => { results := [.lit (.bool false)], args := [d1, d2, d3] }
  | _ => none }
def ModularBackWrongFalsely : Prop := modularBackRow.holds Try.pinned (OpenSpec.ofChange modularBackWrong)

/-- 'seepagelaw24.ModularStable': WHATEVER THE INPUT: true; the input reads as it did. -/
def modularStableSpec : ChangeSpec := { name := "modularStable", fn := fun _ => fun
  | [d] => { results := [.lit (.bool true)], args := [d] }
  | _ => none }
def modularStableRow : OpenClaim := { program := "ytemcilmefknbbaa", sum := "5511a7f5fd170e4de6ed65021df65f3a0d83367d52dee55f734243a71d86b5d0", func := "seepage/seepagelaw24.ModularStable", spec := "modularStable", inPlace := ["math/bits.Add64"], unfollowed := true, recurses := true, apart := false }
def ModularStableSaid : Prop := modularStableRow.holds Try.pinned (OpenSpec.ofChange modularStableSpec)

/-- ITS FALSE NEIGHBOUR: 'it returns false'. Refute it at one input. -/
def modularStableWrong : ChangeSpec := { name := "modularStable", fn := fun _ => fun
  | [d] => { results := [.lit (.bool false)], args := [d] }
  | _ => none }
def ModularStableWrongFalsely : Prop := modularStableRow.holds Try.pinned (OpenSpec.ofChange modularStableWrong)

/-- 'seepagelaw24.ModularSpreads': WHATEVER THE INPUT: true; the input reads as it did. -/
def modularSpreadsSpec : ChangeSpec := { name := "modularSpreads", fn := fun _ => fun
  | [d1, d2] => { results := [.lit (.bool true)], args := [d1, d2] }
  | _ => none }
def modularSpreadsRow : OpenClaim := { program := "ytemcilmefknbbaa", sum := "5511a7f5fd170e4de6ed65021df65f3a0d83367d52dee55f734243a71d86b5d0", func := "seepage/seepagelaw24.ModularSpreads", spec := "modularSpreads", inPlace := ["math/bits.Add64"], unfollowed := true, recurses := true, apart := false }
def ModularSpreadsSaid : Prop := modularSpreadsRow.holds Try.pinned (OpenSpec.ofChange modularSpreadsSpec)

/-- ITS FALSE NEIGHBOUR: 'it returns false'. Refute it at one input. -/
def modularSpreadsWrong : ChangeSpec := { name := "modularSpreads", fn := fun _ => fun
  | [d1, d2] => { results := [.lit (.bool false)], args := [d1, d2] }
  | _ => none }
def ModularSpreadsWrongFalsely : Prop := modularSpreadsRow.holds Try.pinned (OpenSpec.ofChange modularSpreadsWrong)

/-- 'seepagelaw24.ModularRounds': WHATEVER THE INPUT: true; the input reads as it did. -/
def modularRoundsSpec : ChangeSpec := { name := "modularRounds", fn := fun _ => fun
  | [d1, d2, d3] => { results := [.lit (.bool true)], args := [d1, d2, d3] }
  | _ => none }
def modularRoundsRow : OpenClaim := { program := "ytemcilmefknbbaa", sum := "5511a7f5fd170e4de6ed65021df65f3a0d83367d52dee55f734243a71d86b5d0", func := "seepage/seepagelaw24.ModularRounds", spec := "modularRounds", inPlace := ["math/bits.Add64"], unfollowed := true, recurses := true, apart := false }
def ModularRoundsSaid : Prop := modularRoundsRow.holds Try.pinned (OpenSpec.ofChange modularRoundsSpec)

/-- ITS FALSE NEIGHBOUR: 'it returns false'. Refute it at one input. -/
def modularRoundsWrong : ChangeSpec := { name := "modularRounds", fn := fun _ => fun
  | [d1, d2, d3] => { results := [.lit (.bool false)], args := [d1, d2, d3] }
  | _ => none }
def ModularRoundsWrongFalsely : Prop := modularRoundsRow.holds Try.pinned (OpenSpec.ofChange modularRoundsWrong)

/-- 'seepagelaw24.ModularNil': WHATEVER THE INPUT: true; the input reads as it did. -/
def modularNilSpec : ChangeSpec := { name := "modularNil", fn := fun _ => fun
  | [d1, d2, d3, d4] => { results := [.lit (.bool true)], args := [d1, d2, d3, d4] }
  | _ => none }
def modularNilRow : OpenClaim := { program := "ytemcilmefknbbaa", sum := "5511a7f5fd170e4de6ed65021df65f3a0d83367d52dee55f734243a71d86b5d0", func := "seepage/seepagelaw24.ModularNil", spec := "modularNil", inPlace := ["math/bits.Add64"], unfollowed := true, recurses := true, apart := false }
def ModularNilSaid : Prop := modularNilRow.holds Try.pinned (OpenSpec.ofChange modularNilSpec)

/-- ITS FALSE NEIGHBOUR: 'it returns false'. Refute it at one input. -/
def modularNilWrong : ChangeSpec := { name := "modularNil", fn := fun _ => fun
  | [d1, d2, d3, d4] => { results := [.lit (.bool false)], args := [d1, d2, d3, d4] }
  | _ => none }
def ModularNilWrongFalsely : Prop := modularNilRow.holds Try.pinned (OpenSpec.ofChange modularNilWrong)

/- THE SECOND FORM. 'bulk': how many values and letters a reading holds, each counted each time it is reached (what is shared counts as often as it is met; a slice's spare places count too). A statement '..UptoSaid' is the law's where the arguments, and the package variables that the reading takes, are together of bulk at most 1048576: NARROWER than '..Said'. Prove '..Said' where nothing that the law and all that it calls make is longer than what came in: it says more and counts as full. Else prove '..UptoSaid'. A law counts once. -/
mutual
def uptoBulk {H : Type} : DataW H → Nat
  | .lit (.string bytes) => bytes.length + 1
  | .lit _ => 1
  | .nil => 1
  | .ptr d => uptoBulk d + 1
  | .slice elems spare => uptoBulkAll elems + uptoBulkAll spare + 1
  | .agg parts => uptoBulkAll parts + 1
  | .iface _ d => uptoBulk d + 1
  | .map entries => uptoBulkEntries entries + 1
  | .held _ => 1
def uptoBulkAll {H : Type} : List (DataW H) → Nat
  | [] => 0
  | d :: r => uptoBulk d + uptoBulkAll r
def uptoBulkEntries {H : Type} : List (Lit × DataW H) → Nat
  | [] => 0
  | x :: r => uptoBulkEntry x + uptoBulkEntries r
def uptoBulkEntry {H : Type} : Lit × DataW H → Nat
  | (.string bytes, d) => bytes.length + uptoBulk d + 1
  | (_, d) => uptoBulk d + 1
 end
def uptoSmall : (H : Type) → List (DataW H) → Bool := fun _ ds => decide (uptoBulkAll ds ≤ 1048576)
def OpenSpec.upto (s : _root_.Go.ChangeSpec) : _root_.Go.OpenSpec := { _root_.Go.OpenSpec.ofChange s with cond := some uptoSmall }

/-- 'seepagelaw24.ModularQualities', WHERE WHAT IT READS IS OF BULK AT MOST 1048576: true; the input reads as it did. -/
def modularQualitiesUptoRow : OpenClaim := { program := "ytemcilmefknbbaa", sum := "5511a7f5fd170e4de6ed65021df65f3a0d83367d52dee55f734243a71d86b5d0", func := "seepage/seepagelaw24.ModularQualities", spec := "modularQualities", inPlace := ["math/bits.Add64"], unfollowed := true, recurses := true, apart := false, narrowed := true }
def ModularQualitiesUptoSaid : Prop := modularQualitiesUptoRow.holds Try.pinned (OpenSpec.upto modularQualitiesSpec)

/-- 'seepagelaw24.ModularMoves', WHERE WHAT IT READS IS OF BULK AT MOST 1048576: true; the input reads as it did. -/
def modularMovesUptoRow : OpenClaim := { program := "ytemcilmefknbbaa", sum := "5511a7f5fd170e4de6ed65021df65f3a0d83367d52dee55f734243a71d86b5d0", func := "seepage/seepagelaw24.ModularMoves", spec := "modularMoves", inPlace := ["math/bits.Add64"], unfollowed := true, recurses := true, apart := false, narrowed := true }
def ModularMovesUptoSaid : Prop := modularMovesUptoRow.holds Try.pinned (OpenSpec.upto modularMovesSpec)

/-- 'seepagelaw24.ModularBounds', WHERE WHAT IT READS IS OF BULK AT MOST 1048576: true; the input reads as it did. -/
def modularBoundsUptoRow : OpenClaim := { program := "ytemcilmefknbbaa", sum := "5511a7f5fd170e4de6ed65021df65f3a0d83367d52dee55f734243a71d86b5d0", func := "seepage/seepagelaw24.ModularBounds", spec := "modularBounds", inPlace := ["math/bits.Add64"], unfollowed := true, recurses := true, apart := false, narrowed := true }
def ModularBoundsUptoSaid : Prop := modularBoundsUptoRow.holds Try.pinned (OpenSpec.upto modularBoundsSpec)

/-- 'seepagelaw24.ModularGains', WHERE WHAT IT READS IS OF BULK AT MOST 1048576: true; the input reads as it did. -/
def modularGainsUptoRow : OpenClaim := { program := "ytemcilmefknbbaa", sum := "5511a7f5fd170e4de6ed65021df65f3a0d83367d52dee55f734243a71d86b5d0", func := "seepage/seepagelaw24.ModularGains", spec := "modularGains", inPlace := ["math/bits.Add64"], unfollowed := true, recurses := true, apart := false, narrowed := true }
def ModularGainsUptoSaid : Prop := modularGainsUptoRow.holds Try.pinned (OpenSpec.upto modularGainsSpec)

/-- 'seepagelaw24.ModularNames', WHERE WHAT IT READS IS OF BULK AT MOST 1048576: true; the input reads as it did. -/
def modularNamesUptoRow : OpenClaim := { program := "ytemcilmefknbbaa", sum := "5511a7f5fd170e4de6ed65021df65f3a0d83367d52dee55f734243a71d86b5d0", func := "seepage/seepagelaw24.ModularNames", spec := "modularNames", inPlace := ["math/bits.Add64"], unfollowed := true, recurses := true, apart := false, narrowed := true }
def ModularNamesUptoSaid : Prop := modularNamesUptoRow.holds Try.pinned (OpenSpec.upto modularNamesSpec)

/-- 'seepagelaw24.ModularBack', WHERE WHAT IT READS IS OF BULK AT MOST 1048576: true; the input reads as it did. -/
def modularBackUptoRow : OpenClaim := { program := "ytemcilmefknbbaa", sum := "5511a7f5fd170e4de6ed65021df65f3a0d83367d52dee55f734243a71d86b5d0", func := "seepage/seepagelaw24.ModularBack", spec := "modularBack", inPlace := ["math/bits.Add64"], unfollowed := true, recurses := true, apart := false, narrowed := true }
def ModularBackUptoSaid : Prop := modularBackUptoRow.holds Try.pinned (OpenSpec.upto modularBackSpec)

/-- 'seepagelaw24.ModularStable', WHERE WHAT IT READS IS OF BULK AT MOST 1048576: true; the input reads as it did. -/
def modularStableUptoRow : OpenClaim := { program := "ytemcilmefknbbaa", sum := "5511a7f5fd170e4de6ed65021df65f3a0d83367d52dee55f734243a71d86b5d0", func := "seepage/seepagelaw24.ModularStable", spec := "modularStable", inPlace := ["math/bits.Add64"], unfollowed := true, recurses := true, apart := false, narrowed := true }
def ModularStableUptoSaid : Prop := modularStableUptoRow.holds Try.pinned (OpenSpec.upto modularStableSpec)

/-- 'seepagelaw24.ModularSpreads', WHERE WHAT IT READS IS OF BULK AT MOST 1048576: true; the input reads as it did. -/
def modularSpreadsUptoRow : OpenClaim := { program := "ytemcilmefknbbaa", sum := "5511a7f5fd170e4de6ed65021df65f3a0d83367d52dee55f734243a71d86b5d0", func := "seepage/seepagelaw24.ModularSpreads", spec := "modularSpreads", inPlace := ["math/bits.Add64"], unfollowed := true, recurses := true, apart := false, narrowed := true }
def ModularSpreadsUptoSaid : Prop := modularSpreadsUptoRow.holds Try.pinned (OpenSpec.upto modularSpreadsSpec)

/-- 'seepagelaw24.ModularRounds', WHERE WHAT IT READS IS OF BULK AT MOST 1048576: true; the input reads as it did. -/
def modularRoundsUptoRow : OpenClaim := { program := "ytemcilmefknbbaa", sum := "5511a7f5fd170e4de6ed65021df65f3a0d83367d52dee55f734243a71d86b5d0", func := "seepage/seepagelaw24.ModularRounds", spec := "modularRounds", inPlace := ["math/bits.Add64"], unfollowed := true, recurses := true, apart := false, narrowed := true }
def ModularRoundsUptoSaid : Prop := modularRoundsUptoRow.holds Try.pinned (OpenSpec.upto modularRoundsSpec)

/-- 'seepagelaw24.ModularNil', WHERE WHAT IT READS IS OF BULK AT MOST 1048576: true; the input reads as it did. -/
def modularNilUptoRow : OpenClaim := { program := "ytemcilmefknbbaa", sum := "5511a7f5fd170e4de6ed65021df65f3a0d83367d52dee55f734243a71d86b5d0", func := "seepage/seepagelaw24.ModularNil", spec := "modularNil", inPlace := ["math/bits.Add64"], unfollowed := true, recurses := true, apart := false, narrowed := true }
def ModularNilUptoSaid : Prop := modularNilUptoRow.holds Try.pinned (OpenSpec.upto modularNilSpec)

end Rows
end Go.Proofs.Ytemcilmefknbbaa
