/-
  DERIVED. GIVEN WITH THE SEED: THE CARDS: each row of YtpaeogglppampaaGreatDoorRows.lean that lists a variable, with what it lists TIED to the program's text (the seventh form; the later family's looks); each row that meets fmt, with fmt's text TOLD by the authors' own Lean function (tested against real Go, not proved from fmt's source: count such statements apart). THE CARD IS WHAT COUNTS. Prove the row's statement (the work); the ties are given (YtpaeogglppampaaGreatDoorTie.lean); close each card by the builder's one call (the guide's Derived/Test/ToyasCard.lean, 'card_holds'). Laid BY PROGRAM, IN A SANDBOX (cutbox-door.mjs). By AI agents, Wed Nov 11 2026. No macro, syntax, notation, axiom, sorry.
-/
import Derived.Test.YtpaeogglppampaaGreatDoorRows
import GoSem.ClaimSeven
namespace Go.Proofs.YtpaeogglppampaaGreatDoor
namespace Rows

/-- THE TIED CARD OF 'seepagetop.TopMinimax'. -/
def topMinimaxCard : Claim7 := { stood := { row := topMinimaxRow, standIns := [], harness := (true, "2bb56793aff96182b84633fdb5d8de9a893c4f34731fe626060e19d631f3fbc2"), looks := true }, kinds := [], alts := [], laidByText := true, laidKinds := [.data, .data], laidTests := true, laidLooks := .later }
def TopMinimaxCardSaid : Prop := Claim7.holds Tryz.pinned (.plain (OpenSpec.ofChange topMinimaxSpec)) topMinimaxCard

/-- THE SECOND FORM's CARD OF 'seepagetop.TopMinimax'. -/
def topMinimaxUptoCard : Claim7 := { stood := { row := topMinimaxUptoRow, standIns := [], harness := (true, "2bb56793aff96182b84633fdb5d8de9a893c4f34731fe626060e19d631f3fbc2"), looks := true }, kinds := [], alts := [], laidByText := true, laidKinds := [.data, .data], laidTests := true, laidLooks := .later }
def TopMinimaxUptoCardSaid : Prop := Claim7.holds Tryz.pinned (.plain (OpenSpec.upto topMinimaxSpec)) topMinimaxUptoCard
end Rows
end Go.Proofs.YtpaeogglppampaaGreatDoor
