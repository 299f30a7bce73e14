/-
  No cell of these rows narrows 'for every input' (looked for: loops, veiled, ifaces, maps, wideKeys, modest, calm, conditions, laid).
  DERIVED. THE GIVEN ROWS OF THIS SEAT. 9 by the template 'for every input the law returns true; each argument reads behind the call as it read before'; 0 by the template 'total and deterministic' (their statements: YtjdpkjjlcbgnbaaTotals.lean).
  GIVEN WITH THE SEED: the statements are not yours to turn. If you find one false, say at which input.
  Laid BY PROGRAM, IN A SANDBOX (cutbox-rows.mjs): the forced cells as the released guide's own fill.sh prints them over the translation d89c532864ae660e… (all of the seat's roots in one cut). By AI agents, Wed Nov 11 2026. No macro, syntax, notation, axiom, sorry.
-/
import Derived.Test.YtjdpkjjlcbgnbaaChecked
import GoSem.Claim
import GoSem.ClaimJoined
import GoSem.ClaimMapViews
import Derived.JoinedTies
import Derived.KernelRfl
namespace Go.Proofs.Ytjdpkjjlcbgnbaa
/- THE CELL 'sum', in the pinned program and in every row, IS THE sha256 OF THE DUMP (.gsa) THAT YtjdpkjjlcbgnbaaProg.lean LOADS. Nothing in Lean hashes anything: it is a label: what it is worth is what the hold of that sum in a sandbox is worth. -/
noncomputable def Try.pinned : Pinned := { name := "ytjdpkjjlcbgnbaa", sum := "d89c532864ae660e8bb1da62e7e61275c71640a020ea0c44dcc9dab76dc17fcf", checked := Try.checked }
namespace Rows
def none {H : Type} : Left H := { results := [], args := [] }

/-- 'seepagelaw16.TriadCounts': WHATEVER THE INPUT: true; the input reads as it did. -/
def triadCountsSpec : ChangeSpec := { name := "triadCounts", fn := fun _ => fun
  | [d1, d2, d3] => { results := [.lit (.bool true)], args := [d1, d2, d3] }
  | _ => none }
def triadCountsRow : OpenClaim := { program := "ytjdpkjjlcbgnbaa", sum := "d89c532864ae660e8bb1da62e7e61275c71640a020ea0c44dcc9dab76dc17fcf", func := "seepage/seepagelaw16.TriadCounts", spec := "triadCounts", inPlace := ["math/bits.Add64"], unfollowed := true, recurses := true, apart := false }
def TriadCountsSaid : Prop := triadCountsRow.holds Try.pinned (OpenSpec.ofChange triadCountsSpec)

/-- ITS FALSE NEIGHBOUR: 'it returns false'. Refute it at one input. -/
def triadCountsWrong : ChangeSpec := { name := "triadCounts", fn := fun _ => fun
  | [d1, d2, d3] => { results := [.lit (.bool false)], args := [d1, d2, d3] }
  | _ => none }
def TriadCountsWrongFalsely : Prop := triadCountsRow.holds Try.pinned (OpenSpec.ofChange triadCountsWrong)

/-- 'seepagelaw16.TriadRatios': WHATEVER THE INPUT: true; the input reads as it did. -/
def triadRatiosSpec : ChangeSpec := { name := "triadRatios", fn := fun _ => fun
  | [d1, d2, d3] => { results := [.lit (.bool true)], args := [d1, d2, d3] }
  | _ => none }
def triadRatiosRow : OpenClaim := { program := "ytjdpkjjlcbgnbaa", sum := "d89c532864ae660e8bb1da62e7e61275c71640a020ea0c44dcc9dab76dc17fcf", func := "seepage/seepagelaw16.TriadRatios", spec := "triadRatios", inPlace := ["math/bits.Add64"], unfollowed := true, recurses := true, apart := false }
def TriadRatiosSaid : Prop := triadRatiosRow.holds Try.pinned (OpenSpec.ofChange triadRatiosSpec)

/-- ITS FALSE NEIGHBOUR: 'it returns false'. Refute it at one input. -/
def triadRatiosWrong : ChangeSpec := { name := "triadRatios", fn := fun _ => fun
  | [d1, d2, d3] => { results := [.lit (.bool false)], args := [d1, d2, d3] }
  | _ => none }
def TriadRatiosWrongFalsely : Prop := triadRatiosRow.holds Try.pinned (OpenSpec.ofChange triadRatiosWrong)

/-- 'seepagelaw16.TriadSimple': WHATEVER THE INPUT: true; the input reads as it did. -/
def triadSimpleSpec : ChangeSpec := { name := "triadSimple", fn := fun _ => fun
  | [d1, d2, d3] => { results := [.lit (.bool true)], args := [d1, d2, d3] }
  | _ => none }
def triadSimpleRow : OpenClaim := { program := "ytjdpkjjlcbgnbaa", sum := "d89c532864ae660e8bb1da62e7e61275c71640a020ea0c44dcc9dab76dc17fcf", func := "seepage/seepagelaw16.TriadSimple", spec := "triadSimple", inPlace := ["math/bits.Add64"], unfollowed := true, recurses := true, apart := false }
def TriadSimpleSaid : Prop := triadSimpleRow.holds Try.pinned (OpenSpec.ofChange triadSimpleSpec)

/-- ITS FALSE NEIGHBOUR: 'it returns false'. Refute it at one input. -/
def triadSimpleWrong : ChangeSpec := { name := "triadSimple", fn := fun _ => fun
  | [d1, d2, d3] => { results := [.lit (.bool false)], args := [d1, d2, d3] }
  | _ => none }
def TriadSimpleWrongFalsely : Prop := triadSimpleRow.holds Try.pinned (OpenSpec.ofChange triadSimpleWrong)

/-- 'seepagelaw16.TriadCommon': WHATEVER THE INPUT: true; the input reads as it did. -/
def triadCommonSpec : ChangeSpec := { name := "triadCommon", fn := fun _ => fun
  | [d1, d2, d3] => { results := [.lit (.bool true)], args := [d1, d2, d3] }
  | _ => none }
def triadCommonRow : OpenClaim := { program := "ytjdpkjjlcbgnbaa", sum := "d89c532864ae660e8bb1da62e7e61275c71640a020ea0c44dcc9dab76dc17fcf", func := "seepage/seepagelaw16.TriadCommon", spec := "triadCommon", inPlace := ["math/bits.Add64"], unfollowed := true, recurses := true, apart := false }
def TriadCommonSaid : Prop := triadCommonRow.holds Try.pinned (OpenSpec.ofChange triadCommonSpec)

/-- ITS FALSE NEIGHBOUR: 'it returns false'. Refute it at one input. -/
def triadCommonWrong : ChangeSpec := { name := "triadCommon", fn := fun _ => fun
  | [d1, d2, d3] => { results := [.lit (.bool false)], args := [d1, d2, d3] }
  | _ => none }
def TriadCommonWrongFalsely : Prop := triadCommonRow.holds Try.pinned (OpenSpec.ofChange triadCommonWrong)

/-- 'seepagelaw16.TriadAdds': WHATEVER THE INPUT: true; the input reads as it did. -/
def triadAddsSpec : ChangeSpec := { name := "triadAdds", fn := fun _ => fun
  | [d1, d2, d3, d4] => { results := [.lit (.bool true)], args := [d1, d2, d3, d4] }
  | _ => none }
def triadAddsRow : OpenClaim := { program := "ytjdpkjjlcbgnbaa", sum := "d89c532864ae660e8bb1da62e7e61275c71640a020ea0c44dcc9dab76dc17fcf", func := "seepage/seepagelaw16.TriadAdds", spec := "triadAdds", inPlace := ["math/bits.Add64"], unfollowed := true, recurses := true, apart := false }
def TriadAddsSaid : Prop := triadAddsRow.holds Try.pinned (OpenSpec.ofChange triadAddsSpec)

/-- ITS FALSE NEIGHBOUR: 'it returns false'. Refute it at one input. -/
def triadAddsWrong : ChangeSpec := { name := "triadAdds", fn := fun _ => fun
  | [d1, d2, d3, d4] => { results := [.lit (.bool false)], args := [d1, d2, d3, d4] }
  | _ => none }
def TriadAddsWrongFalsely : Prop := triadAddsRow.holds Try.pinned (OpenSpec.ofChange triadAddsWrong)

/-- 'seepagelaw16.TriadLists': WHATEVER THE INPUT: true; the input reads as it did. -/
def triadListsSpec : ChangeSpec := { name := "triadLists", fn := fun _ => fun
  | [d1, d2, d3] => { results := [.lit (.bool true)], args := [d1, d2, d3] }
  | _ => none }
def triadListsRow : OpenClaim := { program := "ytjdpkjjlcbgnbaa", sum := "d89c532864ae660e8bb1da62e7e61275c71640a020ea0c44dcc9dab76dc17fcf", func := "seepage/seepagelaw16.TriadLists", spec := "triadLists", inPlace := ["math/bits.Add64"], unfollowed := true, recurses := true, apart := false }
def TriadListsSaid : Prop := triadListsRow.holds Try.pinned (OpenSpec.ofChange triadListsSpec)

/-- ITS FALSE NEIGHBOUR: 'it returns false'. Refute it at one input. -/
def triadListsWrong : ChangeSpec := { name := "triadLists", fn := fun _ => fun
  | [d1, d2, d3] => { results := [.lit (.bool false)], args := [d1, d2, d3] }
  | _ => none }
def TriadListsWrongFalsely : Prop := triadListsRow.holds Try.pinned (OpenSpec.ofChange triadListsWrong)

/-- 'seepagelaw16.TriadSums': WHATEVER THE INPUT: true; the input reads as it did. -/
def triadSumsSpec : ChangeSpec := { name := "triadSums", fn := fun _ => fun
  | [d1, d2] => { results := [.lit (.bool true)], args := [d1, d2] }
  | _ => none }
def triadSumsRow : OpenClaim := { program := "ytjdpkjjlcbgnbaa", sum := "d89c532864ae660e8bb1da62e7e61275c71640a020ea0c44dcc9dab76dc17fcf", func := "seepage/seepagelaw16.TriadSums", spec := "triadSums", inPlace := ["math/bits.Add64"], unfollowed := true, recurses := true, apart := false }
def TriadSumsSaid : Prop := triadSumsRow.holds Try.pinned (OpenSpec.ofChange triadSumsSpec)

/-- ITS FALSE NEIGHBOUR: 'it returns false'. Refute it at one input. -/
def triadSumsWrong : ChangeSpec := { name := "triadSums", fn := fun _ => fun
  | [d1, d2] => { results := [.lit (.bool false)], args := [d1, d2] }
  | _ => none }
def TriadSumsWrongFalsely : Prop := triadSumsRow.holds Try.pinned (OpenSpec.ofChange triadSumsWrong)

/-- 'seepagelaw16.TriadOrder': WHATEVER THE INPUT: true; the input reads as it did. -/
def triadOrderSpec : ChangeSpec := { name := "triadOrder", fn := fun _ => fun
  | [d1, d2, d3] => { results := [.lit (.bool true)], args := [d1, d2, d3] }
  | _ => none }
def triadOrderRow : OpenClaim := { program := "ytjdpkjjlcbgnbaa", sum := "d89c532864ae660e8bb1da62e7e61275c71640a020ea0c44dcc9dab76dc17fcf", func := "seepage/seepagelaw16.TriadOrder", spec := "triadOrder", inPlace := ["math/bits.Add64"], unfollowed := true, recurses := true, apart := false }
def TriadOrderSaid : Prop := triadOrderRow.holds Try.pinned (OpenSpec.ofChange triadOrderSpec)

/-- ITS FALSE NEIGHBOUR: 'it returns false'. Refute it at one input. -/
def triadOrderWrong : ChangeSpec := { name := "triadOrder", fn := fun _ => fun
  | [d1, d2, d3] => { results := [.lit (.bool false)], args := [d1, d2, d3] }
  | _ => none }
def TriadOrderWrongFalsely : Prop := triadOrderRow.holds Try.pinned (OpenSpec.ofChange triadOrderWrong)

/-- 'seepagelaw16.TriadNil': WHATEVER THE INPUT: true; the input reads as it did. -/
def triadNilSpec : ChangeSpec := { name := "triadNil", fn := fun _ => fun
  | [d1, d2] => { results := [.lit (.bool true)], args := [d1, d2] }
  | _ => none }
def triadNilRow : OpenClaim := { program := "ytjdpkjjlcbgnbaa", sum := "d89c532864ae660e8bb1da62e7e61275c71640a020ea0c44dcc9dab76dc17fcf", func := "seepage/seepagelaw16.TriadNil", spec := "triadNil", inPlace := ["math/bits.Add64"], unfollowed := true, recurses := true, apart := false }
def TriadNilSaid : Prop := triadNilRow.holds Try.pinned (OpenSpec.ofChange triadNilSpec)

/-- ITS FALSE NEIGHBOUR: 'it returns false'. Refute it at one input. -/
def triadNilWrong : ChangeSpec := { name := "triadNil", fn := fun _ => fun
  | [d1, d2] => { results := [.lit (.bool false)], args := [d1, d2] }
  | _ => none }
def TriadNilWrongFalsely : Prop := triadNilRow.holds Try.pinned (OpenSpec.ofChange triadNilWrong)

/- THE SECOND FORM. 'bulk': how many values and letters a reading holds, each counted each time it is reached (what is shared counts as often as it is met; a slice's spare places count too). A statement '..UptoSaid' is the law's where the arguments, and the package variables that the reading takes, are together of bulk at most 1048576: NARROWER than '..Said'. Prove '..Said' where nothing that the law and all that it calls make is longer than what came in: it says more and counts as full. Else prove '..UptoSaid'. A law counts once. -/
mutual
def uptoBulk {H : Type} : DataW H → Nat
  | .lit (.string bytes) => bytes.length + 1
  | .lit _ => 1
  | .nil => 1
  | .ptr d => uptoBulk d + 1
  | .slice elems spare => uptoBulkAll elems + uptoBulkAll spare + 1
  | .agg parts => uptoBulkAll parts + 1
  | .iface _ d => uptoBulk d + 1
  | .map entries => uptoBulkEntries entries + 1
  | .held _ => 1
def uptoBulkAll {H : Type} : List (DataW H) → Nat
  | [] => 0
  | d :: r => uptoBulk d + uptoBulkAll r
def uptoBulkEntries {H : Type} : List (Lit × DataW H) → Nat
  | [] => 0
  | x :: r => uptoBulkEntry x + uptoBulkEntries r
def uptoBulkEntry {H : Type} : Lit × DataW H → Nat
  | (.string bytes, d) => bytes.length + uptoBulk d + 1
  | (_, d) => uptoBulk d + 1
 end
def uptoSmall : (H : Type) → List (DataW H) → Bool := fun _ ds => decide (uptoBulkAll ds ≤ 1048576)
def OpenSpec.upto (s : _root_.Go.ChangeSpec) : _root_.Go.OpenSpec := { _root_.Go.OpenSpec.ofChange s with cond := some uptoSmall }

/-- 'seepagelaw16.TriadCounts', WHERE WHAT IT READS IS OF BULK AT MOST 1048576: true; the input reads as it did. -/
def triadCountsUptoRow : OpenClaim := { program := "ytjdpkjjlcbgnbaa", sum := "d89c532864ae660e8bb1da62e7e61275c71640a020ea0c44dcc9dab76dc17fcf", func := "seepage/seepagelaw16.TriadCounts", spec := "triadCounts", inPlace := ["math/bits.Add64"], unfollowed := true, recurses := true, apart := false, narrowed := true }
def TriadCountsUptoSaid : Prop := triadCountsUptoRow.holds Try.pinned (OpenSpec.upto triadCountsSpec)

/-- 'seepagelaw16.TriadRatios', WHERE WHAT IT READS IS OF BULK AT MOST 1048576: true; the input reads as it did. -/
def triadRatiosUptoRow : OpenClaim := { program := "ytjdpkjjlcbgnbaa", sum := "d89c532864ae660e8bb1da62e7e61275c71640a020ea0c44dcc9dab76dc17fcf", func := "seepage/seepagelaw16.TriadRatios", spec := "triadRatios", inPlace := ["math/bits.Add64"], unfollowed := true, recurses := true, apart := false, narrowed := true }
def TriadRatiosUptoSaid : Prop := triadRatiosUptoRow.holds Try.pinned (OpenSpec.upto triadRatiosSpec)

/-- 'seepagelaw16.TriadSimple', WHERE WHAT IT READS IS OF BULK AT MOST 1048576: true; the input reads as it did. -/
def triadSimpleUptoRow : OpenClaim := { program := "ytjdpkjjlcbgnbaa", sum := "d89c532864ae660e8bb1da62e7e61275c71640a020ea0c44dcc9dab76dc17fcf", func := "seepage/seepagelaw16.TriadSimple", spec := "triadSimple", inPlace := ["math/bits.Add64"], unfollowed := true, recurses := true, apart := false, narrowed := true }
def TriadSimpleUptoSaid : Prop := triadSimpleUptoRow.holds Try.pinned (OpenSpec.upto triadSimpleSpec)

/-- 'seepagelaw16.TriadCommon', WHERE WHAT IT READS IS OF BULK AT MOST 1048576: true; the input reads as it did. -/
def triadCommonUptoRow : OpenClaim := { program := "ytjdpkjjlcbgnbaa", sum := "d89c532864ae660e8bb1da62e7e61275c71640a020ea0c44dcc9dab76dc17fcf", func := "seepage/seepagelaw16.TriadCommon", spec := "triadCommon", inPlace := ["math/bits.Add64"], unfollowed := true, recurses := true, apart := false, narrowed := true }
def TriadCommonUptoSaid : Prop := triadCommonUptoRow.holds Try.pinned (OpenSpec.upto triadCommonSpec)

/-- 'seepagelaw16.TriadAdds', WHERE WHAT IT READS IS OF BULK AT MOST 1048576: true; the input reads as it did. -/
def triadAddsUptoRow : OpenClaim := { program := "ytjdpkjjlcbgnbaa", sum := "d89c532864ae660e8bb1da62e7e61275c71640a020ea0c44dcc9dab76dc17fcf", func := "seepage/seepagelaw16.TriadAdds", spec := "triadAdds", inPlace := ["math/bits.Add64"], unfollowed := true, recurses := true, apart := false, narrowed := true }
def TriadAddsUptoSaid : Prop := triadAddsUptoRow.holds Try.pinned (OpenSpec.upto triadAddsSpec)

/-- 'seepagelaw16.TriadLists', WHERE WHAT IT READS IS OF BULK AT MOST 1048576: true; the input reads as it did. -/
def triadListsUptoRow : OpenClaim := { program := "ytjdpkjjlcbgnbaa", sum := "d89c532864ae660e8bb1da62e7e61275c71640a020ea0c44dcc9dab76dc17fcf", func := "seepage/seepagelaw16.TriadLists", spec := "triadLists", inPlace := ["math/bits.Add64"], unfollowed := true, recurses := true, apart := false, narrowed := true }
def TriadListsUptoSaid : Prop := triadListsUptoRow.holds Try.pinned (OpenSpec.upto triadListsSpec)

/-- 'seepagelaw16.TriadSums', WHERE WHAT IT READS IS OF BULK AT MOST 1048576: true; the input reads as it did. -/
def triadSumsUptoRow : OpenClaim := { program := "ytjdpkjjlcbgnbaa", sum := "d89c532864ae660e8bb1da62e7e61275c71640a020ea0c44dcc9dab76dc17fcf", func := "seepage/seepagelaw16.TriadSums", spec := "triadSums", inPlace := ["math/bits.Add64"], unfollowed := true, recurses := true, apart := false, narrowed := true }
def TriadSumsUptoSaid : Prop := triadSumsUptoRow.holds Try.pinned (OpenSpec.upto triadSumsSpec)

/-- 'seepagelaw16.TriadOrder', WHERE WHAT IT READS IS OF BULK AT MOST 1048576: true; the input reads as it did. -/
def triadOrderUptoRow : OpenClaim := { program := "ytjdpkjjlcbgnbaa", sum := "d89c532864ae660e8bb1da62e7e61275c71640a020ea0c44dcc9dab76dc17fcf", func := "seepage/seepagelaw16.TriadOrder", spec := "triadOrder", inPlace := ["math/bits.Add64"], unfollowed := true, recurses := true, apart := false, narrowed := true }
def TriadOrderUptoSaid : Prop := triadOrderUptoRow.holds Try.pinned (OpenSpec.upto triadOrderSpec)

/-- 'seepagelaw16.TriadNil', WHERE WHAT IT READS IS OF BULK AT MOST 1048576: true; the input reads as it did. -/
def triadNilUptoRow : OpenClaim := { program := "ytjdpkjjlcbgnbaa", sum := "d89c532864ae660e8bb1da62e7e61275c71640a020ea0c44dcc9dab76dc17fcf", func := "seepage/seepagelaw16.TriadNil", spec := "triadNil", inPlace := ["math/bits.Add64"], unfollowed := true, recurses := true, apart := false, narrowed := true }
def TriadNilUptoSaid : Prop := triadNilUptoRow.holds Try.pinned (OpenSpec.upto triadNilSpec)

end Rows
end Go.Proofs.Ytjdpkjjlcbgnbaa
