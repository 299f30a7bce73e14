/- Lemmas of the proof. Conditions: as each one states. -/
import Derived.Test.YtpaeogglppampaaGreatDoorQx
import Derived.Test.YtpaeogglppampaaGreatDoorQy
import Derived.Test.YtpaeogglppampaaGreatDoorCards
import Derived.Test.YtpaeogglppampaaGreatDoorTie
import Derived.Lib.LaidTab
set_option maxRecDepth 100000
set_option maxHeartbeats 16000000
namespace Go.Proofs.YtpaeogglppampaaGreatDoor
open Go.RowKit
section
open Go.ChangeShapes Go.WideShapes Go.ChangeAt Go.RowKit
theorem adU : Tryz.prog.globalNamed "math/bits.deBruijn64tab" = some 1 := by kernel_rfl
theorem Rx:(Tryz.prog.globals[1]?).map (·.type)=some 314:=by kernel_rfl
theorem SB:Tryz.prog.cellsOf 314=64:=by kernel_rfl
theorem Wx:Tryz.prog.cellsOf 5=1:=by kernel_rfl
def Ox:List Int:=[0,1,56,2,57,49,28,3,61,58,42,50,38,29,17,4,62,47,59,36,45,43,51,22,53,39,33,30,24,18,12,5,63,55,48,27,60,41,37,16,46,35,44,21,52,32,23,11,54,26,40,15,34,20,31,10,25,14,19,9,13,8,7,6]
theorem EH {W : World} (h : laidMetH Tryz.prog [("math/bits.deBruijn32tab", Rows.laid_math_bits_deBruijn32tab), ("math/bits.deBruijn64tab", Rows.laid_math_bits_deBruijn64tab)] W) : qw W := by
 have h1 : laidMet Tryz.prog [("math/bits.deBruijn32tab", Rows.laid_math_bits_deBruijn32tab), ("math/bits.deBruijn64tab", Rows.laid_math_bits_deBruijn64tab)] W := h;have h2:=h1.tail;have h3 : Lib.TabIs Tryz.prog W "math/bits.deBruijn64tab" .u8 Ox := Lib.tabIs_of_head (rest := []) adU Rx Tryz.underlying314 Tryz.underlying5 Wx SB h2;intro j hj;have hl:Lib.deBruijn64tab.length=64:=rfl;have h4:=h3.cell adU j (by rw[hl] at hj;exact hj);rw[h4]
 congr 2
 have:∀j<64,Ox.getD j 0=((Lib.deBruijn64tab.getD j 0:Nat):Int):=by decide+kernel
 exact this j (by rw[hl] at hj;exact hj)
def QS (cs:Array Value):Obj→Obj
 |.cells _ t frozen=>.cells cs t frozen
 |o=>o
def abX:List Int:=[0,1,28,2,29,14,24,3,30,22,20,15,25,17,4,8,31,27,13,23,21,19,16,7,26,12,18,6,11,5,10,9]
noncomputable def uG (os:Os):World:=
 { World.holding Tryz.prog os ⟨#[],#[],[]⟩ with heap:=((World.holding Tryz.prog os ⟨#[],#[],[]⟩).heap.modify 0 (QS (abX.map (Value.int .u8)).toArray)).modify 1 (QS (Ox.map (Value.int .u8)).toArray) }
end
end Go.Proofs.YtpaeogglppampaaGreatDoor
