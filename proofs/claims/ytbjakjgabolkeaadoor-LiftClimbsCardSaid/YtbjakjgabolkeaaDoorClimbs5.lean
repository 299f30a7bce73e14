/- The walk of the law LiftClimbs, all together. Conditions: the bytes and the keys are given as cells; the library's table of de Bruijn is as its initialiser lays it. -/
import Derived.Test.YtbjakjgabolkeaaDoorClimbs3
import Derived.Test.YtbjakjgabolkeaaDoorClimbs4
namespace Go.Proofs.YtbjakjgabolkeaaDoor
open Go.RowKit Go.Shelf

theorem climbs_walk (B : Nat) (ao : Option Addr) (cap : Nat) (A : Nat → Addr) (L : List Int) (turned : Bool) (ak : Option Addr) (capk : Nat) (Ak : Nat → Addr) (ks : List Int) (x : Nat) (low high : Int) (w : World) (hT : DeB w) (hS : Sl 22 .u8 w B (.slice ao L.length cap) L A) (hB : B ≤ w.heap.size) (hc : L.length ≤ cap) (hm : L.length ≤ 9223372036854775807) (hb : ∀ i, i < L.length → 0 ≤ nth L i ∧ nth L i ≤ 255) (hx : x ≤ 65535)
    (hSk : Sl 59 .i16 w B (.slice ak ks.length capk) ks Ak) (hmk : ks.length ≤ 9223372036854775807) (hbk : ∀ i, i < ks.length → -32768 ≤ nth ks i ∧ nth ks i ≤ 32767) (hl1 : -32768 ≤ low ∧ low ≤ 32767) (hh1 : -32768 ≤ high ∧ high ≤ 32767) :
    Calls Tryd.prog 11 #[.slice ao L.length cap, .bool turned, .slice ak ks.length capk, .int .u16 x, .int .i16 low, .int .i16 high] w fun e w' => e = .returned (.bool true) ∧ Below w.heap.size w w' := by
  rcases Int.lt_trichotomy low high with h | h | h
  · exact climbs_lt B ao cap A L turned ak capk Ak ks x low high w hT hS hB hc hm hb hx hSk hmk hbk hl1 hh1 h
  · exact climbs_eq B ao cap A L turned ak capk Ak ks x low high w hT hS hB hc hm hb hx hSk hmk hbk hl1 hh1 h
  · exact climbs_gt B ao cap A L turned ak capk Ak ks x low high w hT hS hB hc hm hb hx hSk hmk hbk hl1 hh1 h
end Go.Proofs.YtbjakjgabolkeaaDoor
