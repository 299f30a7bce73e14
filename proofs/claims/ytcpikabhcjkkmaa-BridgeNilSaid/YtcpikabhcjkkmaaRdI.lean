/- Lists of indexes in memory, and lists of them. No conditions. -/
import Derived.Test.YtcpikabhcjkkmaaOwI
namespace Go.Proofs.Ytcpikabhcjkkmaa
open Go.RowKit

/-- a list of indexes in memory -/
def RdI (w : World) (B : Nat) (v : Value) (l : List Nat) : Prop := ∃ a cap A, v = .slice a l.length cap ∧ Rd 29 1 w B (.slice a l.length cap) l.length (nums .i64 (intsN l)) A
theorem RdI.below {w w' : World} {B : Nat} {v : Value} {l : List Nat} (h : RdI w B v l) (hb : Below B w w') : RdI w' B v l := by
  obtain ⟨a, cap, A, rfl, h⟩ := h
  exact ⟨a, cap, A, rfl, h.below hb⟩
theorem RdI.mono {w : World} {B B' : Nat} {v : Value} {l : List Nat} (h : RdI w B v l) (hb : B ≤ B') : RdI w B' v l := by
  obtain ⟨a, cap, A, rfl, h⟩ := h
  exact ⟨a, cap, A, rfl, h.mono hb⟩
/-- lists of indexes in memory -/
def BMem (w : World) (B : Nat) (v : Value) (X : List (List Nat)) : Prop := ∃ (a : Option Addr) (cap : Nat) (A : Nat → Addr) (RV : Nat → Value), v = .slice a X.length cap ∧ Rd 33 1 w B (.slice a X.length cap) X.length (fun i _ => RV i) A ∧ ∀ i, i < X.length → RdI w B (RV i) (X.getD i []) ∧ ∃ a' c', RV i = .slice a' (X.getD i []).length c' ∧ (X.getD i []).length ≤ c'
theorem BMem.below {w w' : World} {B : Nat} {v : Value} {X : List (List Nat)} (h : BMem w B v X) (hb : Below B w w') : BMem w' B v X := by
  obtain ⟨a, cap, A, RV, rfl, h, h2⟩ := h
  exact ⟨a, cap, A, RV, rfl, h.below hb, fun i hi => ⟨(h2 i hi).1.below hb, (h2 i hi).2⟩⟩
theorem BMem.mono {w : World} {B B' : Nat} {v : Value} {X : List (List Nat)} (h : BMem w B v X) (hb : B ≤ B') : BMem w B' v X := by
  obtain ⟨a, cap, A, RV, rfl, h, h2⟩ := h
  exact ⟨a, cap, A, RV, rfl, h.mono hb, fun i hi => ⟨(h2 i hi).1.mono hb, (h2 i hi).2⟩⟩
theorem own_cap {w : World} {base size n g cap : Nat} {e : TypeId} {xs : List Value} (h : w.ownsRow base e size (.slice (some ⟨g, 0, none⟩) n cap) n xs) : n ≤ cap := by
  rcases h.2 with ⟨h0, _⟩ | ⟨g', cap', cur, h1, hb, hg, hn, hm, hs, ht⟩
  · cases h0
  · cases h1; exact hn
end Go.Proofs.Ytcpikabhcjkkmaa
