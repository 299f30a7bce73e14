/- What the view of package cluster answers: all clusters, and the row. Conditions: New has made the view. -/
import Derived.Test.YtpbgophogneecaaGreatCvR
import Derived.Test.YtpbgophogneecaaGreatCvM
namespace Go.Proofs.YtpbgophogneecaaGreat
open Go.RowKit
section
variable {vb n : Nat} {E : List Ed} {w : World}
theorem VwAt.ok {B : Nat} (h : VwAt w B vb n E) : GOk n E := by
  obtain ⟨z, b, tb, g, o, h⟩ := h; exact h.ok
theorem VwAt.at (h : VwAt w w.heap.size vb n E) {w1 : World} (hb : Below w.heap.size w w1) : VwAt w1 w1.heap.size vb n E := (h.below hb).mono hb.size
theorem cv_all (h : VwAt w w.heap.size vb n E) (θ : Int) : Calls Tryz.prog 21 #[.pointer (some ⟨vb, 0, none⟩), .int .i64 θ] w (AllRes n (lbW E θ) w) :=
  all_any _ n _ θ w h.ok.n_le (fun _ hx => Nat.lt_of_le_of_lt ((labO_ok E _).le _) hx) (labO_ok E _) fun w1 hb => clabels_any vb n E θ w1 (h.at hb)
theorem cv_row (h : VwAt w w.heap.size vb n E) (θ : Int) : Calls Tryz.prog 9 #[.pointer (some ⟨vb, 0, none⟩), .int .i64 θ] w (RowRes n (lbW E θ) w) :=
  crow_any _ n _ θ w h.ok.n_le fun _ hb => cv_all (h.at hb) θ
end
end Go.Proofs.YtpbgophogneecaaGreat
