/- The call of steps of package sweep. No conditions. -/
import Derived.Test.YtpbgophogneecaaGreatStp
namespace Go.Proofs.YtpbgophogneecaaGreat
open Go.RowKit Go.Shelf

set_option maxHeartbeats 400000 in
theorem steps_call (tb : Nat) (ea oa : Option Addr) (m k ec oc : Nat) (w : World) :
    Calls Tryz.prog 13 #[.pointer (some ⟨tb, 0, none⟩), .slice ea m ec, .slice oa k oc] w fun e w' => e = .returned (.func (.func 33) #[] #[.pointer (some ⟨w.heap.size + 2, 0, none⟩), .pointer (some ⟨w.heap.size, 0, none⟩), .pointer (some ⟨w.heap.size + 1, 0, none⟩)]) ∧ ((w.alloc (.cells #[.pointer (some ⟨tb, 0, none⟩)] 47)).alloc (.cells #[.slice ea m ec] 22)).alloc (.cells #[.slice oa k oc] 46) = w' := by
  go_enter Tryz.func13, Tryz.ntmps13
  go_wp2
  go_ret
  exact ⟨rfl, rfl⟩
end Go.Proofs.YtpbgophogneecaaGreat
