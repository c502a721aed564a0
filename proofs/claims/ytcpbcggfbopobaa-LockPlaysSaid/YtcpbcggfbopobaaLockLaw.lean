/- The first call of the lock's laws (alive): true. -/
import Derived.Test.YtcpbcggfbopobaaLock
namespace Go.Proofs.Ytcpbcggfbopobaa
open Go.RowKit

theorem lockAlive (w : World) : Calls Try.prog 9 #[] w fun e w' => e = .returned (.bool true) ∧ Below w.heap.size w w' := by
  go_enter Try.func9, Try.ntmps9
  go_wp2
  all_goals go_ret
  exact ⟨rfl, by
    repeat (first | exact Below.refl _ _ | refine Below.setCell ?_ (by simp) _ | refine Below.alloc ?_ (Nat.le_refl _) _)⟩
end Go.Proofs.Ytcpbcggfbopobaa
