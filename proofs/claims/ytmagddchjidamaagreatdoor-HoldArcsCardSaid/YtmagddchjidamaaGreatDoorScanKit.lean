/- walk.All, walk.Range: what they make. -/
import Derived.Test.YtmagddchjidamaaGreatDoorHoldDo
import Derived.Test.YtmagddchjidamaaGreatDoorCollect
namespace Go.Proofs.YtmagddchjidamaaGreatDoor
set_option linter.unusedSimpArgs false
set_option linter.unusedVariables false
open Go.RowKit Go.Shelf

theorem wall_make (s : Nat) (w : World) : Calls Tryz.prog 92 #[.pointer (some ⟨s, 0, none⟩)] w fun e w' =>
    e = .returned (.func (.func 108) #[] #[.pointer (some ⟨w.heap.size, 0, none⟩)]) ∧ w' = w.alloc (.cells #[.pointer (some ⟨s, 0, none⟩)] 69) := by
  go_enter Tryz.func92, Tryz.ntmps92
  go_wp2_with fail
  go_ret
  exact ⟨rfl, rfl⟩

theorem wrange_make (s : Nat) (a b : ByteArray) (w : World) : Calls Tryz.prog 70 #[.pointer (some ⟨s, 0, none⟩), .string a, .string b] w fun e w' =>
    e = .returned (.func (.func 91) #[] #[.pointer (some ⟨w.heap.size, 0, none⟩), .pointer (some ⟨w.heap.size + 1, 0, none⟩), .pointer (some ⟨w.heap.size + 1 + 1, 0, none⟩)]) ∧
      w' = ((w.alloc (.cells #[.pointer (some ⟨s, 0, none⟩)] 69)).alloc (.cells #[.string a] 9)).alloc (.cells #[.string b] 9) := by
  go_enter Tryz.func70, Tryz.ntmps70
  go_wp2_with fail
  go_ret
  exact ⟨rfl, rfl⟩
end Go.Proofs.YtmagddchjidamaaGreatDoor
