/- walk.All, walk.Range: what they make. -/
import Derived.Test.YtpcmbnbdppembaaGreatDoorHoldDo
import Derived.Test.YtpcmbnbdppembaaGreatDoorCollect
namespace Go.Proofs.YtpcmbnbdppembaaGreatDoor
set_option linter.unusedSimpArgs false
set_option linter.unusedVariables false
open Go.RowKit Go.Shelf

theorem wall_make (s : Nat) (w : World) : Calls Tryz.prog 192 #[.pointer (some ⟨s, 0, none⟩)] w fun e w' =>
    e = .returned (.func (.func 212) #[] #[.pointer (some ⟨w.heap.size, 0, none⟩)]) ∧ w' = w.alloc (.cells #[.pointer (some ⟨s, 0, none⟩)] 114) := by
  go_enter Tryz.func192, Tryz.ntmps192
  go_wp2_with fail
  go_ret
  exact ⟨rfl, rfl⟩

theorem wrange_make (s : Nat) (a b : ByteArray) (w : World) : Calls Tryz.prog 143 #[.pointer (some ⟨s, 0, none⟩), .string a, .string b] w fun e w' =>
    e = .returned (.func (.func 191) #[] #[.pointer (some ⟨w.heap.size, 0, none⟩), .pointer (some ⟨w.heap.size + 1, 0, none⟩), .pointer (some ⟨w.heap.size + 1 + 1, 0, none⟩)]) ∧
      w' = ((w.alloc (.cells #[.pointer (some ⟨s, 0, none⟩)] 114)).alloc (.cells #[.string a] 9)).alloc (.cells #[.string b] 9) := by
  go_enter Tryz.func143, Tryz.ntmps143
  go_wp2_with fail
  go_ret
  exact ⟨rfl, rfl⟩
end Go.Proofs.YtpcmbnbdppembaaGreatDoor
