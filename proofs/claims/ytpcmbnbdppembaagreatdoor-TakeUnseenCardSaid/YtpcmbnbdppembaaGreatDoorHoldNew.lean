/- hold.New. -/
import Derived.Test.YtpcmbnbdppembaaGreatDoorArc
namespace Go.Proofs.YtpcmbnbdppembaaGreatDoor
set_option linter.unusedSimpArgs false
set_option linter.unusedVariables false
open Go.RowKit

def mostOf (m : Int) : Int := min (max m 0) 200

theorem shelfNew_any (most : Int) (w : World) (hm : 0 ≤ most) (hm2 : most ≤ 200) : Calls Tryz.prog 68 #[.int .i64 most] w fun e w' =>
    e = .returned (.pointer (some ⟨w.heap.size, 0, none⟩)) ∧ w' = w.alloc (.cells #[.int .i64 most, .int .i64 0, .pointer none] 192) := by
  go_enter Tryz.func68, Tryz.ntmps68
  go_wp2_with fail
  go_ret
  exact ⟨rfl, rfl⟩

theorem heap_new (w : World) (o : Obj) : (w.alloc o).heap[w.heap.size]? = some o := (MapKept.heap_alloc w o).1

set_option maxHeartbeats 1000000 in
theorem new_any (node most : Int) (w : World) (hm : 0 ≤ most) (hm2 : most ≤ 200) : Calls Tryz.prog 24 #[.int .i64 node, .int .i64 most] w fun e w' =>
    ∃ h B, e = .returned (.pointer (some ⟨h, 0, none⟩)) ∧ HoldAt w' h ⟨node, most, 0, [], false, ⟨0, 0⟩, []⟩ none 0 B ∧ Mod NoB w w' ∧ ∀ k ∈ B, w.heap.size ≤ k := by
  go_enter Tryz.func24, Tryz.ntmps24
  go_wp2_with (go_at_call 68; refine (shelfNew_any _ _ hm hm2).mono ?_; rintro e w' ⟨rfl, rfl⟩)
  go_ret
  refine ⟨_, [w.heap.size + 1, w.heap.size], rfl, ⟨.slice none 0 0, .slice none 0 0, w.heap.size, [w.heap.size], ?_, World.ownsRow_nil _ _ _ _, World.ownsRow_nil _ _ _ _, ⟨?_, rfl⟩, rfl, by simp⟩, ((Mod.refl _ _).alloc _).alloc _, by simp⟩
  · have := heap_new (w.alloc (.cells #[.int .i64 most, .int .i64 0, .pointer none] 192)) (.cells #[.int .i64 node, .int .i64 most, .int .i64 0, .slice none 0 0, .pointer (some ⟨w.heap.size, 0, none⟩), .bool false, .int .u64 0, .int .u64 0, .slice none 0 0] 119)
    simpa using this
  · rw [Below.heap_alloc _ _ _ (by simp)]
    exact heap_new _ _
end Go.Proofs.YtpcmbnbdppembaaGreatDoor
