/- (*shelf.Shelf).Del out of a shelf of one item. -/
import Derived.Test.YtmagddchjidamaaGreatDoorShelfPut
namespace Go.Proofs.YtmagddchjidamaaGreatDoor
set_option linter.unusedSimpArgs false
set_option linter.unusedVariables false
open Go.RowKit Go.Shelf
attribute [local go_sem ↓] Go.wp_at_zero Go.wp_at_succ

theorem clear_one {W : World} {c cap : Nat} (h0 : (W.cell? ⟨c, 0, none⟩).isSome = true) (h1 : (W.cell? ⟨c, 1, none⟩).isSome = true) (f0 : W.frozen? ⟨c, 0, none⟩ = false) (f1 : W.frozen? ⟨c, 1, none⟩ = false) :
    Sem.run Tryz.prog (Builtin.clear_ #[35] 0 #[.slice (some ⟨c, 0, none⟩) 1 cap]) W = .ok (.tuple #[]) ((W.setCell ⟨c, 0, none⟩ (.string ⟨#[]⟩)).setCell ⟨c, 1, none⟩ (.string ⟨#[]⟩)) := by
  have hst := run_storeCells_cells (P := Tryz.prog) c 0 [.string ⟨#[]⟩, .string ⟨#[]⟩] 0 W
    (by intro j hj; match j, hj with | 0, _ => exact h0 | 1, _ => exact h1) (by intro j hj; match j, hj with | 0, _ => exact f0 | 1, _ => exact f1) (by intro v hv; simp at hv; subst hv; rfl)
  simp only [Nat.add_zero] at hst
  have hz := Tryz.zeroValue43
  have hzc : (Builtin.zeroCells (Value.agg #[.string ⟨#[]⟩, .string ⟨#[]⟩]).cells 1).toList = [.string ⟨#[]⟩, .string ⟨#[]⟩] := by first | kernel_rfl | (simp [Builtin.zeroCells]; done) | decide
  simp [Builtin.clear_, run_underlying tyIts, hz, hzc, hst, World.setCells]

set_option maxRecDepth 100000 in
set_option maxHeartbeats 8000000 in
/-- Delete of the only item -/
theorem delete_one {w : World} {c cap : Nat} {x : Itm} (h : w.ownsRow 0 43 2 (.slice (some ⟨c, 0, none⟩) 1 cap) 1 (encIt x)) :
    Calls Tryz.prog 95 #[.slice (some ⟨c, 0, none⟩) 1 cap, .int .i64 0, .int .i64 1] w fun e w' => e = .returned (.slice (some ⟨c, 0, none⟩) 0 cap) ∧
      w'.ownsRow 0 43 2 (.slice (some ⟨c, 0, none⟩) 0 cap) 0 [] ∧ Mod (· = c) w w' := by
  have hown := h
  rcases h.2 with ⟨e, _⟩ | ⟨g, cap', cur, e, _, hg, hcap1, hcap2, hcs, htk⟩
  · cases e
  simp only [Value.slice.injEq, Option.some.injEq, Addr.mk.injEq] at e
  obtain ⟨⟨rfl, _, _⟩, _, rfl⟩ := e
  have hlt : c < w.heap.size := (Array.getElem?_eq_some_iff.1 hg).1
  have p0 : w.cell? ⟨c, 0, none⟩ = some (.string x.1) := by
    have := h.cells (g := c) rfl 0 (.string x.1) rfl
    simpa [Addr.add] using this
  have p1 : w.cell? ⟨c, 1, none⟩ = some (.string x.2) := by
    have := h.cells (g := c) rfl 1 (.string x.2) rfl
    have ha : (⟨c, 0, none⟩ : Addr).add 1 = ⟨c, 1, none⟩ := rfl
    rw [ha] at this
    exact this
  have f0 := frozen_of hg 0
  have f1 := frozen_of hg 1
  obtain ⟨i0, z0, hi, hz0, hz1, hz2, hz3⟩ := itInfo_parts
  unfold maxLen at hcap2
  have HG := Lib.hid hg
  have HCS := Lib.hid hcs
  clear h hg htk hcs hown
  by_cases hc1 : cap = 1
  · subst hc1
    go_enter Tryz.func95, Tryz.ntmps95
    go_wp2_with fail
    go_region_law ((refine step_append_room (by rfl) _ _ 35 (by rfl) 43 i0 2 tyIts hi hz1 c 0 0 _ (by rfl) ⟨c, 0, none⟩ 0 _ [] (by rfl) (by rfl) (by intro j u hu; simp at hu) (by intro u hu; simp at hu) (by omega) (by intro j hj; simp at hj) ?_))
    go_wp2_with fail
    simp only [World.setCells]
    rw [clear_one (W := w.drew) (by show (w.cell? _).isSome = true; rw [p0]; rfl) (by show (w.cell? _).isSome = true; rw [p1]; rfl) f0 f1]
    go_wp2_with fail
    go_ret
    refine ⟨rfl, ?_, ((Mod.refl _ _).drew.setCell (by intro _; rfl) _).setCell (by intro _; rfl) _⟩
    refine ⟨rfl, .inr ⟨c, _, _, rfl, Nat.zero_le _, (by have := heap_set (heap_set HG.out 0 (.string ⟨#[]⟩)) 1 (.string ⟨#[]⟩); exact this), Nat.zero_le _, by unfold maxLen; omega, by simpa using HCS.out, by simp⟩⟩
  · go_enter Tryz.func95, Tryz.ntmps95
    go_wp2_with fail
    go_region_law ((refine step_append_room (by rfl) _ _ 35 (by rfl) 43 i0 2 tyIts hi hz1 c 0 0 _ (by rfl) ⟨c, 2, none⟩ 0 _ [] (by rfl) (by rfl) (by intro j u hu; simp at hu) (by intro u hu; simp at hu) (by omega) (by intro j hj; simp at hj) ?_))
    go_wp2_with fail
    simp only [World.setCells]
    rw [clear_one (W := w.drew) (by show (w.cell? _).isSome = true; rw [p0]; rfl) (by show (w.cell? _).isSome = true; rw [p1]; rfl) f0 f1]
    go_wp2_with fail
    go_ret
    refine ⟨rfl, ?_, ((Mod.refl _ _).drew.setCell (by intro _; rfl) _).setCell (by intro _; rfl) _⟩
    refine ⟨rfl, .inr ⟨c, _, _, rfl, Nat.zero_le _, (by have := heap_set (heap_set HG.out 0 (.string ⟨#[]⟩)) 1 (.string ⟨#[]⟩); exact this), Nat.zero_le _, by unfold maxLen; omega, by simpa using HCS.out, by simp⟩⟩
end Go.Proofs.YtmagddchjidamaaGreatDoor
