/- The reference's hold, new: rosaryref10.Holds, Own of the first arc. -/
import Derived.Test.YtpcmbnbdppembaaGreatDoorHoldOwn
namespace Go.Proofs.YtpcmbnbdppembaaGreatDoor
set_option linter.unusedSimpArgs false
set_option linter.unusedVariables false
open Go.RowKit Go.Shelf
attribute [local go_sem ↓] Go.wp_at_zero Go.wp_at_succ

theorem shelves_any (most : Int) (w : World) (h0 : 0 ≤ most) (h1 : most ≤ 200) : Calls Tryz.prog 135 #[.int .i64 most] w fun e w' => e = .returned (.pointer (some ⟨w.heap.size, 0, none⟩)) ∧ w' = w.alloc (.cells #[.int .i64 most, .slice none 0 0] 59) := by
  have e1 : max most 0 = most := by omega
  have e2 : min most 200 = most := by omega
  go_enter Tryz.func135, Tryz.ntmps135
  go_wp2_with fail
  go_ret
  exact ⟨rfl, rfl⟩

abbrev rCs (node most : Int) (s : Nat) : Array Value := #[.int .i64 node, .int .i64 most, .int .i64 0, .slice none 0 0, .pointer (some ⟨s, 0, none⟩), .bool false, .int .u64 0, .int .u64 0, .slice none 0 0]

set_option maxRecDepth 100000 in
set_option maxHeartbeats 8000000 in
theorem holds_any (node most : Int) (w : World) (h0 : 0 ≤ most) (h1 : most ≤ 200) : Calls Tryz.prog 48 #[.int .i64 node, .int .i64 most] w fun e w' => ∃ r, e = .returned (.pointer (some ⟨r, 0, none⟩)) ∧ w.heap.size ≤ r ∧
    w'.heap[r]? = some (.cells (rCs node most w.heap.size) 38 (0, 0)) ∧ Mod NoB w w' := by
  go_enter Tryz.func48, Tryz.ntmps48
  go_wp2_with fail
  refine (shelves_any most w h0 h1).mono ?_
  rintro e w1 ⟨rfl, rfl⟩
  go_wp2_with fail
  go_ret
  refine ⟨_, rfl, by simp, ?_, ((Mod.refl _ _).alloc _).alloc _⟩
  have := heap_alloc_new (w.alloc (.cells #[.int .i64 most, .slice none 0 0] 59)) (.cells (rCs node most w.heap.size) 38)
  simpa using this

set_option maxRecDepth 100000 in
set_option maxHeartbeats 8000000 in
theorem rapart_none {w : World} {r s : Nat} {node most : Int} (h : w.heap[r]? = some (.cells (rCs node most s) 38 (0, 0))) (a : Arc) : Calls Tryz.prog 136 #[.pointer (some ⟨r, 0, none⟩), .agg #[.int .u64 a.f, .int .u64 a.t]] w fun e w' => e = .returned (.bool true) ∧ Mod NoB w w' := by
  have hr : r < w.heap.size := (Array.getElem?_eq_some_iff.1 h).1
  have c3 := cell_of h 3 (v := .slice none 0 0) rfl
  clear h
  go_enter Tryz.func136, Tryz.ntmps136
  go_wp2_with fail
  go_loopw [5] (fun i wr => i = .int .i64 0 ∧ wr = w.alloc (.cells #[.int .u64 a.f, .int .u64 a.t] 25)) (fun _ _ => 0)
  case atStart => exact ⟨rfl, rfl⟩
  case round =>
    obtain ⟨rfl, rfl⟩ := hrel
    go_wp2_with fail
    go_ret
    exact ⟨rfl, (Mod.refl _ _).alloc _⟩

set_option maxRecDepth 100000 in
set_option maxHeartbeats 16000000 in
theorem rown_none {w : World} {r s : Nat} {node most : Int} (h : w.heap[r]? = some (.cells (rCs node most s) 38 (0, 0))) (a : Arc) (ep : Int) (hep : 0 ≤ ep) :
    Calls Tryz.prog 49 #[.pointer (some ⟨r, 0, none⟩), .agg #[.int .u64 a.f, .int .u64 a.t], .int .i64 ep] w fun e w' => e = .returned (.bool true) ∧ Mod (· = r) w w' := by
  have HR := Lib.hid h
  have hr : r < w.heap.size := (Array.getElem?_eq_some_iff.1 h).1
  have hneg : ¬ ep < 0 := by omega
  clear h
  obtain ⟨i0, z0, hi, hz0, hz1, hz2, hz3⟩ := owInfo_parts
  go_enter Tryz.func49, Tryz.ntmps49
  go_wp2_with fail
  refine (rapart_none ((Below.heap_alloc _ _ _ hr).trans HR.out) a).mono ?_
  rintro e w1 ⟨rfl, hm1⟩
  have hm01 := ((Mod.refl NoB w).alloc (.cells #[.int .u64 a.f, .int .u64 a.t] 25)).trans hm1
  have h1 := (hm01.block r hr (fun x => x)).trans HR.out
  have c0 := cell_of h1 0 (v := .int .i64 node) rfl
  have c3 := cell_of h1 3 (v := .slice none 0 0) rfl
  have f3 := frozen_of h1 3
  have a0 := hm1.cellS (cell_of (heap_alloc_new w (.cells #[.int .u64 a.f, .int .u64 a.t] 25)) 0 (v := .int .u64 a.f) rfl)
  have a1 := hm1.cellS (cell_of (heap_alloc_new w (.cells #[.int .u64 a.f, .int .u64 a.t] 25)) 1 (v := .int .u64 a.t) rfl)
  have hr1 : r < w1.heap.size := (Array.getElem?_eq_some_iff.1 h1).1
  have HM1 := Lib.hid hm01
  clear hm1 hm01 h1
  go_wp2_with fail
  go_region_law ((refine step_append_lies _ (by rfl) _ _ 32 (by rfl) 0 128 i0 z0 4 i0.bytes tyOws hi hz0 hz1 rfl hz2 (by decide) (.slice none 0 0) 0 [] (by rfl) (World.ownsRow_nil _ _ _ _) ⟨w1.heap.size, 0, none⟩ 1 1 (encOw ⟨a.f, a.t, node, ep⟩) rfl (by rfl) (by intro j u hu; exact newsOw (heap_alloc_new _ _) hu) (by intro u hu; exact oneOw hu) (by decide) (by unfold maxLen; omega) (by exact Nat.le_trans (Nat.mul_le_mul (show 0 + 1 ≤ 1000000 by decide) hz3) (by decide)) (Nat.zero_le _) _ rfl ?_; intro g cap w3 hown hgrow hat hlt3; have k3 := (hgrow.cell_far ⟨r, 3, none⟩ (by simp; omega) (by simp [Value.ownBlock])).trans (Mod.cellS (w := w1) (by repeat (first | exact Mod.refl _ _ | refine Mod.alloc ?_ _ | refine Mod.drew ?_)) c3); have kf := (hgrow.frozen_far ⟨r, 3, none⟩ (by simp; omega) (by simp [Value.ownBlock])).trans ((Mod.frozen (S := NoB) (w := w1) (by repeat (first | exact Mod.refl _ _ | refine Mod.alloc ?_ _ | refine Mod.drew ?_)) hr1 (fun x => x)).trans f3); have G2 := Lib.hid hgrow; clear hown hgrow hat))
  all_goals
    have hMX : Mod NoB w1 (w1.alloc (.cells #[.int .u64 a.f, .int .u64 a.t, .int .i64 node, .int .i64 ep] 128)).drew := ((Mod.refl _ _).alloc _).drew
    have hgr := G2.out
    have hm3 : Mod NoB w1 w3 := hMX.trans ⟨hgr.os, hgr.tape, hgr.output, hgr.size, fun k hk _ => hgr.block k hk (by simp [Value.ownBlock])⟩
    have HMF := Lib.hid (Mod.setCell (S := (· = r)) ((HM1.out.trans hm3).mono (fun _ _ x => x.elim)) (p := ⟨r, 3, none⟩) (fun _ => rfl) (.slice (some ⟨g, 0, none⟩) 1 cap))
    clear hgr hm3 hMX
    go_wp2_with fail
    go_ret
    exact ⟨rfl, HMF.out⟩
end Go.Proofs.YtpcmbnbdppembaaGreatDoor
