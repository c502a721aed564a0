/- Package gate: Frozen, Arc, Freeze, Thaw, Point, Where. -/
import Derived.Test.YtpcmbnbdppembaaGreatDoorHoldAt
import Derived.Test.YtpcmbnbdppembaaGreatDoorHoldMem
import Derived.BigRegion
import Derived.Deep.RegionLaw
import Derived.Deep.AppendLies
import Derived.Deep.DrawnRows
namespace Go.Proofs.YtpcmbnbdppembaaGreatDoor
set_option linter.unusedSimpArgs false
set_option linter.unusedVariables false
open Go.RowKit Go.Shelf
attribute [local go_sem ↓] Go.wp_at_zero Go.wp_at_succ

theorem garc_any {w : World} {h : Nat} {st : HSt} {tr : Option Tree} {n : Nat} {B : List Nat} (hh : HoldAt w h st tr n B) :
    Calls Tryz.prog 81 #[.pointer (some ⟨h, 5, none⟩)] w fun e w' => e = .returned (.tuple #[.agg #[.int .u64 st.a.f, .int .u64 st.a.t], .bool st.shut]) ∧ Mod NoB w w' := by
  obtain ⟨vo, vp, s, L, h1, h2, h3, h4, hB, h5⟩ := hh
  have hlt : h < w.heap.size := (Array.getElem?_eq_some_iff.1 h1).1
  have c5 : w.cell? ⟨h, 5, none⟩ = some (.bool st.shut) := cell_of h1 5 rfl
  have c6 : w.cell? ⟨h, 6, none⟩ = some (.int .u64 st.a.f) := cell_of h1 6 rfl
  have c7 : w.cell? ⟨h, 7, none⟩ = some (.int .u64 st.a.t) := cell_of h1 7 rfl
  clear h1 h2 h3 h4 hB h5
  go_enter Tryz.func81, Tryz.ntmps81
  go_wp2_with fail
  go_region
  go_wp2_with fail
  all_goals
    refine bodyPost_ret (v := .tuple #[.agg #[.int .u64 st.a.f, .int .u64 st.a.t], .bool st.shut]) (by simp [results, Tryz.results81, go_sem, *]) rfl ⟨rfl, ?_⟩
    repeat (first | exact Mod.refl _ _ | refine Mod.alloc ?_ _ | refine Mod.drew ?_ | refine Mod.setCell ?_ (fun h => absurd h (by simp)) _)

theorem frozen_any {w : World} {h : Nat} {st : HSt} {tr : Option Tree} {n : Nat} {B : List Nat} (hh : HoldAt w h st tr n B) (x : Int) :
    Calls Tryz.prog 55 #[.pointer (some ⟨h, 5, none⟩), .int .u64 x] w fun e w' => e = .returned (.bool (st.shut && inA st.a x)) ∧ Mod NoB w w' := by
  obtain ⟨vo, vp, s, L, h1, h2, h3, h4, hB, h5⟩ := hh
  have hlt : h < w.heap.size := (Array.getElem?_eq_some_iff.1 h1).1
  have c5 : w.cell? ⟨h, 5, none⟩ = some (.bool st.shut) := cell_of h1 5 rfl
  have c6 : w.cell? ⟨h, 6, none⟩ = some (.int .u64 st.a.f) := cell_of h1 6 rfl
  have c7 : w.cell? ⟨h, 7, none⟩ = some (.int .u64 st.a.t) := cell_of h1 7 rfl
  clear h1 h2 h3 h4 hB h5
  cases hs : st.shut with
  | false =>
    rw [hs] at c5
    go_enter Tryz.func55, Tryz.ntmps55
    go_wp2_with fail
    go_ret
    exact ⟨by simp, Mod.refl _ _⟩
  | true =>
    rw [hs] at c5
    go_enter Tryz.func55, Tryz.ntmps55
    go_wp2_with fail
    refine (in_any st.a x _).mono ?_
    rintro e w1 ⟨rfl, hm⟩
    go_wp2_with fail
    go_ret
    exact ⟨by simp, hm⟩

set_option maxHeartbeats 2000000 in
theorem gfreeze_any {w : World} {h : Nat} {st : HSt} {tr : Option Tree} {n : Nat} {B : List Nat} (hh : HoldAt w h st tr n B) (hs : st.shut = false) (a : Arc) :
    Calls Tryz.prog 83 #[.pointer (some ⟨h, 5, none⟩), .agg #[.int .u64 a.f, .int .u64 a.t]] w fun e w' => e = .returned (.bool true) ∧ HoldAt w' h { st with shut := true, a := a } tr n B ∧ Turn B w w' B := by
  obtain ⟨vo, vp, s, L, h1, h2, h3, h4, rfl, h5⟩ := hh
  have hlt : h < w.heap.size := (Array.getElem?_eq_some_iff.1 h1).1
  have hne : h ≠ w.heap.size := by omega
  have c5 : w.cell? ⟨h, 5, none⟩ = some (.bool false) := by rw [← hs]; exact cell_of h1 5 rfl
  have c6 : w.cell? ⟨h, 6, none⟩ = some (.int .u64 st.a.f) := cell_of h1 6 rfl
  have c7 : w.cell? ⟨h, 7, none⟩ = some (.int .u64 st.a.t) := cell_of h1 7 rfl
  have f5 := frozen_of h1 5
  have f6 := frozen_of h1 6
  have f7 := frozen_of h1 7
  have H1 := Lib.hid h1; have H2 := Lib.hid h2; have H3 := Lib.hid h3; have H4 := Lib.hid h4; have H5 := Lib.hid h5
  clear h1 h2 h3 h4 h5
  go_enter Tryz.func83, Tryz.ntmps83
  go_wp2_with fail
  go_region
  go_wp2_with fail
  all_goals
    go_ret
    refine ⟨rfl, hold_cells (st' := { st with shut := true, a := a }) H2.out H3.out H4.out H5.out ?_ rfl rfl rfl ?_⟩
    · repeat (first | exact Mod.refl _ _ | refine Mod.alloc ?_ _ | refine Mod.drew ?_ | refine Mod.setCell ?_ (by intro _; rfl) _)
    · have e3 := heap_set (heap_set (heap_set H1.out 5 (.bool true)) 6 (.int .u64 a.f)) 7 (.int .u64 a.t)
      refine (Below.heap_alloc _ _ _ (by simpa [World.setCell] using hlt)).trans ?_
      simpa using e3

theorem gthaw_no {w : World} {h : Nat} {st : HSt} {tr : Option Tree} {n : Nat} {B : List Nat} (hh : HoldAt w h st tr n B) (hs : st.shut = false) :
    Calls Tryz.prog 150 #[.pointer (some ⟨h, 5, none⟩)] w fun e w' => e = .returned (.bool false) ∧ w' = w := by
  obtain ⟨vo, vp, s, L, h1, h2⟩ := id hh
  have c5 : w.cell? ⟨h, 5, none⟩ = some (.bool false) := by rw [← hs]; exact cell_of h1 5 rfl
  clear hh h1 h2
  go_enter Tryz.func150, Tryz.ntmps150
  go_wp2_with fail
  go_ret
  exact ⟨rfl, rfl⟩

set_option maxHeartbeats 2000000 in
theorem gthaw_yes {w : World} {h : Nat} {st : HSt} {tr : Option Tree} {n : Nat} {B : List Nat} (hh : HoldAt w h st tr n B) (hs : st.shut = true) :
    Calls Tryz.prog 150 #[.pointer (some ⟨h, 5, none⟩)] w fun e w' => e = .returned (.bool true) ∧ HoldAt w' h { st with shut := false, a := ⟨0, 0⟩ } tr n B ∧ Turn B w w' B := by
  obtain ⟨vo, vp, s, L, h1, h2, h3, h4, rfl, h5⟩ := hh
  have hlt : h < w.heap.size := (Array.getElem?_eq_some_iff.1 h1).1
  have c5 : w.cell? ⟨h, 5, none⟩ = some (.bool true) := by rw [← hs]; exact cell_of h1 5 rfl
  have c6 : w.cell? ⟨h, 6, none⟩ = some (.int .u64 st.a.f) := cell_of h1 6 rfl
  have c7 : w.cell? ⟨h, 7, none⟩ = some (.int .u64 st.a.t) := cell_of h1 7 rfl
  have f5 := frozen_of h1 5
  have f6 := frozen_of h1 6
  have f7 := frozen_of h1 7
  have H1 := Lib.hid h1; have H2 := Lib.hid h2; have H3 := Lib.hid h3; have H4 := Lib.hid h4; have H5 := Lib.hid h5
  clear h1 h2 h3 h4 h5
  go_enter Tryz.func150, Tryz.ntmps150
  go_wp2_with fail
  go_ret
  refine ⟨rfl, hold_cells (st' := { st with shut := false, a := ⟨0, 0⟩ }) H2.out H3.out H4.out H5.out ?_ rfl rfl rfl ?_⟩
  · repeat (first | exact Mod.refl _ _ | refine Mod.alloc ?_ _ | refine Mod.drew ?_ | refine Mod.setCell ?_ (by intro _; rfl) _)
  · have e3 := heap_set (heap_set (heap_set H1.out 5 (.bool false)) 6 (.int .u64 0)) 7 (.int .u64 0)
    simpa using e3

theorem infoPtr : (Tryz.prog.info? 180).map (fun i => (i.zero, i.size, decide (i.bytes ≤ 64))) = some (some (.agg #[.int .u64 0, .int .u64 0, .int .i64 0, .int .i64 0]), 4, true) := by kernel_rfl
theorem tyPtrs : Tryz.prog.underlying 115 = some (.slice 180) := by kernel_rfl
theorem ptrInfo_parts : ∃ i z, Tryz.prog.info? 180 = some i ∧ i.zero = some z ∧ i.size = 4 ∧ z.cells.size = 4 ∧ i.bytes ≤ 64 := by
  have h := infoPtr
  cases hi : Tryz.prog.info? 180 with
  | none => rw [hi] at h; cases h
  | some i =>
    rw [hi] at h
    simp only [Option.map_some, Option.some.injEq, Prod.mk.injEq, decide_eq_true_eq] at h
    obtain ⟨hz, hs, hb⟩ := h
    exact ⟨i, _, rfl, hz, hs, rfl, hb⟩
theorem onePtr {x : Ptr} {u : Value} (hu : u ∈ encPtr x) : u.oneCell' = true := by
  simp only [encPtr, List.mem_cons, List.not_mem_nil, or_false] at hu
  rcases hu with rfl | rfl | rfl | rfl <;> rfl
theorem newsPtr {W : World} {x : Ptr} {e : TypeId} {b j : Nat} {u : Value} (hb : W.heap[b]? = some (.cells (encPtr x).toArray e (0, 0))) (hu : (encPtr x)[j]? = some u) : W.cell? ((⟨b, 0, none⟩ : Addr).add j) = some u :=
  World.news_of_block hb j u (by simpa using hu)
theorem heap_two' (W : World) (o1 o2 : Obj) : ((W.alloc o1).alloc o2).heap[W.heap.size + 1]? = some o2 := by
  have := heap_alloc_new (W.alloc o1) o2
  simpa using this

set_option maxRecDepth 100000 in
set_option maxHeartbeats 8000000 in
theorem gpoint_any {w : World} {h : Nat} {st : HSt} {tr : Option Tree} {n : Nat} {B : List Nat} (hh : HoldAt w h st tr n B) (a : Arc) (node : Int) (hlen : st.pts.length ≤ 1000000) :
    Calls Tryz.prog 153 #[.pointer (some ⟨h, 5, none⟩), .agg #[.int .u64 a.f, .int .u64 a.t], .int .i64 node] w fun e w' => (∃ v, e = .returned v) ∧ ∃ B', HoldAt w' h { st with pts := st.pts ++ [⟨a.f, a.t, node, 0⟩] } tr n B' ∧ Turn B w w' B' := by
  obtain ⟨vo, vp, s, L, q1, q2, q3, q4, rfl, q5⟩ := hh
  have c8 : w.cell? ⟨h, 8, none⟩ = some vp := cell_of q1 8 rfl
  have f8 := frozen_of q1 8
  have hhr : h < w.heap.size := (Array.getElem?_eq_some_iff.1 q1).1
  have hne : h ≠ w.heap.size := by omega
  obtain ⟨i0, z0, hi, hz0, hz1, hz2, hz3⟩ := ptrInfo_parts
  have HNE : Hid (some h ≠ vp.ownBlock) := by
    intro e
    simp only [List.nodup_cons, List.mem_append, not_or] at q5
    exact q5.1.1.2 (by simp [ownL, ← e])
  have HQ1 := Lib.hid q1; clear q1
  have HQ2 := Lib.hid q2; clear q2
  have HQ3 := Lib.hid q3; clear q3
  have HQ4 := Lib.hid q4; clear q4
  have HQ5 := Lib.hid q5; clear q5
  go_enter Tryz.func153, Tryz.ntmps153
  go_wp2_with fail
  go_region_law ((refine step_append_lies _ (by rfl) _ _ 115 (by rfl) 0 180 i0 z0 4 i0.bytes tyPtrs hi hz0 hz1 rfl hz2 (by decide) vp st.pts.length (st.pts.flatMap encPtr) (by rfl) (own_mod' (S := NoB) HQ3.out (by repeat (first | exact Mod.refl _ _ | refine Mod.alloc ?_ _ | refine Mod.drew ?_)) (fun _ _ x => x)) ⟨w.heap.size + 1, 0, none⟩ 1 1 (encPtr ⟨a.f, a.t, node, 0⟩) (by rfl) (by rfl) (by intro j u hu; exact newsPtr (heap_two' _ _ _) hu) (by intro u hu; exact onePtr hu) (by decide) (by unfold maxLen; omega) (by exact Nat.le_trans (Nat.mul_le_mul (by omega : st.pts.length + 1 ≤ 2000000) hz3) (by decide)) (Nat.zero_le _) _ rfl ?_; intro g cap w3 hown hgrow hat hlt3; have k3 := (hgrow.cell_far ⟨h, 8, none⟩ (by simp; omega) HNE.out).trans (Mod.cellS (w := w) (by repeat (first | exact Mod.refl _ _ | refine Mod.alloc ?_ _ | refine Mod.drew ?_)) c8); have kf := (hgrow.frozen_far ⟨h, 8, none⟩ (by simp; omega) HNE.out).trans ((Mod.frozen (S := NoB) (w := w) (by repeat (first | exact Mod.refl _ _ | refine Mod.alloc ?_ _ | refine Mod.drew ?_)) hhr (fun x => x)).trans f8); have G1 := Lib.hid hown; have G2 := Lib.hid hgrow; have G3 := Lib.hid hat; clear hown hgrow hat))
  all_goals
    have hMX : Mod NoB w ((w.alloc (.cells #[.int .u64 a.f, .int .u64 a.t] 25)).alloc (.cells #[.int .u64 a.f, .int .u64 a.t, .int .i64 node, .int .i64 0] 180)).drew := (((Mod.refl _ _).alloc _).alloc _).drew
    have hres := hold_pointed (news := [⟨a.f, a.t, node, 0⟩]) HQ1.out HQ2.out HQ3.out HQ4.out HQ5.out hMX G2.out (by simpa using G1.out) G3.out
    have HR := Lib.hid hres
    clear hres hMX
    go_wp2_with fail
    first
      | (refine bodyPost_ret (results_none rfl _ _ _) rfl ?_; exact ⟨⟨_, rfl⟩, _, HR.out⟩)
      | (go_end0; exact ⟨⟨_, rfl⟩, _, HR.out⟩)
end Go.Proofs.YtpcmbnbdppembaaGreatDoor
