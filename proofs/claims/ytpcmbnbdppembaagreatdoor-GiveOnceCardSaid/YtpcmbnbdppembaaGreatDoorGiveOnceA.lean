/- arc.Within. -/
import Derived.Test.YtpcmbnbdppembaaGreatDoorArc
import Derived.Deep.RegionHeld3
import Derived.Test.YtpcmbnbdppembaaGreatDoorHoldOwn
namespace Go.Proofs.YtpcmbnbdppembaaGreatDoor
set_option linter.unusedSimpArgs false
set_option linter.unusedVariables false
open Go.RowKit Go.Shelf
attribute [local go_sem ↓] Go.wp_at_zero Go.wp_at_succ

def withinA (a b : Arc) : Bool := if a.f = a.t then true else if b.f = b.t then false else decide ((b.f - a.f) % 18446744073709551616 < (a.t - a.f) % 18446744073709551616) && decide ((b.t - b.f) % 18446744073709551616 ≤ ((a.t - a.f) % 18446744073709551616 - (b.f - a.f) % 18446744073709551616) % 18446744073709551616)

/-- all of an arc is in another one just if each of its points is -/
theorem within_iff {a b : Arc} (ha : a.ok) (hb : b.ok) : withinA a b = true ↔ ∀ x, Pt64 x → inA b x = true → inA a x = true := by
  have hself : inA b b.f = true := by
    rw [inA_iff hb hb.1]; split
    · trivial
    · split <;> omega
  obtain ⟨f, t⟩ := a
  obtain ⟨f', t'⟩ := b
  obtain ⟨⟨h1, h2⟩, ⟨h3, h4⟩⟩ := id ha
  obtain ⟨⟨h5, h6⟩, ⟨h7, h8⟩⟩ := id hb
  simp only at h1 h2 h3 h4 h5 h6 h7 h8
  unfold withinA
  simp only
  by_cases e1 : f = t
  · rw [if_pos e1]
    refine ⟨fun _ x hx _ => ?_, fun _ => rfl⟩
    rw [inA_iff ha hx, if_pos e1]
    trivial
  rw [if_neg e1]
  by_cases e2 : f' = t'
  · rw [if_pos e2]
    refine ⟨fun h => Bool.noConfusion h, fun h => ?_⟩
    have h9 := h t ⟨h3, h4⟩ (by rw [inA_iff hb ⟨h3, h4⟩, if_pos e2]; trivial)
    rw [inA_iff ha ⟨h3, h4⟩, if_neg e1] at h9
    simp only at h9
    split at h9 <;> omega
  rw [if_neg e2, Bool.and_eq_true, decide_eq_true_eq, decide_eq_true_eq]
  constructor
  · rintro ⟨g1, g2⟩ x hx hxb
    rw [inA_iff hb hx, if_neg e2] at hxb
    rw [inA_iff ha hx, if_neg e1]
    obtain ⟨x1, x2⟩ := hx
    simp only at hxb ⊢
    split at hxb <;> split <;> omega
  · intro h
    have hf := h f' ⟨h5, h6⟩ hself
    rw [inA_iff ha ⟨h5, h6⟩, if_neg e1] at hf
    -- the last point of b
    obtain ⟨y, hy, hyx⟩ : ∃ y, Pt64 y ∧ (y = t' - 1 ∨ (t' = 0 ∧ y = 18446744073709551615)) := by
      by_cases h0 : t' = 0
      · exact ⟨18446744073709551615, ⟨by decide, by decide⟩, .inr ⟨h0, rfl⟩⟩
      · exact ⟨t' - 1, ⟨by omega, by omega⟩, .inl rfl⟩
    have hyb : inA ⟨f', t'⟩ y = true := by
      rw [inA_iff hb hy, if_neg e2]
      obtain ⟨y1, y2⟩ := hy
      simp only
      split <;> omega
    have hya := h y hy hyb
    rw [inA_iff ha hy, if_neg e1] at hya
    obtain ⟨y1, y2⟩ := hy
    simp only at hf hya
    -- a.t is not in b, unless it is its end
    have ht : ¬ inA ⟨f', t'⟩ t = true := fun hx => by
      have := h t ⟨h3, h4⟩ hx
      rw [inA_iff ha ⟨h3, h4⟩, if_neg e1] at this
      simp only at this
      split at this <;> omega
    rw [inA_iff hb ⟨h3, h4⟩, if_neg e2] at ht
    simp only at ht
    split at hf <;> split at hya <;> split at ht <;> omega

set_option maxRecDepth 100000 in
set_option maxHeartbeats 16000000 in
theorem within_any (a b : Arc) (w : World) : Calls Tryz.prog 22 #[.agg #[.int .u64 a.f, .int .u64 a.t], .agg #[.int .u64 b.f, .int .u64 b.t]] w fun e w' => e = .returned (.bool (withinA a b)) ∧ Mod NoB w w' := by
  by_cases e1 : a.f = a.t
  · have HV : Hid (withinA a b = true) := Lib.hid (by unfold withinA; rw [if_pos e1])
    have h1 : (a.f == a.t) = true := by simpa using e1
    clear e1
    go_enter Tryz.func22, Tryz.ntmps22
    go_wp2_with fail
    refine (whole_any a _).mono ?_
    rintro e w1 ⟨rfl, hm1⟩
    rw [h1]
    have HM1 := Lib.hid hm1
    clear hm1
    go_wp2_with fail
    go_ret
    exact ⟨by rw [HV.out]; rfl, Mod.trans (by repeat (first | exact Mod.refl _ _ | refine Mod.alloc ?_ _ | refine Mod.drew ?_)) HM1.out⟩
  by_cases e2 : b.f = b.t
  · have HV : Hid (withinA a b = false) := Lib.hid (by unfold withinA; rw [if_neg e1, if_pos e2])
    have h1 : (a.f == a.t) = false := by simpa using e1
    have h2 : (b.f == b.t) = true := by simpa using e2
    clear e1 e2
    go_enter Tryz.func22, Tryz.ntmps22
    go_wp2_with fail
    refine (whole_any a _).mono ?_
    rintro e w1 ⟨rfl, hm1⟩
    rw [h1]
    have hm1' := Mod.trans (S := NoB) (a := w) (by repeat (first | exact Mod.refl _ _ | refine Mod.alloc ?_ _ | refine Mod.drew ?_)) hm1
    have y0 := hm1.cellS (cell_of (heap_two w (.cells #[.int .u64 a.f, .int .u64 a.t] 25) (.cells #[.int .u64 b.f, .int .u64 b.t] 25)) 0 (v := .int .u64 b.f) rfl)
    have y1 := hm1.cellS (cell_of (heap_two w (.cells #[.int .u64 a.f, .int .u64 a.t] 25) (.cells #[.int .u64 b.f, .int .u64 b.t] 25)) 1 (v := .int .u64 b.t) rfl)
    have HM1 := Lib.hid hm1'
    clear hm1 hm1'
    go_wp2_with fail
    refine (whole_any b _).mono ?_
    rintro e w2 ⟨rfl, hm2⟩
    rw [h2]
    have HM2 := Lib.hid hm2
    clear hm2
    go_wp2_with fail
    go_ret
    exact ⟨by rw [HV.out]; rfl, HM1.out.trans HM2.out⟩
  have h1 : (a.f == a.t) = false := by simpa using e1
  have h2 : (b.f == b.t) = false := by simpa using e2
  obtain ⟨X, hX⟩ : ∃ X, X = IntKind.u64.wrap (b.f - a.f) := ⟨_, rfl⟩
  obtain ⟨Y, hY⟩ : ∃ Y, Y = (a.t - a.f) % 18446744073709551616 := ⟨_, rfl⟩
  obtain ⟨Z, hZ⟩ : ∃ Z, Z = (b.t - b.f) % 18446744073709551616 := ⟨_, rfl⟩
  obtain ⟨V, hV⟩ : ∃ V, V = IntKind.u64.wrap (Y - X) := ⟨_, rfl⟩
  have HVV : Hid (withinA a b = (decide (X < Y) && decide (Z ≤ V))) := Lib.hid (by unfold withinA; rw [if_neg e1, if_neg e2, hV, hX, hY, hZ, IntKind.wrap_u64, IntKind.wrap_u64])
  have rX := hX.symm; have rY := hY.symm; have rZ := hZ.symm; have rV := hV.symm
  clear hX hY hZ hV
  clear e1 e2
  go_enter Tryz.func22, Tryz.ntmps22
  go_wp2_with fail
  refine (whole_any a _).mono ?_
  rintro e w1 ⟨rfl, hm1⟩
  rw [h1]
  obtain ⟨B0, hB0⟩ : ∃ B0, B0 = w.heap.size := ⟨_, rfl⟩
  have bA := ((hm1.block w.heap.size (by simp; omega) (fun x => x)).trans ((Below.heap_alloc _ _ _ (by simp)).trans (heap_alloc_new w (.cells #[.int .u64 a.f, .int .u64 a.t] 25))))
  have bB := ((hm1.block (w.heap.size + 1) (by simp) (fun x => x)).trans (heap_two w (.cells #[.int .u64 a.f, .int .u64 a.t] 25) (.cells #[.int .u64 b.f, .int .u64 b.t] 25)))
  have hm1' := Mod.trans (S := NoB) (a := w) (by repeat (first | exact Mod.refl _ _ | refine Mod.alloc ?_ _ | refine Mod.drew ?_)) hm1
  rw [← hB0] at bA bB ⊢
  have y0 := cell_of bB 0 (v := .int .u64 b.f) rfl
  have y1 := cell_of bB 1 (v := .int .u64 b.t) rfl
  have HA := Lib.hid bA; have HB := Lib.hid bB; have HM1 := Lib.hid hm1'
  clear hm1 hm1' bA bB hB0
  go_wp2_with fail
  refine (whole_any b _).mono ?_
  rintro e w3 ⟨rfl, hm3⟩
  rw [h2]
  have bA3 := (hm3.block B0 (Array.getElem?_eq_some_iff.1 HA.out).1 (fun x => x)).trans HA.out
  have bB3 := (hm3.block (B0 + 1) (Array.getElem?_eq_some_iff.1 HB.out).1 (fun x => x)).trans HB.out
  have KEEP : Hid (∀ W, Mod NoB w3 W → (W.cell? ⟨B0, 0, none⟩ = some (.int .u64 a.f) ∧ W.cell? ⟨B0, 1, none⟩ = some (.int .u64 a.t) ∧ W.cell? ⟨B0 + 1, 0, none⟩ = some (.int .u64 b.f) ∧ W.cell? ⟨B0 + 1, 1, none⟩ = some (.int .u64 b.t))) := Lib.hid (fun W hm => ⟨hm.cellS (cell_of bA3 0 rfl), hm.cellS (cell_of bA3 1 rfl), hm.cellS (cell_of bB3 0 rfl), hm.cellS (cell_of bB3 1 rfl)⟩)
  have z0 := cell_of bA3 0 (v := .int .u64 a.f) rfl
  have z1 := cell_of bB3 0 (v := .int .u64 b.f) rfl
  have HM3 := Lib.hid (HM1.out.trans hm3)
  clear hm3 bA3 bB3 y0 y1 HA HB HM1
  go_wp2_with fail
  by_cases c1 : X < Y
  · by_cases c2 : Z ≤ V
    · have HV : Hid (withinA a b = true) := Lib.hid (by rw [HVV.out, decide_eq_true c1, decide_eq_true c2]; rfl)
      have d1 : decide (X < Y) = true := decide_eq_true c1
      have d2 : decide (Z ≤ V) = true := decide_eq_true c2
      go_region_held3 (fun W => W.cell? ⟨B0, 0, none⟩ = some (.int .u64 a.f) ∧ W.cell? ⟨B0, 1, none⟩ = some (.int .u64 a.t) ∧ W.cell? ⟨B0 + 1, 0, none⟩ = some (.int .u64 b.f) ∧ W.cell? ⟨B0 + 1, 1, none⟩ = some (.int .u64 b.t)) (exact KEEP.out _ (by repeat (first | exact M6.out | exact Mod.refl _ _ | refine Mod.alloc ?_ _ | refine Mod.drew ?_ | refine Mod.drewN ?_ _))) ((first | (go_simp; go_at_call 67; go_loud (first | (refine (size_any a _).mono ?_; rintro e w6 ⟨rfl, hm6⟩) | (refine (size_any b _).mono ?_; rintro e w6 ⟨rfl, hm6⟩)); have hm7 := Mod.trans (S := NoB) (a := w3) (by repeat (first | exact M6.out | exact Mod.refl _ _ | refine Mod.alloc ?_ _ | refine Mod.drew ?_ | refine Mod.drewN ?_ _)) hm6; obtain ⟨k0, k1, k2, k3⟩ := KEEP.out _ hm7; have M6 := Lib.hid hm7; clear hm6 hm7)))
      all_goals
        go_wp2_with fail
        go_ret
        exact ⟨by rw [HV.out]; rfl, HM3.out.trans (by repeat (first | exact M6.out | exact Mod.refl _ _ | refine Mod.alloc ?_ _ | refine Mod.drew ?_ | refine Mod.drewN ?_ _))⟩
    · have HV : Hid (withinA a b = false) := Lib.hid (by rw [HVV.out, decide_eq_true c1, decide_eq_false c2]; rfl)
      have d1 : decide (X < Y) = true := decide_eq_true c1
      have d2 : decide (Z ≤ V) = false := decide_eq_false c2
      clear c2
      go_region_held3 (fun W => W.cell? ⟨B0, 0, none⟩ = some (.int .u64 a.f) ∧ W.cell? ⟨B0, 1, none⟩ = some (.int .u64 a.t) ∧ W.cell? ⟨B0 + 1, 0, none⟩ = some (.int .u64 b.f) ∧ W.cell? ⟨B0 + 1, 1, none⟩ = some (.int .u64 b.t)) (exact KEEP.out _ (by repeat (first | exact M6.out | exact Mod.refl _ _ | refine Mod.alloc ?_ _ | refine Mod.drew ?_ | refine Mod.drewN ?_ _))) ((first | (go_simp; go_at_call 67; go_loud (first | (refine (size_any a _).mono ?_; rintro e w6 ⟨rfl, hm6⟩) | (refine (size_any b _).mono ?_; rintro e w6 ⟨rfl, hm6⟩)); have hm7 := Mod.trans (S := NoB) (a := w3) (by repeat (first | exact M6.out | exact Mod.refl _ _ | refine Mod.alloc ?_ _ | refine Mod.drew ?_ | refine Mod.drewN ?_ _)) hm6; obtain ⟨k0, k1, k2, k3⟩ := KEEP.out _ hm7; have M6 := Lib.hid hm7; clear hm6 hm7)))
      all_goals
        go_wp2_with fail
        go_ret
        exact ⟨by rw [HV.out]; rfl, HM3.out.trans (by repeat (first | exact M6.out | exact Mod.refl _ _ | refine Mod.alloc ?_ _ | refine Mod.drew ?_ | refine Mod.drewN ?_ _))⟩
  · have HV : Hid (withinA a b = false) := Lib.hid (by rw [HVV.out, decide_eq_false c1]; rfl)
    have d1 : decide (X < Y) = false := decide_eq_false c1
    clear c1
    have KK : Hid (∀ W, Mod NoB w3 W → (W.cell? ⟨B0, 0, none⟩ = some (.int .u64 a.f) ∧ W.cell? ⟨B0, 1, none⟩ = some (.int .u64 a.t))) := Lib.hid (fun W hm => ⟨(KEEP.out W hm).1, (KEEP.out W hm).2.1⟩)
    refine wp_region_held_drew (S := fun W => W.cell? ⟨B0, 0, none⟩ = some (.int .u64 a.f) ∧ W.cell? ⟨B0, 1, none⟩ = some (.int .u64 a.t)) (by kernel_rfl) (KK.out _ ((Mod.refl _ _).drew)) (fun hS => ?_)
    refine wpAnyH_take (i := 0) (v := .int .u64 X) rfl (by kernel_rfl) (by kernel_rfl) (by kernel_rfl) (fun _ _ _ h => h) (Or.inl ⟨by kernel_rfl, by intro _ _; kernel_rfl⟩) (by trivial) ?_
    try simp only [Act.put, List.getElem_toArray, List.getElem_cons_succ, List.getElem_cons_zero, List.setIfInBounds_toArray, List.set_cons_zero, List.set_cons_succ]
    obtain ⟨s0, s1⟩ := hS
    have hS := And.intro s0 s1
    refine wpAnyH_ready (rs := [1]) (by kernel_rfl) (by simp) ?_
    refine AllReadyH.cons rfl (fun K hK => ?_) AllReadyH.nil
    go_simp
    refine hK.out _ _ (by first | exact ⟨hS.1, hS.2⟩ | exact KK.out _ (by repeat (first | exact Mod.refl _ _ | refine Mod.alloc ?_ _ | refine Mod.drew ?_ | refine Mod.drewN ?_ _))) (fun hS => ?_)
    clear hK K
    try simp only [Act.put, List.getElem_toArray, List.getElem_cons_succ, List.getElem_cons_zero, List.setIfInBounds_toArray, List.set_cons_zero, List.set_cons_succ]
    refine wpAnyH_ready (rs := [2]) (by kernel_rfl) (by simp) ?_
    refine AllReadyH.cons rfl (fun K hK => ?_) AllReadyH.nil
    go_simp
    go_at_call 67; refine (size_at a _).mono ?_; rintro e w' ⟨rfl, rfl⟩
    go_wp2_with fail
    refine hK.out _ _ (by first | exact ⟨hS.1, hS.2⟩ | exact KK.out _ (by repeat (first | exact Mod.refl _ _ | refine Mod.alloc ?_ _ | refine Mod.drew ?_ | refine Mod.drewN ?_ _))) (fun hS => ?_)
    clear hK K
    try simp only [Act.put, List.getElem_toArray, List.getElem_cons_succ, List.getElem_cons_zero, List.setIfInBounds_toArray, List.set_cons_zero, List.set_cons_succ]
    refine wpAnyH_ready (rs := [3]) (by kernel_rfl) (by simp) ?_
    refine AllReadyH.cons rfl (fun K hK => ?_) AllReadyH.nil
    go_simp
    refine hK.out _ _ (by first | exact ⟨hS.1, hS.2⟩ | exact KK.out _ (by repeat (first | exact Mod.refl _ _ | refine Mod.alloc ?_ _ | refine Mod.drew ?_ | refine Mod.drewN ?_ _))) (fun hS => ?_)
    clear hK K
    try simp only [Act.put, List.getElem_toArray, List.getElem_cons_succ, List.getElem_cons_zero, List.setIfInBounds_toArray, List.set_cons_zero, List.set_cons_succ]
    refine wpAnyH_take (i := 4) (v := .bool false) rfl (by kernel_rfl) (by kernel_rfl) (by kernel_rfl) (fun _ _ _ h => h) (Or.inl ⟨by kernel_rfl, by intro _ _; kernel_rfl⟩) (by trivial) ?_
    try simp only [Act.put, List.getElem_toArray, List.getElem_cons_succ, List.getElem_cons_zero, List.setIfInBounds_toArray, List.set_cons_zero, List.set_cons_succ]
    refine wpAnyH_take (i := 5) (v := undef) rfl (by kernel_rfl) (by kernel_rfl) (by kernel_rfl) (fun _ _ _ h => h) (Or.inr ⟨by kernel_rfl, rfl⟩) (by trivial) ?_
    try simp only [Act.put, List.getElem_toArray, List.getElem_cons_succ, List.getElem_cons_zero, List.setIfInBounds_toArray, List.set_cons_zero, List.set_cons_succ]
    refine wpAnyH_take (i := 6) (v := undef) rfl (by kernel_rfl) (by kernel_rfl) (by kernel_rfl) (fun _ _ _ h => h) (Or.inr ⟨by kernel_rfl, rfl⟩) (by trivial) ?_
    try simp only [Act.put, List.getElem_toArray, List.getElem_cons_succ, List.getElem_cons_zero, List.setIfInBounds_toArray, List.set_cons_zero, List.set_cons_succ]
    refine wpAnyH_take (i := 7) (v := undef) rfl (by kernel_rfl) (by kernel_rfl) (by kernel_rfl) (fun _ _ _ h => h) (Or.inr ⟨by kernel_rfl, rfl⟩) (by trivial) ?_
    try simp only [Act.put, List.getElem_toArray, List.getElem_cons_succ, List.getElem_cons_zero, List.setIfInBounds_toArray, List.set_cons_zero, List.set_cons_succ]
    refine wpAnyH_take (i := 8) (v := undef) rfl (by kernel_rfl) (by kernel_rfl) (by kernel_rfl) (fun _ _ _ h => h) (Or.inr ⟨by kernel_rfl, rfl⟩) (by trivial) ?_
    try simp only [Act.put, List.getElem_toArray, List.getElem_cons_succ, List.getElem_cons_zero, List.setIfInBounds_toArray, List.set_cons_zero, List.set_cons_succ]
    refine wpAnyH_take (i := 9) (v := undef) rfl (by kernel_rfl) (by kernel_rfl) (by kernel_rfl) (fun _ _ _ h => h) (Or.inr ⟨by kernel_rfl, rfl⟩) (by trivial) ?_
    try simp only [Act.put, List.getElem_toArray, List.getElem_cons_succ, List.getElem_cons_zero, List.setIfInBounds_toArray, List.set_cons_zero, List.set_cons_succ]
    refine wpAnyH_take (i := 10) (v := undef) rfl (by kernel_rfl) (by kernel_rfl) (by kernel_rfl) (fun _ _ _ h => h) (Or.inr ⟨by kernel_rfl, rfl⟩) (by trivial) ?_
    try simp only [Act.put, List.getElem_toArray, List.getElem_cons_succ, List.getElem_cons_zero, List.setIfInBounds_toArray, List.set_cons_zero, List.set_cons_succ]
    refine wpAnyH_take (i := 11) (v := undef) rfl (by kernel_rfl) (by kernel_rfl) (by kernel_rfl) (fun _ _ _ h => h) (Or.inr ⟨by kernel_rfl, rfl⟩) (by trivial) ?_
    try simp only [Act.put, List.getElem_toArray, List.getElem_cons_succ, List.getElem_cons_zero, List.setIfInBounds_toArray, List.set_cons_zero, List.set_cons_succ]
    refine wpAnyH_take (i := 12) (v := .bool false) rfl (by kernel_rfl) (by kernel_rfl) (by kernel_rfl) (fun _ _ _ h => h) (Or.inl ⟨by kernel_rfl, by intro _ _; kernel_rfl⟩) (by trivial) ?_
    try simp only [Act.put, List.getElem_toArray, List.getElem_cons_succ, List.getElem_cons_zero, List.setIfInBounds_toArray, List.set_cons_zero, List.set_cons_succ]
    refine wpAnyH_take (i := 13) (v := .bool false) rfl (by kernel_rfl) (by kernel_rfl) (by kernel_rfl) (fun _ _ _ h => h) (Or.inl ⟨by kernel_rfl, by intro _ _; kernel_rfl⟩) (by trivial) ?_
    try simp only [Act.put, List.getElem_toArray, List.getElem_cons_succ, List.getElem_cons_zero, List.setIfInBounds_toArray, List.set_cons_zero, List.set_cons_succ]
    refine wpAnyH_done (by kernel_rfl) ?_ _
    go_wp2_with fail
    go_ret
    exact ⟨by rw [HV.out]; rfl, HM3.out.trans (by repeat (first | exact Mod.refl _ _ | refine Mod.alloc ?_ _ | refine Mod.drew ?_ | refine Mod.drewN ?_ _))⟩
end Go.Proofs.YtpcmbnbdppembaaGreatDoor
