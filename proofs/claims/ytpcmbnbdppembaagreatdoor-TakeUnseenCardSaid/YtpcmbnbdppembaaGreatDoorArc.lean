/- Package arc: In, Apart, Pieces; hold.has. -/
import Derived.Test.YtpcmbnbdppembaaGreatDoorKey
import Derived.Deep.RegionHeld3
namespace Go.Proofs.YtpcmbnbdppembaaGreatDoor
set_option linter.unusedSimpArgs false
set_option linter.unusedVariables false
open Go.RowKit

theorem whole_any (a : Arc) (w : World) : Calls Tryz.prog 66 #[.agg #[.int .u64 a.f, .int .u64 a.t]] w fun e w' => e = .returned (.bool (a.f == a.t)) ∧ Mod NoB w w' := by
  go_enter Tryz.func66, Tryz.ntmps66
  go_wp2
  all_goals (go_ret; exact ⟨by simp_all, (Mod.refl _ _).alloc _⟩)

theorem size_any (a : Arc) (w : World) : Calls Tryz.prog 67 #[.agg #[.int .u64 a.f, .int .u64 a.t]] w fun e w' => e = .returned (.int .u64 ((a.t - a.f) % 18446744073709551616)) ∧ Mod NoB w w' := by
  go_enter Tryz.func67, Tryz.ntmps67
  go_wp2
  all_goals (go_ret; exact ⟨rfl, (Mod.refl _ _).alloc _⟩)

theorem whole_at (a : Arc) (w : World) : Calls Tryz.prog 66 #[.agg #[.int .u64 a.f, .int .u64 a.t]] w fun e w' => e = .returned (.bool (a.f == a.t)) ∧ w' = w.alloc (.cells #[.int .u64 a.f, .int .u64 a.t] 25) := by
  go_enter Tryz.func66, Tryz.ntmps66
  go_wp2
  all_goals (go_ret; exact ⟨by simp_all, rfl⟩)

theorem size_at (a : Arc) (w : World) : Calls Tryz.prog 67 #[.agg #[.int .u64 a.f, .int .u64 a.t]] w fun e w' => e = .returned (.int .u64 ((a.t - a.f) % 18446744073709551616)) ∧ w' = w.alloc (.cells #[.int .u64 a.f, .int .u64 a.t] 25) := by
  go_enter Tryz.func67, Tryz.ntmps67
  go_wp2
  all_goals (go_ret; exact ⟨rfl, rfl⟩)

theorem whole_yes (a : Arc) (h : a.f = a.t) (w : World) : Calls Tryz.prog 66 #[.agg #[.int .u64 a.f, .int .u64 a.t]] w fun e w' => e = .returned (.bool true) ∧ w' = w.alloc (.cells #[.int .u64 a.f, .int .u64 a.t] 25) := by
  refine (whole_at a w).mono fun e w' hh => ?_
  rw [show (a.f == a.t) = true by simpa using h] at hh
  exact hh
theorem whole_no (a : Arc) (h : ¬ a.f = a.t) (w : World) : Calls Tryz.prog 66 #[.agg #[.int .u64 a.f, .int .u64 a.t]] w fun e w' => e = .returned (.bool false) ∧ w' = w.alloc (.cells #[.int .u64 a.f, .int .u64 a.t] 25) := by
  refine (whole_at a w).mono fun e w' hh => ?_
  rw [show (a.f == a.t) = false by simpa using h] at hh
  exact hh

set_option maxHeartbeats 4000000 in
theorem in_any (a : Arc) (x : Int) (w : World) : Calls Tryz.prog 139 #[.agg #[.int .u64 a.f, .int .u64 a.t], .int .u64 x] w fun e w' => e = .returned (.bool (inA a x)) ∧ Mod NoB w w' := by
  by_cases h : a.f = a.t
  · have HB := Lib.hid (show inA a x = true by simp [inA, h])
    have HQ := Lib.hid h
    clear h
    go_enter Tryz.func139, Tryz.ntmps139
    go_wp2_with fail
    refine wp_region_held_drew (S := fun _ => True) (by kernel_rfl) trivial (fun _ => ?_)
    refine wpAnyH_ready (rs := [0]) (by kernel_rfl) (by simp) ?_
    refine AllReadyH.cons rfl (fun K hK => ?_) AllReadyH.nil
    go_simp
    refine hK.out _ _ trivial (fun _ => ?_)
    clear hK K
    try simp only [Act.put, List.getElem_toArray, List.getElem_cons_succ, List.getElem_cons_zero, List.setIfInBounds_toArray, List.set_cons_zero, List.set_cons_succ]
    refine wpAnyH_ready (rs := [1]) (by kernel_rfl) (by simp) ?_
    refine AllReadyH.cons rfl (fun K hK => ?_) AllReadyH.nil
    go_simp
    go_at_call 66; refine (whole_yes a HQ.out _).mono ?_; rintro e w' ⟨rfl, rfl⟩
    go_wp2_with fail
    refine hK.out _ _ trivial (fun _ => ?_)
    clear hK K
    try simp only [Act.put, List.getElem_toArray, List.getElem_cons_succ, List.getElem_cons_zero, List.setIfInBounds_toArray, List.set_cons_zero, List.set_cons_succ]
    refine wpAnyH_take (i := 2) (v := .bool true) rfl (by kernel_rfl) (by kernel_rfl) (by kernel_rfl) (fun _ _ _ h => h) (Or.inl ⟨by kernel_rfl, by intro _ _; kernel_rfl⟩) trivial ?_
    try simp only [Act.put, List.getElem_toArray, List.getElem_cons_succ, List.getElem_cons_zero, List.setIfInBounds_toArray, List.set_cons_zero, List.set_cons_succ]
    refine wpAnyH_take (i := 3) (v := undef) rfl (by kernel_rfl) (by kernel_rfl) (by kernel_rfl) (fun _ _ _ h => h) (Or.inr ⟨by kernel_rfl, rfl⟩) trivial ?_
    try simp only [Act.put, List.getElem_toArray, List.getElem_cons_succ, List.getElem_cons_zero, List.setIfInBounds_toArray, List.set_cons_zero, List.set_cons_succ]
    refine wpAnyH_take (i := 4) (v := undef) rfl (by kernel_rfl) (by kernel_rfl) (by kernel_rfl) (fun _ _ _ h => h) (Or.inr ⟨by kernel_rfl, rfl⟩) trivial ?_
    try simp only [Act.put, List.getElem_toArray, List.getElem_cons_succ, List.getElem_cons_zero, List.setIfInBounds_toArray, List.set_cons_zero, List.set_cons_succ]
    refine wpAnyH_take (i := 5) (v := undef) rfl (by kernel_rfl) (by kernel_rfl) (by kernel_rfl) (fun _ _ _ h => h) (Or.inr ⟨by kernel_rfl, rfl⟩) trivial ?_
    try simp only [Act.put, List.getElem_toArray, List.getElem_cons_succ, List.getElem_cons_zero, List.setIfInBounds_toArray, List.set_cons_zero, List.set_cons_succ]
    refine wpAnyH_take (i := 6) (v := undef) rfl (by kernel_rfl) (by kernel_rfl) (by kernel_rfl) (fun _ _ _ h => h) (Or.inr ⟨by kernel_rfl, rfl⟩) trivial ?_
    try simp only [Act.put, List.getElem_toArray, List.getElem_cons_succ, List.getElem_cons_zero, List.setIfInBounds_toArray, List.set_cons_zero, List.set_cons_succ]
    refine wpAnyH_take (i := 7) (v := undef) rfl (by kernel_rfl) (by kernel_rfl) (by kernel_rfl) (fun _ _ _ h => h) (Or.inr ⟨by kernel_rfl, rfl⟩) trivial ?_
    try simp only [Act.put, List.getElem_toArray, List.getElem_cons_succ, List.getElem_cons_zero, List.setIfInBounds_toArray, List.set_cons_zero, List.set_cons_succ]
    refine wpAnyH_take (i := 8) (v := undef) rfl (by kernel_rfl) (by kernel_rfl) (by kernel_rfl) (fun _ _ _ h => h) (Or.inr ⟨by kernel_rfl, rfl⟩) trivial ?_
    try simp only [Act.put, List.getElem_toArray, List.getElem_cons_succ, List.getElem_cons_zero, List.setIfInBounds_toArray, List.set_cons_zero, List.set_cons_succ]
    refine wpAnyH_take (i := 9) (v := undef) rfl (by kernel_rfl) (by kernel_rfl) (by kernel_rfl) (fun _ _ _ h => h) (Or.inr ⟨by kernel_rfl, rfl⟩) trivial ?_
    try simp only [Act.put, List.getElem_toArray, List.getElem_cons_succ, List.getElem_cons_zero, List.setIfInBounds_toArray, List.set_cons_zero, List.set_cons_succ]
    refine wpAnyH_take (i := 10) (v := .bool true) rfl (by kernel_rfl) (by kernel_rfl) (by kernel_rfl) (fun _ _ _ h => h) (Or.inl ⟨by kernel_rfl, by intro _ _; kernel_rfl⟩) trivial ?_
    try simp only [Act.put, List.getElem_toArray, List.getElem_cons_succ, List.getElem_cons_zero, List.setIfInBounds_toArray, List.set_cons_zero, List.set_cons_succ]
    refine wpAnyH_take (i := 11) (v := .bool true) rfl (by kernel_rfl) (by kernel_rfl) (by kernel_rfl) (fun _ _ _ h => h) (Or.inl ⟨by kernel_rfl, by intro _ _; kernel_rfl⟩) trivial ?_
    try simp only [Act.put, List.getElem_toArray, List.getElem_cons_succ, List.getElem_cons_zero, List.setIfInBounds_toArray, List.set_cons_zero, List.set_cons_succ]
    refine wpAnyH_done (by kernel_rfl) ?_ _
    go_wp2_with fail
    go_ret
    exact ⟨by rw [HB.out]; rfl, by first | exact ((Mod.refl _ _).alloc _).alloc _ | exact (((Mod.refl _ _).alloc _).alloc _).drew⟩
  · have HB := Lib.hid (show inA a x = decide ((x - a.f) % 18446744073709551616 < (a.t - a.f) % 18446744073709551616) by simp [inA, h])
    have HQ := Lib.hid h
    clear h
    go_enter Tryz.func139, Tryz.ntmps139
    go_wp2_with fail
    go_region_held3 (fun W => W.cell? ⟨w.heap.size, 0, none⟩ = some (.int .u64 a.f) ∧ W.cell? ⟨w.heap.size, 1, none⟩ = some (.int .u64 a.t)) (go_keep) ((first
      | (go_at_call 66; refine (whole_no a HQ.out _).mono ?_; rintro e w' ⟨rfl, rfl⟩)
      | (go_at_call 67; refine (size_at a _).mono ?_; rintro e w' ⟨rfl, rfl⟩)))
    go_wp2_with fail
    go_ret
    exact ⟨by rw [HB.out]; rfl, by first | exact (((Mod.refl _ _).alloc _).alloc _).alloc _ | exact ((((Mod.refl _ _).alloc _).alloc _).alloc _).drew⟩

set_option maxHeartbeats 4000000 in
theorem has_any (p : Arc) (x : Int) (w : World) : Calls Tryz.prog 157 #[.agg #[.int .u64 p.f, .int .u64 p.t], .int .u64 x] w fun e w' => e = .returned (.bool (hasP p x)) ∧ Mod NoB w w' := by
  go_enter Tryz.func157, Tryz.ntmps157
  go_wp2_with fail
  all_goals (go_ret; exact ⟨by first | (simp_all [hasP]; done) | (simp_all [hasP]; omega), (Mod.refl _ _).alloc _⟩)

abbrev encArc (p : Arc) : List Value := [.int .u64 p.f, .int .u64 p.t]

theorem slAt_new {α : Type} {k : Nat} {enc : α → List Value} (hk : ∀ x, (enc x).length = k) (W : World) (E : TypeId) (l : List α) (cap b : Nat) (hb : b = W.heap.size) :
    SlAt k enc (W.alloc (.cells (l.flatMap enc).toArray E)) (.slice (some ⟨b, 0, none⟩) l.length cap) l :=
  hb ▸ ⟨_, _, rfl, fun i x hi => ⟨_, _, rfl, fun j u hu => by
    have h1 := flat_cell hk l i x hi j u hu
    have := (MapKept.heap_alloc W (.cells (l.flatMap enc).toArray E)).1
    simp only [World.cell?, this, Nat.zero_add]
    simpa using h1⟩⟩

set_option maxHeartbeats 4000000 in
theorem pieces_at (a : Arc) (w : World) : Calls Tryz.prog 70 #[.agg #[.int .u64 a.f, .int .u64 a.t]] w fun e w' =>
    ∃ b, e = .returned (.slice (some ⟨b, 0, none⟩) (piecesA a).length (piecesA a).length) ∧ w.heap.size ≤ b ∧ SlAt 2 encArc w' (.slice (some ⟨b, 0, none⟩) (piecesA a).length (piecesA a).length) (piecesA a) ∧ Mod NoB w w' := by
  by_cases h : a.t = 0
  · have HP := Lib.hid (show piecesA a = [a] by simp [piecesA, h])
    have hq : (a.t == 0) = true := by simpa using h
    clear h
    go_enter Tryz.func70, Tryz.ntmps70
    go_wp2
    go_ret
    rw [HP.out]
    refine ⟨_, rfl, by omega, ?_, ((Mod.refl _ _).alloc _).alloc _⟩
    exact slAt_new (k := 2) (enc := encArc) (fun _ => rfl) _ _ [a] _ _ (by simp)
  · have hq : (a.t == 0) = false := by simpa using h
    by_cases h2 : a.f < a.t
    · have HP := Lib.hid (show piecesA a = [a] by simp [piecesA, h2])
      clear h
      go_enter Tryz.func70, Tryz.ntmps70
      go_wp2
      go_ret
      rw [HP.out]
      refine ⟨_, rfl, by omega, ?_, ((Mod.refl _ _).alloc _).alloc _⟩
      exact slAt_new (k := 2) (enc := encArc) (fun _ => rfl) _ _ [a] _ _ (by simp)
    · have HP := Lib.hid (show piecesA a = [⟨a.f, 0⟩, ⟨0, a.t⟩] by simp [piecesA, h2, h])
      clear h
      go_enter Tryz.func70, Tryz.ntmps70
      go_wp2
      go_ret
      rw [HP.out]
      refine ⟨_, rfl, by omega, ?_, ((Mod.refl _ _).alloc _).alloc _⟩
      exact slAt_new (k := 2) (enc := encArc) (fun _ => rfl) _ _ [⟨a.f, 0⟩, ⟨0, a.t⟩] _ _ (by simp)

def encTwo (p : Arc × Arc) : List Value := [.int .u64 p.1.f, .int .u64 p.1.t, .int .u64 p.2.f, .int .u64 p.2.t]

set_option maxHeartbeats 4000000 in
theorem apart_any (a b : Arc) (w : World) : Calls Tryz.prog 73 #[.agg #[.int .u64 a.f, .int .u64 a.t], .agg #[.int .u64 b.f, .int .u64 b.t]] w fun e w' => e = .returned (.bool (apartA a b)) ∧ Mod NoB w w' := by
  go_enter Tryz.func73, Tryz.ntmps73
  go_wp2_with fail
  go_step3
  go_wp2_with fail
  go_step3
  go_wp2_with fail
  have hap : ∀ r1 r2 : Bool, inA a b.f = r1 → inA b a.f = r2 → apartA a b = (!r1 && !r2) := by intro r1 r2 h1 h2; simp [apartA, h1, h2]
  have HAP := Lib.hid hap; clear hap
  obtain ⟨W1, hW1⟩ : ∃ W1, W1 = (((w.alloc (.cells #[.int .u64 a.f, .int .u64 a.t] 25)).alloc (.cells #[.int .u64 b.f, .int .u64 b.t] 25)).alloc (.cells #[.int .u64 a.f, .int .u64 a.t, .int .u64 b.f, .int .u64 b.t, .int .u64 b.f, .int .u64 b.t, .int .u64 a.f, .int .u64 a.t] 199)) := ⟨_, rfl⟩
  have M1 : Mod NoB w W1 := by rw [hW1]; exact (((Mod.refl _ _).alloc _).alloc _).alloc _
  have hs : SlAt 4 encTwo W1 (.slice (some ⟨w.heap.size + 2, 0, none⟩) 2 2) [(a, b), (b, a)] := by rw [hW1]; exact slAt_new (k := 4) (enc := encTwo) (fun _ => rfl) _ _ [(a, b), (b, a)] _ _ (by simp)
  have HS := Lib.hid hs; clear hs
  rw [← hW1]
  clear hW1
  generalize w.heap.size + 2 = B at *
  go_loopw [5, 16] (fun r i wr => ∃ j : Nat, j ≤ 2 ∧ i = .int .i64 j ∧ Mod NoB W1 wr ∧ r = .bool true ∧ (1 ≤ j → inA a b.f = false) ∧ (2 ≤ j → inA b a.f = false)) (fun _ i _ => 2 - (intOf i).toNat)
  case atStart => exact ⟨0, by omega, rfl, Mod.refl _ _, rfl, by omega, by omega⟩
  case round =>
    obtain ⟨j, hj, rfl, hm, rfl, h1, h2⟩ := hrel
    have HM := Lib.hid hm
    have H1 := Lib.hid h1
    have H2 := Lib.hid h2
    clear hm h1 h2
    by_cases hlt : j < 2
    · have hone : ∃ p q : Arc, [(a, b), (b, a)][j]? = some (p, q) := by
        match j, hlt with
        | 0, _ => exact ⟨a, b, rfl⟩
        | 1, _ => exact ⟨b, a, rfl⟩
      obtain ⟨p, q, he⟩ := hone
      obtain ⟨ad, cap, hv, hx⟩ := HS.out.mod HM.out
      obtain ⟨b', o', hb', hc⟩ := hx j _ he
      simp only [Value.slice.injEq] at hv
      obtain ⟨hv1, _, _⟩ := hv
      subst hv1
      simp only [Option.some.injEq, Addr.mk.injEq] at hb'
      obtain ⟨rfl, rfl, _⟩ := hb'
      have c0 := hc 0 _ rfl
      have c1 := hc 1 _ rfl
      have c2 := hc 2 _ rfl
      have c3 := hc 3 _ rfl
      simp only [encTwo, Nat.zero_add, Nat.add_zero] at c0 c1 c2 c3
      clear hc hx
      have HE := Lib.hid he
      clear he
      cases hr : inA p q.f with
      | false =>
        have HR := Lib.hid hr
        go_wp2_with (go_at_call 139; refine (in_any p q.f _).mono ?_; rintro e w2 ⟨rfl, hm2⟩; rw [hr]; have HM2 := Lib.hid hm2; clear hm2)
        refine ⟨⟨j + 1, by omega, by go_num, HM.out.trans (((Mod.refl _ _).alloc _).trans HM2.out), rfl, fun _ => ?_, fun _ => ?_⟩, by simp [intOf]; omega⟩
        · match j, hlt, HE.out with
          | 0, _, he => simp at he; obtain ⟨rfl, rfl⟩ := he; exact hr
          | 1, _, _ => exact H1.out (by omega)
        · match j, hlt, HE.out with
          | 1, _, he => simp at he; obtain ⟨rfl, rfl⟩ := he; exact hr
      | true =>
        go_wp2_with (go_at_call 139; refine (in_any p q.f _).mono ?_; rintro e w2 ⟨rfl, hm2⟩; rw [hr]; have HM2 := Lib.hid hm2; clear hm2)
        rw [Exit.noGoto_ret]
        go_ret
        refine ⟨?_, M1.trans (HM.out.trans (((Mod.refl _ _).alloc _).trans HM2.out))⟩
        have hfin : apartA a b = false := by
          match j, hlt, HE.out with
          | 0, _, he => simp at he; obtain ⟨rfl, rfl⟩ := he; simp [apartA, hr]
          | 1, _, he => simp at he; obtain ⟨rfl, rfl⟩ := he; simp [apartA, hr]
        rw [hfin]
        rfl
    · obtain rfl : j = 2 := by omega
      have hfin := HAP.out false false (H1.out (by omega)) (H2.out (by omega))
      have HF := Lib.hid hfin
      clear hfin
      go_wp2_with fail
      rw [Exit.noGoto_ret]
      go_ret
      exact ⟨by rw [HF.out]; rfl, M1.trans HM.out⟩
end Go.Proofs.YtpcmbnbdppembaaGreatDoor
