/- (*hold.Hold).end: how far may be looked from a point on. -/
import Derived.Test.YtmagddchjidamaaGreatDoorHoldDo
import Derived.Deep.LoopGhost
namespace Go.Proofs.YtmagddchjidamaaGreatDoor
set_option linter.unusedSimpArgs false
set_option linter.unusedVariables false
open Go.RowKit Go.Shelf
attribute [local go_sem ↓] Go.wp_at_zero Go.wp_at_succ

/-- how far pieces go one behind the other -/
def endP (st : HSt) : Nat → Int → Int
  | 0, p => p
  | f + 1, p => match st.at p with
    | none => p
    | some o => if o.t = 0 then 0 else endP st f o.t
def endFuel (p : Int) : Nat := (18446744073709551616 - p).toNat
/-- what end tells -/
def endA (st : HSt) (x : Int) : Int :=
  let p := endP st (endFuel x) x
  if st.shut = true ∧ x < st.a.f ∧ (p = 0 ∨ st.a.f < p) then st.a.f else p

theorem at_in {st : HSt} {x : Int} {o : Ow} (h : st.at x = some o) : o ∈ st.own ∧ o.f ≤ x ∧ (o.t = 0 ∨ x < o.t) := by
  unfold HSt.at at h
  have h1 := List.mem_of_find?_eq_some h
  have h2 := List.find?_some h
  exact ⟨h1, hasP_iff.1 h2⟩

set_option maxRecDepth 100000 in
set_option maxHeartbeats 8000000 in
theorem end_any {w : World} {h : Nat} {st : HSt} {tr : Option Tree} {n : Nat} {B : List Nat} (hh : HoldAt w h st tr n B) (x : Int) (hx : Pt64 x) (hown : ∀ o ∈ st.own, Pt64 o.t) (ha : Pt64 st.a.f) (hlen : st.own.length ≤ 1000000) :
    Calls Tryz.prog 69 #[.pointer (some ⟨h, 0, none⟩), .int .u64 x] w fun e w' => e = .returned (.int .u64 (endA st x)) ∧ Mod NoB w w' := by
  have HH := Lib.hid hh
  have HOWN := Lib.hid hown
  clear hh hown
  go_enter Tryz.func69, Tryz.ntmps69
  go_wp2_with fail
  go_step3
  go_wp2_with fail
  go_step3
  go_wp2_with fail
  go_loopw [5] (fun v wr => ∃ (f : Nat) (p : Int), v = .int .u64 p ∧ Pt64 p ∧ endFuel p ≤ f ∧ endP st f p = endP st (endFuel x) x ∧ Mod NoB w wr) (fun v _ => endFuel (intOf v))
  case atStart => exact ⟨_, x, rfl, hx, Nat.le_refl _, rfl, Mod.refl _ _⟩
  case round =>
    obtain ⟨f, p, rfl, hp, hf, he, hm⟩ := hrel
    have HM := Lib.hid hm; have HE := Lib.hid he; have HF := Lib.hid hf
    clear hm he hf
    go_wp2_with fail
    refine (at_any (HH.out.mod HM.out (fun _ _ e => e)) p).mono ?_
    rintro e w2 ⟨rfl, hm2⟩
    have HM2 := Lib.hid (HM.out.trans hm2)
    clear hm2
    cases hat : st.at p with
    | none =>
      have HPF : Hid (p = endP st (endFuel x) x) := Lib.hid (by
        rw [← HE.out]
        cases f with
        | zero => rfl
        | succ f => simp only [endP, hat])
      simp only [atRes]
      cases hs : st.shut with
      | false =>
        have HRES : Hid (endA st x = p) := Lib.hid (by unfold endA; rw [← HPF.out]; exact if_neg (fun e => by rw [hs] at e; cases e.1))
        go_wp2_with (go_at_call 48; refine (garc_any (HH.out.mod (HM2.out.trans (by repeat (first | exact Mod.refl _ _ | refine Mod.alloc ?_ _ | refine Mod.drew ?_))) (fun _ _ e => e))).mono ?_; rintro e w3 ⟨rfl, hm3⟩; rw [hs]; have HM3 := Lib.hid (HM2.out.trans (show Mod NoB w2 w3 from Mod.trans (by repeat (first | exact Mod.refl _ _ | refine Mod.alloc ?_ _ | refine Mod.drew ?_)) hm3)); clear hm3)
        all_goals (try (exfalso; omega))
        try rw [Exit.noGoto_ret]
        go_ret
        exact ⟨by rw [HRES.out]; rfl, HM3.out.trans (by repeat (first | exact Mod.refl _ _ | refine Mod.alloc ?_ _ | refine Mod.drew ?_))⟩
      | true =>
        by_cases h1 : x < st.a.f
        · by_cases h2 : p = 0
          · have HRES : Hid (endA st x = st.a.f) := Lib.hid (by unfold endA; rw [← HPF.out]; exact if_pos ⟨hs, h1, .inl h2⟩)
            go_wp2_with (go_at_call 48; refine (garc_any (HH.out.mod (HM2.out.trans (by repeat (first | exact Mod.refl _ _ | refine Mod.alloc ?_ _ | refine Mod.drew ?_))) (fun _ _ e => e))).mono ?_; rintro e w3 ⟨rfl, hm3⟩; rw [hs]; have HM3 := Lib.hid (HM2.out.trans (show Mod NoB w2 w3 from Mod.trans (by repeat (first | exact Mod.refl _ _ | refine Mod.alloc ?_ _ | refine Mod.drew ?_)) hm3)); clear hm3)
            all_goals (try (exfalso; omega))
            try rw [Exit.noGoto_ret]
            go_ret
            exact ⟨by rw [HRES.out]; rfl, HM3.out.trans (by repeat (first | exact Mod.refl _ _ | refine Mod.alloc ?_ _ | refine Mod.drew ?_))⟩
          · have h2b : ((p : Int) == 0) = false := beq_false_of_ne h2
            by_cases h3 : st.a.f < p
            · have HRES : Hid (endA st x = st.a.f) := Lib.hid (by unfold endA; rw [← HPF.out]; exact if_pos ⟨hs, h1, .inr h3⟩)
              go_wp2_with (go_at_call 48; refine (garc_any (HH.out.mod (HM2.out.trans (by repeat (first | exact Mod.refl _ _ | refine Mod.alloc ?_ _ | refine Mod.drew ?_))) (fun _ _ e => e))).mono ?_; rintro e w3 ⟨rfl, hm3⟩; rw [hs]; have HM3 := Lib.hid (HM2.out.trans (show Mod NoB w2 w3 from Mod.trans (by repeat (first | exact Mod.refl _ _ | refine Mod.alloc ?_ _ | refine Mod.drew ?_)) hm3)); clear hm3)
              all_goals (try (exfalso; omega))
              try rw [Exit.noGoto_ret]
              go_ret
              exact ⟨by rw [HRES.out]; rfl, HM3.out.trans (by repeat (first | exact Mod.refl _ _ | refine Mod.alloc ?_ _ | refine Mod.drew ?_))⟩
            · have HRES : Hid (endA st x = p) := Lib.hid (by unfold endA; rw [← HPF.out]; exact if_neg (fun e => e.2.2.elim h2 h3))
              go_wp2_with (go_at_call 48; refine (garc_any (HH.out.mod (HM2.out.trans (by repeat (first | exact Mod.refl _ _ | refine Mod.alloc ?_ _ | refine Mod.drew ?_))) (fun _ _ e => e))).mono ?_; rintro e w3 ⟨rfl, hm3⟩; rw [hs]; have HM3 := Lib.hid (HM2.out.trans (show Mod NoB w2 w3 from Mod.trans (by repeat (first | exact Mod.refl _ _ | refine Mod.alloc ?_ _ | refine Mod.drew ?_)) hm3)); clear hm3)
              all_goals (try (exfalso; omega))
              try rw [Exit.noGoto_ret]
              go_ret
              exact ⟨by rw [HRES.out]; rfl, HM3.out.trans (by repeat (first | exact Mod.refl _ _ | refine Mod.alloc ?_ _ | refine Mod.drew ?_))⟩
        · have HRES : Hid (endA st x = p) := Lib.hid (by unfold endA; rw [← HPF.out]; exact if_neg (fun e => h1 e.2.1))
          go_wp2_with (go_at_call 48; refine (garc_any (HH.out.mod (HM2.out.trans (by repeat (first | exact Mod.refl _ _ | refine Mod.alloc ?_ _ | refine Mod.drew ?_))) (fun _ _ e => e))).mono ?_; rintro e w3 ⟨rfl, hm3⟩; rw [hs]; have HM3 := Lib.hid (HM2.out.trans (show Mod NoB w2 w3 from Mod.trans (by repeat (first | exact Mod.refl _ _ | refine Mod.alloc ?_ _ | refine Mod.drew ?_)) hm3)); clear hm3)
          all_goals (try (exfalso; omega))
          try rw [Exit.noGoto_ret]
          go_ret
          exact ⟨by rw [HRES.out]; rfl, HM3.out.trans (by repeat (first | exact Mod.refl _ _ | refine Mod.alloc ?_ _ | refine Mod.drew ?_))⟩
    | some o =>
      obtain ⟨o1, o2, o3⟩ := at_in hat
      have ho := HOWN.out o o1
      obtain ⟨f', rfl⟩ : ∃ f', f = f' + 1 := ⟨f - 1, by have := HF.out; unfold endFuel at this; unfold Pt64 at hp; omega⟩
      simp only [atRes]
      by_cases ht : o.t = 0
      · have HPF : Hid ((0 : Int) = endP st (endFuel x) x) := Lib.hid (by
          rw [← HE.out]
          simp only [endP, hat, ht, if_true])
        cases hs : st.shut with
        | false =>
          have HRES : Hid (endA st x = (0 : Int)) := Lib.hid (by unfold endA; rw [← HPF.out]; exact if_neg (fun e => by rw [hs] at e; cases e.1))
          go_wp2_with (go_at_call 48; refine (garc_any (HH.out.mod (HM2.out.trans (by repeat (first | exact Mod.refl _ _ | refine Mod.alloc ?_ _ | refine Mod.drew ?_))) (fun _ _ e => e))).mono ?_; rintro e w3 ⟨rfl, hm3⟩; rw [hs]; have HM3 := Lib.hid (HM2.out.trans (show Mod NoB w2 w3 from Mod.trans (by repeat (first | exact Mod.refl _ _ | refine Mod.alloc ?_ _ | refine Mod.drew ?_)) hm3)); clear hm3)
          all_goals (try (exfalso; omega))
          try rw [Exit.noGoto_ret]
          go_ret
          exact ⟨by rw [HRES.out]; rfl, HM3.out.trans (by repeat (first | exact Mod.refl _ _ | refine Mod.alloc ?_ _ | refine Mod.drew ?_))⟩
        | true =>
          by_cases h1 : x < st.a.f
          · by_cases h2 : (0 : Int) = 0
            · have HRES : Hid (endA st x = st.a.f) := Lib.hid (by unfold endA; rw [← HPF.out]; exact if_pos ⟨hs, h1, .inl h2⟩)
              go_wp2_with (go_at_call 48; refine (garc_any (HH.out.mod (HM2.out.trans (by repeat (first | exact Mod.refl _ _ | refine Mod.alloc ?_ _ | refine Mod.drew ?_))) (fun _ _ e => e))).mono ?_; rintro e w3 ⟨rfl, hm3⟩; rw [hs]; have HM3 := Lib.hid (HM2.out.trans (show Mod NoB w2 w3 from Mod.trans (by repeat (first | exact Mod.refl _ _ | refine Mod.alloc ?_ _ | refine Mod.drew ?_)) hm3)); clear hm3)
              all_goals (try (exfalso; omega))
              try rw [Exit.noGoto_ret]
              go_ret
              exact ⟨by rw [HRES.out]; rfl, HM3.out.trans (by repeat (first | exact Mod.refl _ _ | refine Mod.alloc ?_ _ | refine Mod.drew ?_))⟩
            · exact absurd rfl h2
          · have HRES : Hid (endA st x = (0 : Int)) := Lib.hid (by unfold endA; rw [← HPF.out]; exact if_neg (fun e => h1 e.2.1))
            go_wp2_with (go_at_call 48; refine (garc_any (HH.out.mod (HM2.out.trans (by repeat (first | exact Mod.refl _ _ | refine Mod.alloc ?_ _ | refine Mod.drew ?_))) (fun _ _ e => e))).mono ?_; rintro e w3 ⟨rfl, hm3⟩; rw [hs]; have HM3 := Lib.hid (HM2.out.trans (show Mod NoB w2 w3 from Mod.trans (by repeat (first | exact Mod.refl _ _ | refine Mod.alloc ?_ _ | refine Mod.drew ?_)) hm3)); clear hm3)
            all_goals (try (exfalso; omega))
            try rw [Exit.noGoto_ret]
            go_ret
            exact ⟨by rw [HRES.out]; rfl, HM3.out.trans (by repeat (first | exact Mod.refl _ _ | refine Mod.alloc ?_ _ | refine Mod.drew ?_))⟩
      · have he2 : endP st f' o.t = endP st (endFuel x) x := by
          rw [← HE.out]
          simp only [endP, hat, ht, if_false]
        have HE2 := Lib.hid he2
        clear he2
        go_wp2_with fail
        go_roundw
        case rel => exact ⟨f', o.t, rfl, ho, by have := HF.out; unfold endFuel at this ⊢; unfold Pt64 at *; omega, HE2.out, HM2.out.trans (by repeat (first | exact Mod.refl _ _ | refine Mod.alloc ?_ _ | refine Mod.drew ?_))⟩
        case measure => simp only [intOf]; unfold endFuel; unfold Pt64 at *; omega
end Go.Proofs.YtmagddchjidamaaGreatDoor
