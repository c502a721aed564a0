/- HoldTwo: of two arcs that do not meet both are owned, and nothing between; for every input; no condition. -/
import Derived.Test.YtmagddchjidamaaGreatDoorRows
import Derived.Test.YtmagddchjidamaaGreatDoorTie
import Derived.Test.YtmagddchjidamaaGreatDoorCards
import Derived.Test.YtmagddchjidamaaGreatDoorFrame
import Derived.Test.YtmagddchjidamaaGreatDoorHoldTwoWalk
import Derived.ProofKit
import Derived.OpenShut
import Derived.LaidMore
import Derived.Lay
import Derived.SevenTiedAt
import Derived.Stop.Joined
namespace Go.Proofs.YtmagddchjidamaaGreatDoor
set_option linter.unusedSimpArgs false
set_option linter.unusedVariables false
open Go.ChangeShapes Go.WideShapes Go.ChangeAt Go.RowKit Go.Proofs

abbrev arcShp : Shp := .st [.i .u64, .i .u64]

theorem pt_of_wf {n : Int} (h : (Lit.int .u64 n).wf = true) : Pt64 n := by
  have h1 : IntKind.u64.min = 0 := by decide
  have h2 : IntKind.u64.max = 18446744073709551615 := by decide
  simp only [Lit.wf, h1, h2, Bool.and_eq_true, decide_eq_true_eq] at h
  unfold Pt64
  omega

theorem rd_arc {w : World} {v : Value} (h : RdV w arcShp v) : ∃ a : Arc, v = .agg #[.int .u64 a.f, .int .u64 a.t] ∧ a.ok := by
  unfold RdV at h
  obtain ⟨cs, rfl, h⟩ := h
  obtain ⟨c1, r1, e1, h1, h⟩ := rds_cons h
  obtain ⟨c2, r2, e2, h2, h⟩ := rds_cons h
  obtain rfl := rds_nil h
  obtain ⟨f, rfl, hf⟩ := rdc_int h1
  obtain ⟨t, rfl, ht⟩ := rdc_int h2
  refine ⟨⟨f, t⟩, ?_, pt_of_wf hf, pt_of_wf ht⟩
  congr 1
  apply Array.ext'
  rw [e1, e2]
  rfl

set_option maxRecDepth 100000 in
theorem holdTwo_lifted (os : Os) (started : os.Started) (H : Type) (enc : TypeId × Value → H) :
    ReturnsInHanded {} Tryz.checked os 5 .any (fun w args => (Rows.holdTwoSpec.pre enc Tryz.prog Tryz.f5 Rows.holdTwoRow.domain false w args ∧ laidMetH Tryz.prog Rows.holdTwoRow.laid w) ∧ sizedMet enc Tryz.prog Tryz.f5 (OpenSpec.ofChange Rows.holdTwoSpec) false w args)
      (Rows.holdTwoSpec.post enc Tryz.prog Tryz.f5 false true false false) := by
  refine returnsInHanded_of_change_and (C := Tryz.checked) (X := fun w _ => laidMetH Tryz.prog Rows.holdTwoRow.laid w) (fun _ _ _ hh h => h.of_heap hh) progOwn started (by kernel_rfl) Tryz.func5
    (ChangeSpec.witness_shaped (enc := enc) (C := Tryz.checked) (os := os) (X := fun w _ => laidMetH Tryz.prog Rows.holdTwoRow.laid w) false (World.laidAll Tryz.prog os Rows.holdTwoRow.laid) #[.agg #[.int .u64 0, .int .u64 0], .agg #[.int .u64 0, .int .u64 0], .int .u64 0] 8 (World.laidAll_os _ _ _)
      (World.shaped_of_ZipB (by kernel_rfl) (by kernel_rfl)) (by kernel_rfl) (by kernel_rfl) (by kernel_rfl)
      (by rw [MakeChecks.laidMetH_plain _ _ _ (by kernel_rfl)]; exact laidMet_laidAll _ (by kernel_rfl) (by kernel_rfl))) ?_
  intro W base args ds gs before hval hW _ _ _ _
  refine law_post (P := Tryz.prog) (B := 4) (fun ds h => ?_) rfl rfl (by kernel_rfl) (by kernel_rfl) progLaid hW ?_
  · match ds, h with
    | [_, _, _], _ => rfl
  · obtain ⟨p, q, hA, _⟩ := hW
    have hR := rdAll_of_trod (P := Tryz.prog) [arcShp, arcShp, .i .u64] (by kernel_rfl) rfl (fun j t v h1 h2 => hval j t v (by simpa using h1) (by simpa using h2)) hA
    obtain ⟨l⟩ := args
    obtain ⟨v0, vs, rfl, h0, hR⟩ := hR
    obtain ⟨v1, vs, rfl, h1, hR⟩ := hR
    obtain ⟨v2, vs, rfl, h2, hR⟩ := hR
    obtain rfl := hR
    obtain ⟨a, rfl, ha⟩ := rd_arc h0
    obtain ⟨b, rfl, hb⟩ := rd_arc h1
    obtain ⟨x, rfl, hx⟩ := rd_int h2
    exact (two_walk ha hb (pt_of_wf hx) W).mono fun _ _ ⟨he, hm⟩ => ⟨he, hm.below_self⟩

theorem holdTwo_over : Rows.holdTwoRow.holds Tryz.pinned (OpenSpec.ofChange Rows.holdTwoSpec) :=
  OpenClaim.holds_of_wide 5 Tryz.f5 rfl rfl rfl rfl rfl rfl rfl ⟨rfl, rfl, rfl, rfl, rfl⟩ rfl rfl rfl rfl rfl (by kernel_rfl) Tryz.func5 (by kernel_rfl)
    (of_decide_eq_true (by kernel_rfl)) (by unfold Func.isWrapper; first | (rw [if_pos (by decide +kernel)]; kernel_rfl) | (rw [if_neg (by decide +kernel)]; exact ⟨rfl, rfl⟩))
    (fun os started H enc _ => holdTwo_lifted os started H enc)

theorem holdTwo_proved : Rows.HoldTwoSaid := holdTwo_over

theorem holdTwo_card : Rows.HoldTwoCardSaid :=
  Claim7.holds_tied_plain_at .later [] [.data, .pinned] true (true, "c7c110e04d7d8ceb5ec98da395b859d080d63254ea39ddadffe8b277b74f838b") false
    holdTwo_over (fun _ h => by cases h) (by kernel_rfl) (fun _ h => by cases h) holdTwo_row_tie rfl ⟨rfl, rfl⟩ (by kernel_rfl) rfl
    (fun f fn hf hfn => by
      obtain rfl : f = 5 := Option.some.inj ((show Tryz.prog.funcNamed "rosary/rosarylaw14.HoldTwo" = some 5 by kernel_rfl).symm.trans hf) |>.symm
      obtain rfl : fn = Tryz.f5 := (Option.some.inj (Tryz.func5.symm.trans hfn)).symm
      exact ⟨by kernel_rfl, fun j t ht => by
        have hall : (Tryz.f5.params.toList.all fun t => Tryz.prog.wantsStandIn t == false) = true := by kernel_rfl
        have hm := Array.mem_of_getElem? ht
        exact beq_iff_eq.1 (List.all_eq_true.1 hall t (by simpa using hm))⟩)
    (by kernel_rfl)
end Go.Proofs.YtmagddchjidamaaGreatDoor
