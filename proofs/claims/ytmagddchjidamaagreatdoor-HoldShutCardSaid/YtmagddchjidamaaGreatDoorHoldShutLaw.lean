/- HoldShut: what is frozen is neither read nor written; for every input; no condition. -/
import Derived.Test.YtmagddchjidamaaGreatDoorRows
import Derived.Test.YtmagddchjidamaaGreatDoorTie
import Derived.Test.YtmagddchjidamaaGreatDoorCards
import Derived.Test.YtmagddchjidamaaGreatDoorFrame
import Derived.Test.YtmagddchjidamaaGreatDoorHoldShut
import Derived.Test.YtmagddchjidamaaGreatDoorArgsHold
import Derived.ProofKit
import Derived.OpenShut
import Derived.LaidMore
import Derived.Lay
import Derived.SevenTiedAt
import Derived.Stop.Joined
namespace Go.Proofs.YtmagddchjidamaaGreatDoor
set_option linter.unusedSimpArgs false
set_option linter.unusedVariables false
open Go.ChangeShapes Go.WideShapes Go.ChangeAt Go.RowKit Go.Proofs

set_option maxRecDepth 100000 in
theorem holdShut_lifted (os : Os) (started : os.Started) (H : Type) (enc : TypeId × Value → H) :
    ReturnsInHanded {} Tryz.checked os 6 .any (fun w args => (Rows.holdShutSpec.pre enc Tryz.prog Tryz.f6 Rows.holdShutRow.domain false w args ∧ laidMetH Tryz.prog Rows.holdShutRow.laid w) ∧ sizedMet enc Tryz.prog Tryz.f6 (OpenSpec.ofChange Rows.holdShutSpec) false w args)
      (Rows.holdShutSpec.post enc Tryz.prog Tryz.f6 false true false false) := by
  refine returnsInHanded_of_change_and (C := Tryz.checked) (X := fun w _ => laidMetH Tryz.prog Rows.holdShutRow.laid w) (fun _ _ _ hh h => h.of_heap hh) progOwn started (by kernel_rfl) Tryz.func6
    (ChangeSpec.witness_shaped (enc := enc) (C := Tryz.checked) (os := os) (X := fun w _ => laidMetH Tryz.prog Rows.holdShutRow.laid w) false (World.laidAll Tryz.prog os Rows.holdShutRow.laid) #[.slice none 0 0, .agg #[.int .u64 0, .int .u64 0], .string ⟨#[]⟩, .string ⟨#[]⟩] 8 (World.laidAll_os _ _ _)
      (World.shaped_of_ZipB (by kernel_rfl) (by kernel_rfl)) (by kernel_rfl) (by kernel_rfl) (by kernel_rfl)
      (by rw [MakeChecks.laidMetH_plain _ _ _ (by kernel_rfl)]; exact laidMet_laidAll _ (by kernel_rfl) (by kernel_rfl))) ?_
  intro W base args ds gs before hval hW _ _ _ _
  refine law_post (P := Tryz.prog) (B := 4) (fun ds h => ?_) rfl rfl (by kernel_rfl) (by kernel_rfl) progLaid hW ?_
  · match ds, h with
    | [_, _, _, _], _ => rfl
  · obtain ⟨p, q, hA, _⟩ := hW
    have hR := rdAll_of_trod (P := Tryz.prog) [.sl itmShp, arcShp, .s, .s] (by kernel_rfl) rfl (fun j t v h1 h2 => hval j t v (by simpa using h1) (by simpa using h2)) hA
    obtain ⟨l⟩ := args
    obtain ⟨v0, vs, rfl, h0, hR⟩ := hR
    obtain ⟨v1, vs, rfl, h1, hR⟩ := hR
    obtain ⟨v2, vs, rfl, h2, hR⟩ := hR
    obtain ⟨v3, vs, rfl, h3, hR⟩ := hR
    obtain rfl := hR
    obtain ⟨l, hl, hll⟩ := itsAt_of_rd h0
    obtain ⟨a, rfl, ha⟩ := rd_arc h1
    obtain ⟨k, rfl, hk⟩ := rd_str h2
    obtain ⟨v, rfl, hv⟩ := rd_str h3
    unfold maxLen at hk hv
    exact (shut_walk hl hll ha hk hv).mono fun _ _ ⟨he, hm⟩ => ⟨he, hm.below_self⟩

theorem holdShut_over : Rows.holdShutRow.holds Tryz.pinned (OpenSpec.ofChange Rows.holdShutSpec) :=
  OpenClaim.holds_of_wide 6 Tryz.f6 rfl rfl rfl rfl rfl rfl rfl ⟨rfl, rfl, rfl, rfl, rfl⟩ rfl rfl rfl rfl rfl (by kernel_rfl) Tryz.func6 (by kernel_rfl)
    (of_decide_eq_true (by kernel_rfl)) (by unfold Func.isWrapper; first | (rw [if_pos (by decide +kernel)]; kernel_rfl) | (rw [if_neg (by decide +kernel)]; exact ⟨rfl, rfl⟩))
    (fun os started H enc _ => holdShut_lifted os started H enc)

theorem holdShut_proved : Rows.HoldShutSaid := holdShut_over

theorem holdShut_card : Rows.HoldShutCardSaid :=
  Claim7.holds_tied_plain_at .later [] [.data, .pinned] true (true, "c7c110e04d7d8ceb5ec98da395b859d080d63254ea39ddadffe8b277b74f838b") false
    holdShut_over (fun _ h => by cases h) (by kernel_rfl) (fun _ h => by cases h) holdShut_row_tie rfl ⟨rfl, rfl⟩ (by kernel_rfl) rfl
    (fun f fn hf hfn => by
      obtain rfl : f = 6 := Option.some.inj ((show Tryz.prog.funcNamed "rosary/rosarylaw14.HoldShut" = some 6 by kernel_rfl).symm.trans hf) |>.symm
      obtain rfl : fn = Tryz.f6 := (Option.some.inj (Tryz.func6.symm.trans hfn)).symm
      exact ⟨by kernel_rfl, fun j t ht => by
        have hall : (Tryz.f6.params.toList.all fun t => Tryz.prog.wantsStandIn t == false) = true := by kernel_rfl
        have hm := Array.mem_of_getElem? ht
        exact beq_iff_eq.1 (List.all_eq_true.1 hall t (by simpa using hm))⟩)
    (by kernel_rfl)
end Go.Proofs.YtmagddchjidamaaGreatDoor
