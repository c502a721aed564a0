/- Package key: Addr. -/
import Derived.Test.YtpcmbnbdppembaaGreatDoorKeyPlain
import Derived.Deep.QuietTactic
import Derived.BigQuiet
namespace Go.Proofs.YtpcmbnbdppembaaGreatDoor
set_option linter.unusedSimpArgs false
set_option linter.unusedVariables false
open Go.RowKit

set_option maxHeartbeats 1000000 in
theorem addr_any (k : ByteArray) (w : World) :
    Calls Tryz.prog 53 #[.string k] w fun e w' => e = .returned (.int .u64 (addr k)) ∧ w' = w := by
  go_enter Tryz.func53, Tryz.ntmps53
  go_wp2
  go_loop [3, 5] (fun a i => ∃ j : Nat, j ≤ 8 ∧ i = .int .i64 j ∧ a = .int .u64 (addrTo k j)) (fun _ i => 8 - (intOf i).toNat)
  case atStart => exact ⟨0, Nat.zero_le _, rfl, rfl⟩
  case round =>
    obtain ⟨j, hj, rfl, rfl⟩ := hrel
    by_cases hlt : j < 8
    · have hs := addr_step k j hlt
      by_cases hb : j < k.size
      · have HB : Hid (byteAt k j = k[j].toNat) := by unfold byteAt; rw [dif_pos hb]; trivial
        go_wp2
        refine ⟨⟨j + 1, by omega, by go_num, ?_⟩, by simp [intOf]; omega⟩
        have h2 := byteAt_lt k j
        rw [HB.out] at h2
        have e1 : IntKind.u64.wrap (k[j].toNat : Int) = ((k[j].toNat : Nat) : Int) := IntWalk.u64_in _ ⟨by omega, by omega⟩
        rw [e1, show ((addrTo k j : Nat) : Int) * 256 = ((addrTo k j * 256 : Nat) : Int) by omega, bits_or_u64_nat _ _ hs (by omega), or_byte _ _ h2, addrTo, HB.out]
      · have HB : Hid (byteAt k j = 0) := by unfold byteAt; rw [dif_neg hb]; trivial
        go_wp2
        refine ⟨⟨j + 1, by omega, by go_num, ?_⟩, by simp [intOf]; omega⟩
        rw [addrTo, HB.out, Nat.add_zero, Int.natCast_mul]
        rfl
    · obtain rfl : j = 8 := by omega
      go_wp2
      go_ret
      exact ⟨rfl, rfl⟩
end Go.Proofs.YtpcmbnbdppembaaGreatDoor
