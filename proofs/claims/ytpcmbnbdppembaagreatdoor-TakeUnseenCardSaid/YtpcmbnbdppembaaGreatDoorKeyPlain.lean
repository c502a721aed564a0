/- Where a key lies on the ring, in plain Lean. -/
import Derived.Test.YtpcmbnbdppembaaGreatDoorHoldRows
import Derived.Laws.Bits64b
namespace Go.Proofs.YtpcmbnbdppembaaGreatDoor
set_option linter.unusedSimpArgs false
set_option linter.unusedVariables false

def byteAt (k : ByteArray) (i : Nat) : Nat := if h : i < k.size then k[i].toNat else 0
def addrTo (k : ByteArray) : Nat → Nat
  | 0 => 0
  | i + 1 => addrTo k i * 256 + byteAt k i
def addr (k : ByteArray) : Int := addrTo k 8

theorem byteAt_lt (k : ByteArray) (i : Nat) : byteAt k i < 256 := by
  unfold byteAt
  split
  · exact UInt8.toNat_lt _
  · decide

theorem addrTo_lt (k : ByteArray) : (i : Nat) → addrTo k i < 256 ^ i
  | 0 => by simp [addrTo]
  | i + 1 => by
    have h1 := addrTo_lt k i
    have h2 := byteAt_lt k i
    rw [addrTo, Nat.pow_succ]
    have : addrTo k i * 256 + 256 ≤ 256 ^ i * 256 := by
      rw [show addrTo k i * 256 + 256 = (addrTo k i + 1) * 256 by rw [Nat.add_mul, Nat.one_mul]]
      exact Nat.mul_le_mul_right _ h1
    omega

theorem addr_64 (k : ByteArray) : Pt64 (addr k) := by
  have := addrTo_lt k 8
  unfold addr Pt64
  constructor
  · omega
  · have h2 : (256 : Nat) ^ 8 = 18446744073709551616 := by decide
    omega

theorem or_byte (a b : Nat) (hb : b < 256) : a * 256 ||| b = a * 256 + b := by
  have := Nat.two_pow_add_eq_or_of_lt (i := 8) (b := b) hb a
  rw [Nat.mul_comm a 256]
  exact this.symm

theorem addr_step (k : ByteArray) (i : Nat) (hi : i < 8) : addrTo k i * 256 < 18446744073709551616 := by
  have h1 := addrTo_lt k (i + 1)
  rw [addrTo] at h1
  have h2 : (256 : Nat) ^ (i + 1) ≤ 256 ^ 8 := Nat.pow_le_pow_right (by decide) hi
  have h3 : (256 : Nat) ^ 8 = 18446744073709551616 := by decide
  rw [h3] at h2
  exact Nat.lt_of_le_of_lt (Nat.le_add_right _ _) (Nat.lt_of_lt_of_le h1 h2)
end Go.Proofs.YtpcmbnbdppembaaGreatDoor
