/- rosarybook.SameItems of two lists that are alike: true (out of XSame); rosaryref1.Addr. -/
import Derived.Test.YtpcmbnbdppembaaGreatDoorSeqRows
import Derived.Test.YtpcmbnbdppembaaGreatDoorKey
import Derived.Deep.QuietTactic
import Derived.BigQuiet
namespace Go.Proofs.YtpcmbnbdppembaaGreatDoor
open Go.RowKit Go.Proofs

theorem SlAt.at2 {w : World} {v : Value} {l : SMap} (h : ItemsAt w v l) {i : Nat} {x : ByteArray × ByteArray} (hi : l[i]? = some x) :
    ∃ b o cap, v = .slice (some ⟨b, o, none⟩) l.length cap ∧ w.cell? ⟨b, o + i * 2, none⟩ = some (.string x.1) ∧ w.cell? ⟨b, o + i * 2 + 1, none⟩ = some (.string x.2) := by
  obtain ⟨a, cap, hv, hx⟩ := h
  obtain ⟨b, o, rfl, hj⟩ := hx i x hi
  exact ⟨b, o, cap, hv, hj 0 _ rfl, hj 1 _ rfl⟩

def SameRel (n : Nat) (w : World) (i : Value) (wr : World) : Prop := ∃ k : Nat, k ≤ n ∧ i = .int .i64 k ∧ Mod NoB w wr

set_option maxHeartbeats 1000000 in
theorem sameItems_eq (xs : SMap) (v1 v2 : Value) (w : World) (h1 : ItemsAt w v1 xs) (h2 : ItemsAt w v2 xs) (hl : xs.length ≤ 1000000) :
    Calls Tryz.prog 18 #[v1, v2] w fun e w' => e = .returned (.bool true) ∧ Mod NoB w w' := by
  obtain ⟨a1, cap1, rfl, hx1⟩ := id h1
  obtain ⟨a2, cap2, rfl, hx2⟩ := id h2
  have H1 := Lib.hid h1; clear h1
  have H2 := Lib.hid h2; clear h2
  clear hx1 hx2
  go_enter Tryz.func18, Tryz.ntmps18
  go_wp2_with fail
  go_loopw [5] (fun i wr => SameRel xs.length w i wr) (fun i _ => xs.length - (intOf i).toNat)
  case atStart => exact ⟨0, Nat.zero_le _, rfl, Mod.refl _ _⟩
  case round =>
    obtain ⟨k, hk, rfl, hmod⟩ := hrel
    by_cases hlt : k < xs.length
    · have he : xs[k]? = some xs[k] := List.getElem?_eq_getElem hlt
      obtain ⟨b1, o1, c1, hv1, p0, p1⟩ := (H1.out.mod hmod).at2 he
      obtain ⟨b2, o2, c2, hv2, q0, q1⟩ := (H2.out.mod hmod).at2 he
      generalize xs[k] = x at *
      clear he
      simp only [Value.slice.injEq] at hv1 hv2
      obtain ⟨rfl, _, rfl⟩ := hv1
      obtain ⟨rfl, _, rfl⟩ := hv2
      go_wp2_with fail
      go_quiet (fail)
      go_wp2_with fail
      exact ⟨⟨k + 1, by omega, by go_num, hmod.drewN _⟩, by simp [intOf]; omega⟩
    · obtain rfl : k = xs.length := by omega
      go_wp2_with fail
      go_ret
      exact ⟨rfl, hmod⟩

set_option maxHeartbeats 1000000 in
theorem raddr_any (k : ByteArray) (w : World) :
    Calls Tryz.prog 32 #[.string k] w fun e w' => e = .returned (.int .u64 (addr k)) ∧ w' = w := by
  go_enter Tryz.func32, Tryz.ntmps32
  go_wp2
  go_loop [3, 4] (fun a i => ∃ j : Nat, j ≤ 8 ∧ i = .int .i64 j ∧ a = .int .u64 (addrTo k j)) (fun _ i => 8 - (intOf i).toNat)
  case atStart => exact ⟨0, Nat.zero_le _, rfl, rfl⟩
  case round =>
    obtain ⟨j, hj, rfl, rfl⟩ := hrel
    by_cases hlt : j < 8
    · have hs := addr_step k j hlt
      have e3 : IntKind.u64.wrap (((addrTo k j : Nat) : Int) * 256) = ((addrTo k j : Nat) : Int) * 256 := IntWalk.u64_in _ ⟨by omega, by omega⟩
      by_cases hb : j < k.size
      · have HB : Hid (byteAt k j = k[j].toNat) := by unfold byteAt; rw [dif_pos hb]; trivial
        go_wp2
        refine ⟨⟨j + 1, by omega, by go_num, ?_⟩, by simp [intOf]; omega⟩
        have h2 := byteAt_lt k j
        have h3 := addrTo_lt k (j + 1)
        have h4 : 256 ^ (j + 1) ≤ 256 ^ 8 := Nat.pow_le_pow_right (by decide) (by omega)
        rw [addrTo] at h3 ⊢
        rw [HB.out] at h2 h3 ⊢
        rw [IntWalk.u64_in (k[j].toNat : Int) ⟨by omega, by omega⟩, IntWalk.u64_in _ ⟨by omega, by omega⟩]
        congr 1
      · have HB : Hid (byteAt k j = 0) := by unfold byteAt; rw [dif_neg hb]; trivial
        go_wp2
        refine ⟨⟨j + 1, by omega, by go_num, ?_⟩, by simp [intOf]; omega⟩
        rw [addrTo, HB.out, Nat.add_zero, Int.natCast_mul]
        rfl
    · obtain rfl : j = 8 := by omega
      go_wp2
      go_ret
      exact ⟨rfl, rfl⟩
end Go.Proofs.YtpcmbnbdppembaaGreatDoor
