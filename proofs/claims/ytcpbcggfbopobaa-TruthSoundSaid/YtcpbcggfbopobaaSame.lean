/- rosarybook: SameItems, SameTexts of two lists that are alike: true. -/
import Derived.Test.YtcpbcggfbopobaaSeqRows
import Derived.Deep.QuietTactic
import Derived.BigQuiet
namespace Go.Proofs.Ytcpbcggfbopobaa
open Go.RowKit Go.Proofs

theorem SlAt.at2 {w : World} {v : Value} {l : SMap} (h : ItemsAt w v l) {i : Nat} {x : ByteArray × ByteArray} (hi : l[i]? = some x) :
    ∃ b o cap, v = .slice (some ⟨b, o, none⟩) l.length cap ∧ w.cell? ⟨b, o + i * 2, none⟩ = some (.string x.1) ∧ w.cell? ⟨b, o + i * 2 + 1, none⟩ = some (.string x.2) := by
  obtain ⟨a, cap, hv, hx⟩ := h
  obtain ⟨b, o, rfl, hj⟩ := hx i x hi
  exact ⟨b, o, cap, hv, hj 0 _ rfl, hj 1 _ rfl⟩

theorem SlAt.at1 {w : World} {v : Value} {l : List ByteArray} (h : TextsAt w v l) {i : Nat} {x : ByteArray} (hi : l[i]? = some x) :
    ∃ b o cap, v = .slice (some ⟨b, o, none⟩) l.length cap ∧ w.cell? ⟨b, o + i, none⟩ = some (.string x) := by
  obtain ⟨a, cap, hv, hx⟩ := h
  obtain ⟨b, o, rfl, hj⟩ := hx i x hi
  have := hj 0 _ rfl
  rw [Nat.mul_one, Nat.add_zero] at this
  exact ⟨b, o, cap, hv, this⟩

def SameRel (n : Nat) (w : World) (i : Value) (wr : World) : Prop := ∃ k : Nat, k ≤ n ∧ i = .int .i64 k ∧ Mod NoB w wr

set_option maxHeartbeats 1000000 in
theorem sameItems_eq (xs : SMap) (v1 v2 : Value) (w : World) (h1 : ItemsAt w v1 xs) (h2 : ItemsAt w v2 xs) (hl : xs.length ≤ 1000000) :
    Calls Try.prog 15 #[v1, v2] w fun e w' => e = .returned (.bool true) ∧ Mod NoB w w' := by
  obtain ⟨a1, cap1, rfl, hx1⟩ := id h1
  obtain ⟨a2, cap2, rfl, hx2⟩ := id h2
  have H1 := Lib.hid h1; clear h1
  have H2 := Lib.hid h2; clear h2
  clear hx1 hx2
  go_enter Try.func15, Try.ntmps15
  go_wp2_with fail
  go_loopw [5] (fun i wr => SameRel xs.length w i wr) (fun i _ => xs.length - (intOf i).toNat)
  case atStart => exact ⟨0, Nat.zero_le _, rfl, Mod.refl _ _⟩
  case round =>
    obtain ⟨k, hk, rfl, hmod⟩ := hrel
    by_cases hlt : k < xs.length
    · have he : xs[k]? = some xs[k] := List.getElem?_eq_getElem hlt
      obtain ⟨b1, o1, c1, hv1, p0, p1⟩ := (H1.out.mod hmod).at2 he
      obtain ⟨b2, o2, c2, hv2, q0, q1⟩ := (H2.out.mod hmod).at2 he
      generalize xs[k] = x at *
      clear he
      simp only [Value.slice.injEq] at hv1 hv2
      obtain ⟨rfl, _, rfl⟩ := hv1
      obtain ⟨rfl, _, rfl⟩ := hv2
      go_wp2_with fail
      go_quiet (fail)
      go_wp2_with fail
      exact ⟨⟨k + 1, by omega, by go_num, hmod.drewN _⟩, by simp [intOf]; omega⟩
    · obtain rfl : k = xs.length := by omega
      go_wp2_with fail
      go_ret
      exact ⟨rfl, hmod⟩
set_option maxHeartbeats 1000000 in
theorem sameTexts_eq (xs : List ByteArray) (v1 v2 : Value) (w : World) (h1 : TextsAt w v1 xs) (h2 : TextsAt w v2 xs) (hl : xs.length ≤ 1000000) :
    Calls Try.prog 20 #[v1, v2] w fun e w' => e = .returned (.bool true) ∧ Mod NoB w w' := by
  obtain ⟨a1, cap1, rfl, hx1⟩ := id h1
  obtain ⟨a2, cap2, rfl, hx2⟩ := id h2
  have H1 := Lib.hid h1; clear h1
  have H2 := Lib.hid h2; clear h2
  clear hx1 hx2
  go_enter Try.func20, Try.ntmps20
  go_wp2_with fail
  go_loopw [5] (fun i wr => SameRel xs.length w i wr) (fun i _ => xs.length - (intOf i).toNat)
  case atStart => exact ⟨0, Nat.zero_le _, rfl, Mod.refl _ _⟩
  case round =>
    obtain ⟨k, hk, rfl, hmod⟩ := hrel
    by_cases hlt : k < xs.length
    · have he : xs[k]? = some xs[k] := List.getElem?_eq_getElem hlt
      obtain ⟨b1, o1, c1, hv1, p0⟩ := (H1.out.mod hmod).at1 he
      obtain ⟨b2, o2, c2, hv2, q0⟩ := (H2.out.mod hmod).at1 he
      generalize xs[k] = x at *
      clear he
      simp only [Value.slice.injEq] at hv1 hv2
      obtain ⟨rfl, _, rfl⟩ := hv1
      obtain ⟨rfl, _, rfl⟩ := hv2
      go_wp2_with fail
      go_quiet (fail)
      go_wp2_with fail
      exact ⟨⟨k + 1, by omega, by go_num, hmod.drewN _⟩, by simp [intOf]; omega⟩
    · obtain rfl : k = xs.length := by omega
      go_wp2_with fail
      go_ret
      exact ⟨rfl, hmod⟩
end Go.Proofs.Ytcpbcggfbopobaa
