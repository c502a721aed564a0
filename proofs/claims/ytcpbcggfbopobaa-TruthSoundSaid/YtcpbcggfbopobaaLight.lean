/- rosarylaw24: Light: what it lets in are at most 200 events. -/
import Derived.Test.YtcpbcggfbopobaaSeqRows
namespace Go.Proofs.Ytcpbcggfbopobaa
open Go.RowKit Go.Proofs

def LightRel (n : Nat) (w : World) (i : Value) (wr : World) : Prop := ∃ k : Nat, k ≤ n ∧ k ≤ 300 ∧ i = .int .i64 k ∧ w = wr

def LightPost (n : Nat) (w : World) (e : Ending) (w' : World) : Prop := ∃ b, e = .returned (.bool b) ∧ (b = true → n ≤ 200) ∧ w = w'

set_option maxRecDepth 100000 in
set_option maxHeartbeats 1000000 in
theorem light_any (l : List Ev) (v : Value) (w : World) (h : EvsAt w v l) (hl : l.length ≤ 9223372036854775807) :
    Calls Try.prog 13 #[v] w fun e w' => LightPost l.length w e w' := by
  obtain ⟨a, cap, rfl, hx⟩ := id h
  have HE := Lib.hid h; clear h
  clear hx
  go_enter Try.func13, Try.ntmps13
  go_wp2_with fail
  go_loop [3] (fun i => LightRel l.length w i w) (fun i => 300 - (intOf i).toNat)
  case atStart => exact ⟨0, Nat.zero_le _, by omega, rfl, rfl⟩
  case round =>
    obtain ⟨k, hk, hk2, rfl, _⟩ := hrel
    by_cases hlt : k < l.length ∧ k < 300
    · obtain ⟨hlt, h3⟩ := hlt
      have he : l[k]? = some l[k] := List.getElem?_eq_getElem hlt
      obtain ⟨b, o, cap', hv, hbl, c0, c1, c2, c3, c4, c5, c6, c7, c8, c9, c10, c11, c12, c13, c14⟩ := HE.out.at15 he
      generalize l[k] = e at *
      clear he c0 c1 c2 c3 c4 c8 c9 c10 c12 c13 c14
      simp only [Value.slice.injEq] at hv
      obtain ⟨rfl, _, rfl⟩ := hv
      go_wp2_with fail
      all_goals first
        | (go_ret; exact ⟨_, rfl, by simp, rfl⟩)
        | exact ⟨⟨k + 1, by omega, by omega, by go_num, rfl⟩, by simp [intOf]; omega⟩
    · by_cases hlt2 : k < l.length
      · have h3 : ¬ k < 300 := fun h => hlt ⟨hlt2, h⟩
        clear hlt
        go_wp2_with fail
        go_ret
        exact ⟨_, rfl, by simp; omega, rfl⟩
      · clear hlt
        go_wp2_with fail
        go_ret
        exact ⟨_, rfl, by simp; omega, rfl⟩
end Go.Proofs.Ytcpbcggfbopobaa
