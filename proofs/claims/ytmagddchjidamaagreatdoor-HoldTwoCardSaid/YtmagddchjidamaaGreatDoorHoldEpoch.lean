/- (*hold.Hold).Epoch. -/
import Derived.Test.YtmagddchjidamaaGreatDoorHoldLose
namespace Go.Proofs.YtmagddchjidamaaGreatDoor
set_option linter.unusedSimpArgs false
set_option linter.unusedVariables false
open Go.RowKit Go.Shelf

def epochTo (l : List Ow) : Int := l.foldl (fun m o => max m o.ep) 0

set_option maxRecDepth 100000 in
set_option maxHeartbeats 8000000 in
theorem epoch_any {w : World} {h : Nat} {st : HSt} {tr : Option Tree} {n : Nat} {B : List Nat} (hh : HoldAt w h st tr n B) (hlen : st.own.length ≤ 1000000) :
    Calls Tryz.prog 21 #[.pointer (some ⟨h, 0, none⟩)] w fun e w' => e = .returned (.int .i64 (epochTo st.own)) ∧ Mod NoB w w' := by
  obtain ⟨vo, vp, s, L, q1, q2, q3, q4, q5, q6⟩ := hh
  have c3 : w.cell? ⟨h, 3, none⟩ = some vo := cell_of q1 3 rfl
  have hvo := own_slAt (k := 4) (enc := encOw) (fun _ => rfl) q2
  have HVO := Lib.hid hvo
  obtain ⟨av, capv, hvs, _⟩ := hvo
  subst hvs
  obtain ⟨l, hl⟩ : ∃ l, l = st.own := ⟨_, rfl⟩
  rw [← hl] at hlen HVO c3 ⊢
  clear q1 q2 q3 q4 q5 q6 hl
  go_enter Tryz.func21, Tryz.ntmps21
  go_wp2_with fail
  go_loopw [3, 13] (fun e i wr => ∃ k : Nat, k ≤ l.length ∧ i = .int .i64 k ∧ e = .int .i64 (epochTo (l.take k)) ∧ Mod NoB w wr) (fun _ i _ => l.length - (intOf i).toNat)
  case atStart => exact ⟨0, Nat.zero_le _, rfl, rfl, Mod.refl _ _⟩
  case round =>
    obtain ⟨k, hk, rfl, rfl, hm⟩ := hrel
    have HM := Lib.hid hm
    obtain ⟨m, hm2⟩ : ∃ m, m = epochTo (l.take k) := ⟨_, rfl⟩
    rw [← hm2]
    have HE := Lib.hid hm2
    clear hm hm2
    by_cases hlt : k < l.length
    · have he : l[k]? = some l[k] := List.getElem?_eq_getElem hlt
      generalize l[k] = o at he
      obtain ⟨vb, vo, cap3, hv, hvlt, x0, x1, x2, x3⟩ := at4w HVO.out he
      simp only [Value.slice.injEq] at hv
      obtain ⟨rfl, _, rfl⟩ := hv
      have x0 := HM.out.cellS x0; have x1 := HM.out.cellS x1; have x2 := HM.out.cellS x2; have x3 := HM.out.cellS x3
      have HLT := Lib.hid hlt; have HE2 := Lib.hid he
      go_wp2_with fail
      go_roundw
      case rel =>
        refine ⟨k + 1, HLT.out, by go_num, ?_, HM.out.alloc _⟩
        rw [List.take_add_one, HE2.out]
        simp only [Option.toList_some, epochTo, List.foldl_append, List.foldl_cons, List.foldl_nil]
        rw [HE.out]
        rfl
      case measure => have := HLT.out; simp [intOf]; omega
    · obtain rfl : k = l.length := by omega
      rw [List.take_length] at HE
      go_wp2_with fail
      go_ret
      exact ⟨by rw [HE.out]; rfl, HM.out⟩
end Go.Proofs.YtmagddchjidamaaGreatDoor
