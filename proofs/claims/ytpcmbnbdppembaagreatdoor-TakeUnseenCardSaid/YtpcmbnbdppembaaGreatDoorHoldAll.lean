/- (*hold.Hold).all of a hold that owns the whole ring as one piece. -/
import Derived.Test.YtpcmbnbdppembaaGreatDoorGate
import Derived.WalkMore
namespace Go.Proofs.YtpcmbnbdppembaaGreatDoor
set_option linter.unusedSimpArgs false
set_option linter.unusedVariables false
open Go.RowKit Go.Shelf

/-- the whole ring is owned, as one piece -/
def HSt.whole (st : HSt) (ep : Int) : Prop := st.own = [⟨0, 0, st.node, ep⟩] ∧ 0 ≤ ep

theorem HSt.whole_at {st : HSt} {ep : Int} (h : st.whole ep) {x : Int} (hx : 0 ≤ x) : st.at x = some ⟨0, 0, st.node, ep⟩ := by
  unfold HSt.at
  rw [h.1]
  simp [hasP, hx]

set_option maxRecDepth 100000 in
set_option maxHeartbeats 8000000 in
theorem all_whole {w : World} {h : Nat} {st : HSt} {tr : Option Tree} {n : Nat} {B : List Nat} (hh : HoldAt w h st tr n B) {ep : Int} (hw : st.whole ep) {a : Arc} (ha : a.ok) :
    Calls Tryz.prog 82 #[.pointer (some ⟨h, 0, none⟩), .agg #[.int .u64 a.f, .int .u64 a.t]] w fun e w' => e = .returned (.tuple #[.int .i64 ep, .bool true]) ∧ Mod NoB w w' := by
  have HH := Lib.hid hh
  have HW := Lib.hid hw
  have hep := hw.2
  clear hh hw
  have hlen2 : (piecesA a).length ≤ 2 ∧ 0 < (piecesA a).length := by unfold piecesA; split <;> simp
  obtain ⟨hlen2, hlen0⟩ := hlen2
  go_enter Tryz.func82, Tryz.ntmps82
  go_wp2_with fail
  go_step3
  go_wp2_with fail
  go_step3
  go_wp2_with fail
  refine (pieces_at a _).mono ?_
  rintro e w2 ⟨pb, rfl, hp1, hp2, hp3⟩
  have HM2 := Lib.hid (((Mod.refl NoB w).alloc _).trans hp3)
  have HP := Lib.hid hp2
  clear hp1 hp2 hp3
  go_wp2_with fail
  go_loopw [6, 15] (fun e i wr => ∃ (k : Nat) (acc : Int), k ≤ (piecesA a).length ∧ i = .int .i64 k ∧ e = .int .i64 acc ∧ 0 ≤ acc ∧ acc ≤ ep ∧ (0 < k → acc = ep) ∧ Mod NoB w2 wr) (fun _ i _ => (piecesA a).length - (intOf i).toNat)
  case atStart => exact ⟨0, 0, Nat.zero_le _, rfl, rfl, Int.le_refl _, hep, fun h => absurd h (by omega), Mod.refl _ _⟩
  case round =>
    obtain ⟨k, acc, hk, rfl, rfl, ha0, ha1, hacc, hm⟩ := hrel
    have HACC := Lib.hid hacc
    clear hacc
    have HM := Lib.hid hm
    clear hm
    by_cases hlt : k < (piecesA a).length
    · have he : (piecesA a)[k]? = some (piecesA a)[k] := List.getElem?_eq_getElem hlt
      have hpo := piecesA_ok ha (piecesA a)[k] (List.getElem_mem hlt)
      generalize (piecesA a)[k] = p at he hpo
      obtain ⟨av, capv, hv0, hx0⟩ := HP.out.mod HM.out
      obtain ⟨b', o', hbo, hj⟩ := hx0 k p he
      simp only [Value.slice.injEq] at hv0
      obtain ⟨hv1, _, hv3⟩ := hv0
      subst hv1 hv3
      simp only [Option.some.injEq, Addr.mk.injEq] at hbo
      obtain ⟨rfl, rfl, _⟩ := hbo
      have p0 := hj 0 _ rfl
      have p1 := hj 1 _ rfl
      simp only [Nat.zero_add, Nat.add_zero] at p0 p1
      clear hj hx0
      have HLT := Lib.hid hlt
      have hpf : 0 ≤ p.f := hpo.1.1.1
      have hmax : max acc ep = ep := by omega
      go_wp2_with fail
      go_hide hQ
      have HQ := Lib.hid hQ
      go_loopw [6, 9] (fun e x wi => e = .int .i64 acc ∧ x = .int .u64 p.f ∧ Mod NoB wr wi ∧ wi.cell? ⟨wr.heap.size, 0, none⟩ = some (.int .u64 p.f) ∧ wi.cell? ⟨wr.heap.size, 1, none⟩ = some (.int .u64 p.t)) (fun _ _ _ => 0)
      case atStart => exact ⟨rfl, rfl, (Mod.refl _ _).alloc _, by simp, by simp⟩
      case round =>
        obtain ⟨rfl, rfl, hmi, q0, q1⟩ := hrel
        have HMI := Lib.hid hmi
        clear hmi
        go_wp2_with fail
        refine (at_any (HH.out.mod (HM2.out.trans (HM.out.trans HMI.out)) (fun _ _ x => x)) p.f).mono ?_
        rintro e w5 ⟨rfl, hm5⟩
        rw [HSt.whole_at HW.out hpf]
        unfold atRes
        have HM5 := Lib.hid hm5
        clear hm5
        go_wp2_with fail
        rw [← HQ.out]
        go_wp2_with fail
        refine ⟨⟨k + 1, ep, HLT.out, by go_num, rfl, hep, Int.le_refl _, fun _ => rfl, HM.out.trans ((HMI.out.trans HM5.out).alloc _)⟩, by have := HLT.out; simp [intOf]; omega⟩
    · obtain rfl : k = (piecesA a).length := by omega
      have hae : acc = ep := HACC.out (by omega)
      subst hae
      go_wp2_with fail
      go_ret2
      exact ⟨rfl, HM2.out.trans HM.out⟩
end Go.Proofs.YtpcmbnbdppembaaGreatDoor
