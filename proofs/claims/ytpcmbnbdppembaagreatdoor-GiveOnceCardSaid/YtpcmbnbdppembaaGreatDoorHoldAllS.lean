/- (*hold.Hold).all of any arc, at a hold whose pieces are of one epoch. -/
import Derived.Test.YtpcmbnbdppembaaGreatDoorHoldAll
namespace Go.Proofs.YtpcmbnbdppembaaGreatDoor
set_option linter.unusedSimpArgs false
set_option linter.unusedVariables false
open Go.RowKit Go.Shelf
attribute [local go_sem ↓] Go.wp_at_zero Go.wp_at_succ

/-- pieces that do not go over the end, all of one epoch -/
def HSt.same (st : HSt) (ep : Int) : Prop := 0 ≤ ep ∧ ∀ o ∈ st.own, Pt64 o.f ∧ Pt64 o.t ∧ (o.t = 0 ∨ o.f < o.t) ∧ o.ep = ep
/-- all points of a piece are owned -/
def HSt.cov (st : HSt) (p : Arc) : Prop := ∀ x, Pt64 x → hasP p x = true → (st.at x).isSome = true
def HSt.covA (st : HSt) (a : Arc) : Prop := ∀ p ∈ piecesA a, st.cov p

theorem at_mem {st : HSt} {x : Int} {o : Ow} (h : st.at x = some o) : o ∈ st.own ∧ o.f ≤ x ∧ (o.t = 0 ∨ x < o.t) := by
  unfold HSt.at at h
  have h1 := List.mem_of_find?_eq_some h
  have h2 := List.find?_some h
  rw [hasP_iff] at h2
  exact ⟨h1, h2⟩
theorem at_some {st : HSt} {x : Int} {o : Ow} (h : o ∈ st.own) (h1 : o.f ≤ x) (h2 : o.t = 0 ∨ x < o.t) : (st.at x).isSome = true := by
  unfold HSt.at
  rw [List.find?_isSome]
  exact ⟨o, h, by rw [hasP_iff]; exact ⟨h1, h2⟩⟩

set_option maxRecDepth 100000 in
set_option maxHeartbeats 16000000 in
theorem all_same {w : World} {h : Nat} {st : HSt} {tr : Option Tree} {n : Nat} {B : List Nat} (hh : HoldAt w h st tr n B) {ep : Int} (hw : st.same ep) {a : Arc} (ha : a.ok) :
    Calls Tryz.prog 82 #[.pointer (some ⟨h, 0, none⟩), .agg #[.int .u64 a.f, .int .u64 a.t]] w fun e w' => ∃ ok : Bool, (ok = true ↔ st.covA a) ∧ e = .returned (.tuple #[.int .i64 (if ok = true then ep else 0), .bool ok]) ∧ Mod NoB w w' := by
  have HH := Lib.hid hh
  have HW := Lib.hid hw
  have hep := hw.1
  clear hh hw
  have hlen2 : (piecesA a).length ≤ 2 ∧ 0 < (piecesA a).length := by unfold piecesA; split <;> simp
  obtain ⟨hlen2, hlen0⟩ := hlen2
  go_enter Tryz.func82, Tryz.ntmps82
  go_wp2_with fail
  go_step3
  go_wp2_with fail
  go_step3
  go_wp2_with fail
  refine (pieces_at a _).mono ?_
  rintro e w2 ⟨pb, rfl, hp1, hp2, hp3⟩
  have HM2 := Lib.hid (((Mod.refl NoB w).alloc _).trans hp3)
  have HP := Lib.hid hp2
  clear hp1 hp2 hp3
  go_wp2_with fail
  go_loopw [6, 15] (fun e i wr => ∃ (k : Nat) (acc : Int), k ≤ (piecesA a).length ∧ i = .int .i64 k ∧ e = .int .i64 acc ∧ 0 ≤ acc ∧ acc ≤ ep ∧ (0 < k → acc = ep) ∧ (∀ j p, j < k → (piecesA a)[j]? = some p → st.cov p) ∧ Mod NoB w2 wr) (fun _ i _ => (piecesA a).length - (intOf i).toNat)
  case atStart => exact ⟨0, 0, Nat.zero_le _, rfl, rfl, Int.le_refl _, hep, fun h => absurd h (by omega), fun j p hj => absurd hj (by omega), Mod.refl _ _⟩
  case round =>
    obtain ⟨k, acc, hk, rfl, rfl, ha0, ha1, hacc, hcv, hm⟩ := hrel
    have HACC := Lib.hid hacc; have HCV := Lib.hid hcv
    clear hacc hcv
    have HM := Lib.hid hm
    clear hm
    obtain ⟨Wr, rfl⟩ : ∃ Wr : World, Wr = wr := ⟨_, rfl⟩
    by_cases hlt : k < (piecesA a).length
    · have he : (piecesA a)[k]? = some (piecesA a)[k] := List.getElem?_eq_getElem hlt
      have hmem : (piecesA a)[k] ∈ piecesA a := List.getElem_mem hlt
      have hpo := piecesA_ok ha (piecesA a)[k] hmem
      generalize (piecesA a)[k] = p at he hpo hmem
      obtain ⟨av, capv, hv0, hx0⟩ := HP.out.mod HM.out
      obtain ⟨b', o', hbo, hj⟩ := hx0 k p he
      simp only [Value.slice.injEq] at hv0
      obtain ⟨hv1, _, hv3⟩ := hv0
      subst hv1 hv3
      simp only [Option.some.injEq, Addr.mk.injEq] at hbo
      obtain ⟨rfl, rfl, _⟩ := hbo
      have p0 := hj 0 _ rfl
      have p1 := hj 1 _ rfl
      simp only [Nat.zero_add, Nat.add_zero] at p0 p1
      clear hj hx0
      have HLT := Lib.hid hlt; have HE := Lib.hid he; have HMEM := Lib.hid hmem
      clear he hmem
      obtain ⟨⟨hpf, hpt⟩, hpq⟩ := hpo
      unfold Pt64 at hpf hpt
      go_wp2_with fail
      go_hide hQ
      have HQ := Lib.hid hQ
      go_loopw [6, 9] (fun e x wi => ∃ (xv acc2 : Int), e = .int .i64 acc2 ∧ x = .int .u64 xv ∧ 0 ≤ acc2 ∧ acc2 ≤ ep ∧ p.f ≤ xv ∧ xv < 18446744073709551616 ∧ (p.t = 0 ∨ xv < p.t) ∧ (∀ y, p.f ≤ y → y < xv → (st.at y).isSome = true) ∧ Mod NoB Wr wi ∧ wi.cell? ⟨Wr.heap.size, 0, none⟩ = some (.int .u64 p.f) ∧ wi.cell? ⟨Wr.heap.size, 1, none⟩ = some (.int .u64 p.t)) (fun _ x _ => 18446744073709551616 - (intOf x).toNat)
      case atStart => exact ⟨p.f, acc, rfl, rfl, ha0, ha1, Int.le_refl _, hpf.2, hpq, fun y h1 h2 => by omega, (Mod.refl _ _).alloc _, by simp, by simp⟩
      case round =>
        obtain ⟨xv, acc2, rfl, rfl, hc0, hc1, hx1, hx2, hx3, hcy, hmi, q0, q1⟩ := hrel
        have HMI := Lib.hid hmi; have HCY := Lib.hid hcy
        clear hmi hcy
        go_wp2_with fail
        refine (at_any (HH.out.mod (HM2.out.trans (HM.out.trans HMI.out)) (fun _ _ x => x)) xv).mono ?_
        rintro e w5 ⟨rfl, hm5⟩
        cases hat : st.at xv with
        | none =>
          unfold atRes
          have HM5 := Lib.hid hm5
          clear hm5
          have HNO : Hid (¬ st.covA a) := Lib.hid (fun hc => by
            have := hc p HMEM.out xv ⟨by omega, hx2⟩ (by rw [hasP_iff]; exact ⟨hx1, hx3⟩)
            rw [hat] at this
            cases this)
          go_wp2_with fail
          rw [← HQ.out]
          go_simp
          simp (config := { zetaDelta := true }) only [Exit.inBlock, Exit.then, Exit.noGoto]
          refine bodyPost_ret (v := .tuple #[.int .i64 0, .bool false]) (by simp [results, Tryz.results82, go_sem]) rfl ?_
          exact ⟨false, ⟨fun h => Bool.noConfusion h, fun h => absurd h HNO.out⟩, rfl, HM2.out.trans (HM.out.trans ((HMI.out.trans HM5.out).alloc _))⟩
        | some o =>
          unfold atRes
          obtain ⟨hom, ho1, ho2⟩ := at_mem hat
          obtain ⟨of1, ot1, ofo, oep⟩ := HW.out.2 o hom
          unfold Pt64 at of1 ot1
          have HOM := Lib.hid hom
          have hmax : max acc2 ep = ep := by omega
          obtain ⟨of, ot, on, oe⟩ := o
          simp only at ho1 ho2 of1 ot1 ofo oep
          subst oep
          have HM5 := Lib.hid hm5
          have q1' := hm5.cellS q1
          have hpl : Wr.heap.size < w5.heap.size := cell_lt' q1'
          clear hm5 hom hat
          by_cases hz : ot = 0
          · have hz0 : (ot == 0) = true := by simpa using hz
            have HZ := Lib.hid hz
            clear hz
            go_wp2_with fail
            rw [← HQ.out]
            go_wp2_with fail
            refine ⟨⟨k + 1, oe, HLT.out, by go_num, rfl, hep, Int.le_refl _, fun _ => rfl, fun j q hj hq => ?_, HM.out.trans ((HMI.out.trans HM5.out).alloc _)⟩, by have := HLT.out; simp [intOf]; omega⟩
            rcases Nat.lt_or_ge j k with hj2 | hj2
            · exact HCV.out j q hj2 hq
            · obtain rfl : j = k := by omega
              obtain rfl : p = q := Option.some.inj (HE.out.symm.trans hq)
              intro y hy hpy
              rw [hasP_iff] at hpy
              by_cases hyx : y < xv
              · exact HCY.out y hpy.1 hyx
              · exact at_some HOM.out (by show of ≤ y; omega) (.inl HZ.out)
          · have hz0 : (ot == 0) = false := by simpa using hz
            have hxo : xv < ot := by omega
            by_cases hpt0 : 0 < p.t
            · by_cases hle : p.t ≤ ot
              · clear hz
                go_wp2_with fail
                rw [← HQ.out]
                go_wp2_with fail
                refine ⟨⟨k + 1, oe, HLT.out, by go_num, rfl, hep, Int.le_refl _, fun _ => rfl, fun j q hj hq => ?_, HM.out.trans ((HMI.out.trans HM5.out).alloc _)⟩, by have := HLT.out; simp [intOf]; omega⟩
                rcases Nat.lt_or_ge j k with hj2 | hj2
                · exact HCV.out j q hj2 hq
                · obtain rfl : j = k := by omega
                  obtain rfl : p = q := Option.some.inj (HE.out.symm.trans hq)
                  intro y hy hpy
                  rw [hasP_iff] at hpy
                  by_cases hyx : y < xv
                  · exact HCY.out y hpy.1 hyx
                  · exact at_some HOM.out (by show of ≤ y; omega) (.inr (by show y < ot; omega))
              · clear hz
                go_wp2_with fail
                have q0' := HM5.out.cellS q0
                refine ⟨⟨ot, oe, rfl, rfl, hep, Int.le_refl _, by omega, ot1.2, by omega, fun y h1 h2 => ?_, (HMI.out.trans HM5.out).alloc _, ((Mod.refl NoB w5).alloc _).cellS q0', ((Mod.refl NoB w5).alloc _).cellS q1'⟩, by simp [intOf]; omega⟩
                by_cases hyx : y < xv
                · exact HCY.out y h1 hyx
                · exact at_some HOM.out (by show of ≤ y; omega) (.inr h2)
            · clear hz
              go_wp2_with fail
              have q0' := HM5.out.cellS q0
              refine ⟨⟨ot, oe, rfl, rfl, hep, Int.le_refl _, by omega, ot1.2, by omega, fun y h1 h2 => ?_, (HMI.out.trans HM5.out).alloc _, ((Mod.refl NoB w5).alloc _).cellS q0', ((Mod.refl NoB w5).alloc _).cellS q1'⟩, by simp [intOf]; omega⟩
              by_cases hyx : y < xv
              · exact HCY.out y h1 hyx
              · exact at_some HOM.out (by show of ≤ y; omega) (.inr h2)
    · obtain rfl : k = (piecesA a).length := by omega
      have hae : acc = ep := HACC.out (by omega)
      subst hae
      have HYES : Hid (st.covA a) := Lib.hid (fun p hp => by
        obtain ⟨j, hj⟩ := List.mem_iff_getElem?.1 hp
        exact HCV.out j p (List.getElem?_eq_some_iff.1 hj).1 hj)
      go_wp2_with fail
      refine bodyPost_ret (v := .tuple #[.int .i64 acc, .bool true]) (by simp [results, Tryz.results82, go_sem]) rfl ?_
      exact ⟨true, ⟨fun _ => HYES.out, fun _ => rfl⟩, rfl, HM2.out.trans HM.out⟩
end Go.Proofs.YtpcmbnbdppembaaGreatDoor
