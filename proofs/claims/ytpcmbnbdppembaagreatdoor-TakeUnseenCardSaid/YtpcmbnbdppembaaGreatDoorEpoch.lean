/- (*hold.Hold).Epoch; what two arcs own, in plain Lean. -/
import Derived.Test.YtpcmbnbdppembaaGreatDoorHoldLose
import Derived.Test.YtpcmbnbdppembaaGreatDoorHoldAt
import Derived.Test.YtpcmbnbdppembaaGreatDoorHoldDo
/- (*hold.Hold).Epoch. -/
namespace Go.Proofs.YtpcmbnbdppembaaGreatDoor
set_option linter.unusedSimpArgs false
set_option linter.unusedVariables false
open Go.RowKit Go.Shelf

def epochTo (l : List Ow) : Int := l.foldl (fun m o => max m o.ep) 0

set_option maxRecDepth 100000 in
set_option maxHeartbeats 8000000 in
theorem epoch_any {w : World} {h : Nat} {st : HSt} {tr : Option Tree} {n : Nat} {B : List Nat} (hh : HoldAt w h st tr n B) (hlen : st.own.length ≤ 1000000) :
    Calls Tryz.prog 35 #[.pointer (some ⟨h, 0, none⟩)] w fun e w' => e = .returned (.int .i64 (epochTo st.own)) ∧ Mod NoB w w' := by
  obtain ⟨vo, vp, s, L, q1, q2, q3, q4, q5, q6⟩ := hh
  have c3 : w.cell? ⟨h, 3, none⟩ = some vo := cell_of q1 3 rfl
  have hvo := own_slAt (k := 4) (enc := encOw) (fun _ => rfl) q2
  have HVO := Lib.hid hvo
  obtain ⟨av, capv, hvs, _⟩ := hvo
  subst hvs
  obtain ⟨l, hl⟩ : ∃ l, l = st.own := ⟨_, rfl⟩
  rw [← hl] at hlen HVO c3 ⊢
  clear q1 q2 q3 q4 q5 q6 hl
  go_enter Tryz.func35, Tryz.ntmps35
  go_wp2_with fail
  go_loopw [3, 13] (fun e i wr => ∃ k : Nat, k ≤ l.length ∧ i = .int .i64 k ∧ e = .int .i64 (epochTo (l.take k)) ∧ Mod NoB w wr) (fun _ i _ => l.length - (intOf i).toNat)
  case atStart => exact ⟨0, Nat.zero_le _, rfl, rfl, Mod.refl _ _⟩
  case round =>
    obtain ⟨k, hk, rfl, rfl, hm⟩ := hrel
    have HM := Lib.hid hm
    obtain ⟨m, hm2⟩ : ∃ m, m = epochTo (l.take k) := ⟨_, rfl⟩
    rw [← hm2]
    have HE := Lib.hid hm2
    clear hm hm2
    by_cases hlt : k < l.length
    · have he : l[k]? = some l[k] := List.getElem?_eq_getElem hlt
      generalize l[k] = o at he
      obtain ⟨vb, vo, cap3, hv, hvlt, x0, x1, x2, x3⟩ := at4w HVO.out he
      simp only [Value.slice.injEq] at hv
      obtain ⟨rfl, _, rfl⟩ := hv
      have x0 := HM.out.cellS x0; have x1 := HM.out.cellS x1; have x2 := HM.out.cellS x2; have x3 := HM.out.cellS x3
      have HLT := Lib.hid hlt; have HE2 := Lib.hid he
      go_wp2_with fail
      go_roundw
      case rel =>
        refine ⟨k + 1, HLT.out, by go_num, ?_, HM.out.alloc _⟩
        rw [List.take_add_one, HE2.out]
        simp only [Option.toList_some, epochTo, List.foldl_append, List.foldl_cons, List.foldl_nil]
        rw [HE.out]
        rfl
      case measure => have := HLT.out; simp [intOf]; omega
    · obtain rfl : k = l.length := by omega
      rw [List.take_length] at HE
      go_wp2_with fail
      go_ret
      exact ⟨by rw [HE.out]; rfl, HM.out⟩
end Go.Proofs.YtpcmbnbdppembaaGreatDoor

/- What two arcs own, in plain Lean. -/
namespace Go.Proofs.YtpcmbnbdppembaaGreatDoor
set_option linter.unusedSimpArgs false
set_option linter.unusedVariables false

def st15 : HSt := ⟨1, 5, 0, [], false, ⟨0, 0⟩, []⟩

theorem piecesA_pos (a : Arc) : piecesA a ≠ [] := by
  unfold piecesA
  split <;> simp

theorem inA_pf {a : Arc} (ha : a.ok) {p : Arc} (hp : p ∈ piecesA a) : inA a p.f = true := by
  have h := piecesA_ok ha p hp
  have hx : Pt64 p.f := h.1.1
  rw [← pieces_in ha hx, List.any_eq_true]
  exact ⟨p, hp, by rw [hasP_iff]; exact ⟨Int.le_refl _, h.2⟩⟩

/-- what has an arc does not let it be owned anew -/
theorem may_self {st : HSt} {a : Arc} (ha : a.ok) {ep e1 : Int} (h : ∃ p ∈ piecesA a, ⟨p.f, p.t, st.node, e1⟩ ∈ st.own) : st.may a ep = false := by
  obtain ⟨p, hp, ho⟩ := h
  unfold HSt.may
  rw [Bool.and_eq_false_iff]
  refine .inr ?_
  rw [List.all_eq_false]
  refine ⟨_, ho, ?_⟩
  simp [apartA, Ow.arc, inA_pf ha hp]

theorem may_whole {st : HSt} {ep : Int} (h : st.own ≠ []) : st.may ⟨0, 0⟩ ep = false := by
  unfold HSt.may
  rw [Bool.and_eq_false_iff]
  refine .inr ?_
  rw [List.all_eq_false]
  obtain ⟨o, ho⟩ := List.exists_mem_of_ne_nil _ h
  refine ⟨o, ho, ?_⟩
  simp [apartA, inA]

theorem own_all {st : HSt} {a b : Arc} (ha : a.ok) (hb : b.ok) {ep e2 : Int} (he : 0 ≤ e2) (h0 : st.own = []) : (ownSt st a ep).may b e2 = apartA a b := by
  unfold HSt.may ownSt
  rw [h0, ← pieces_apart ha hb]
  simp [he, List.all_map, Function.comp_def, Ow.arc]

theorem at_own {st : HSt} {a : Arc} (ha : a.ok) {ep x : Int} (hx : Pt64 x) : ((ownSt st a ep).at x).isSome = ((st.at x).isSome || inA a x) := by
  unfold HSt.at ownSt
  rw [List.find?_append, ← pieces_in ha hx, Bool.eq_iff_iff]
  cases h : st.own.find? (fun o => hasP o.arc x) with
  | some o => simp
  | none =>
    simp only [Option.none_or, Option.isSome_none, Bool.false_or, List.find?_isSome, List.mem_map, List.any_eq_true]
    constructor
    · rintro ⟨_, ⟨p, hp, rfl⟩, h⟩
      exact ⟨p, hp, h⟩
    · rintro ⟨p, hp, h⟩
      exact ⟨_, ⟨p, hp, rfl⟩, h⟩

theorem epoch_own {st : HSt} {a : Arc} {ep : Int} : epochTo (ownSt st a ep).own = max (epochTo st.own) ep := by
  unfold epochTo ownSt
  rw [List.foldl_append]
  generalize List.foldl (fun m (o : Ow) => max m o.ep) 0 st.own = m
  unfold piecesA
  split
  · simp
  · simp

theorem may_none {st : HSt} {a : Arc} {ep : Int} (h : 0 ≤ ep) (h0 : st.own = []) : st.may a ep = true := by
  unfold HSt.may
  simp [h0, h]

theorem own_len {st : HSt} {a : Arc} {ep : Int} : (ownSt st a ep).own.length ≤ st.own.length + 2 := by
  unfold ownSt piecesA
  split <;> simp
end Go.Proofs.YtpcmbnbdppembaaGreatDoor
