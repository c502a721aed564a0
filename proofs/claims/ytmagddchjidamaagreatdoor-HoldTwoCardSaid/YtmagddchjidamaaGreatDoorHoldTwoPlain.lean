/- What two arcs own, in plain Lean. -/
import Derived.Test.YtmagddchjidamaaGreatDoorHoldEpoch
import Derived.Test.YtmagddchjidamaaGreatDoorHoldAt
namespace Go.Proofs.YtmagddchjidamaaGreatDoor
set_option linter.unusedSimpArgs false
set_option linter.unusedVariables false

def st15 : HSt := ⟨1, 5, 0, [], false, ⟨0, 0⟩, []⟩

theorem piecesA_pos (a : Arc) : piecesA a ≠ [] := by
  unfold piecesA
  split <;> simp

theorem inA_pf {a : Arc} (ha : a.ok) {p : Arc} (hp : p ∈ piecesA a) : inA a p.f = true := by
  have h := piecesA_ok ha p hp
  have hx : Pt64 p.f := h.1.1
  rw [← pieces_in ha hx, List.any_eq_true]
  exact ⟨p, hp, by rw [hasP_iff]; exact ⟨Int.le_refl _, h.2⟩⟩

/-- what has an arc does not let it be owned anew -/
theorem may_self {st : HSt} {a : Arc} (ha : a.ok) {ep e1 : Int} (h : ∃ p ∈ piecesA a, ⟨p.f, p.t, st.node, e1⟩ ∈ st.own) : st.may a ep = false := by
  obtain ⟨p, hp, ho⟩ := h
  unfold HSt.may
  rw [Bool.and_eq_false_iff]
  refine .inr ?_
  rw [List.all_eq_false]
  refine ⟨_, ho, ?_⟩
  simp [apartA, Ow.arc, inA_pf ha hp]

theorem may_whole {st : HSt} {ep : Int} (h : st.own ≠ []) : st.may ⟨0, 0⟩ ep = false := by
  unfold HSt.may
  rw [Bool.and_eq_false_iff]
  refine .inr ?_
  rw [List.all_eq_false]
  obtain ⟨o, ho⟩ := List.exists_mem_of_ne_nil _ h
  refine ⟨o, ho, ?_⟩
  simp [apartA, inA]

theorem own_all {st : HSt} {a b : Arc} (ha : a.ok) (hb : b.ok) {ep e2 : Int} (he : 0 ≤ e2) (h0 : st.own = []) : (ownSt st a ep).may b e2 = apartA a b := by
  unfold HSt.may ownSt
  rw [h0, ← pieces_apart ha hb]
  simp [he, List.all_map, Function.comp_def, Ow.arc]

theorem at_own {st : HSt} {a : Arc} (ha : a.ok) {ep x : Int} (hx : Pt64 x) : ((ownSt st a ep).at x).isSome = ((st.at x).isSome || inA a x) := by
  unfold HSt.at ownSt
  rw [List.find?_append, ← pieces_in ha hx, Bool.eq_iff_iff]
  cases h : st.own.find? (fun o => hasP o.arc x) with
  | some o => simp
  | none =>
    simp only [Option.none_or, Option.isSome_none, Bool.false_or, List.find?_isSome, List.mem_map, List.any_eq_true]
    constructor
    · rintro ⟨_, ⟨p, hp, rfl⟩, h⟩
      exact ⟨p, hp, h⟩
    · rintro ⟨p, hp, h⟩
      exact ⟨_, ⟨p, hp, rfl⟩, h⟩

theorem epoch_own {st : HSt} {a : Arc} {ep : Int} : epochTo (ownSt st a ep).own = max (epochTo st.own) ep := by
  unfold epochTo ownSt
  rw [List.foldl_append]
  generalize List.foldl (fun m (o : Ow) => max m o.ep) 0 st.own = m
  unfold piecesA
  split
  · simp
  · simp

theorem may_none {st : HSt} {a : Arc} {ep : Int} (h : 0 ≤ ep) (h0 : st.own = []) : st.may a ep = true := by
  unfold HSt.may
  simp [h0, h]

theorem own_len {st : HSt} {a : Arc} {ep : Int} : (ownSt st a ep).own.length ≤ st.own.length + 2 := by
  unfold ownSt piecesA
  split <;> simp
end Go.Proofs.YtmagddchjidamaaGreatDoor
