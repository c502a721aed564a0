/- What a scan of a hold tells, in plain Lean. -/
import Derived.Test.YtmagddchjidamaaGreatDoorScanRange
import Derived.Test.YtmagddchjidamaaGreatDoorScanOrd
namespace Go.Proofs.YtmagddchjidamaaGreatDoor
set_option linter.unusedSimpArgs false
set_option linter.unusedVariables false

theorem endP_in {st : HSt} (hown : ∀ o ∈ st.own, Pt64 o.t) : (f : Nat) → (p : Int) → Pt64 p → Pt64 (endP st f p)
  | 0, p, h => h
  | f + 1, p, h => by
    unfold endP
    cases hat : st.at p with
    | none => exact h
    | some o =>
      dsimp only
      split
      · exact ⟨by decide, by decide⟩
      · exact endP_in hown f _ (hown o (at_in hat).1)
theorem endA_in {st : HSt} (hown : ∀ o ∈ st.own, Pt64 o.t) (ha : Pt64 st.a.f) {x : Int} (hx : Pt64 x) : Pt64 (endA st x) := by
  unfold endA
  dsimp only
  split
  · exact ha
  · exact endP_in hown _ _ hx

/-- is an item ahead of a point? 0: of the ring's end -/
def aheadP (e : Int) (x : Itm) : Bool := decide (e = 0 ∨ addr x.1 < e)
structure ScanR where
  its : List Itm
  more : Bool
  next : ByteArray

/-- out of the items of a range, up to a point, so many -/
def scanE (e : Int) (to : ByteArray) (most : Nat) (L : List Itm) : ScanR :=
  let L1 := L.takeWhile (aheadP e)
  match L1[most]? with
  | some x => ⟨L1.take most, true, x.1⟩
  | none => if 0 < e ∧ toB to (firstB e) = true then ⟨L1, true, firstB e⟩ else ⟨L1, false, ⟨#[]⟩⟩
def scanR (st : HSt) (key to : ByteArray) (most : Nat) (xs : List Itm) : ScanR := scanE (endA st (addr key)) to most (rangeIts key to xs)

/-- all of the range has come -/
theorem scanE_all {e : Int} {to : ByteArray} {most : Nat} {L : List Itm} (h : ∀ x ∈ L, aheadP e x = true) (hl : L.length ≤ most) :
    scanE e to most L = if 0 < e ∧ toB to (firstB e) = true then ⟨L, true, firstB e⟩ else ⟨L, false, ⟨#[]⟩⟩ := by
  have e1 : L.takeWhile (aheadP e) = L := by
    have := List.takeWhile_append_of_pos (p := aheadP e) (l₁ := L) (l₂ := []) h
    simpa using this
  unfold scanE
  simp only [e1]
  rw [List.getElem?_eq_none hl]
/-- an item lies at the end or behind it -/
theorem scanE_cut {e : Int} {to : ByteArray} {most : Nat} {p rest : List Itm} {x : Itm} (h : ∀ x ∈ p, aheadP e x = true) (hl : p.length ≤ most) (hx : aheadP e x = false) :
    scanE e to most (p ++ x :: rest) = if 0 < e ∧ toB to (firstB e) = true then ⟨p, true, firstB e⟩ else ⟨p, false, ⟨#[]⟩⟩ := by
  have e1 : (p ++ x :: rest).takeWhile (aheadP e) = p := by
    rw [List.takeWhile_append_of_pos (by exact h), List.takeWhile_cons_of_neg (by simp [hx]), List.append_nil]
  unfold scanE
  simp only [e1]
  rw [List.getElem?_eq_none hl]
/-- there are more than were asked for -/
theorem scanE_more {e : Int} {to : ByteArray} {most : Nat} {p rest : List Itm} {x : Itm} (h : ∀ x ∈ p, aheadP e x = true) (hl : p.length = most) (hx : aheadP e x = true) :
    scanE e to most (p ++ x :: rest) = ⟨p, true, x.1⟩ := by
  have e1 : (p ++ x :: rest).takeWhile (aheadP e) = p ++ x :: rest.takeWhile (aheadP e) := by
    rw [List.takeWhile_append_of_pos (by exact h), List.takeWhile_cons_of_pos (by simp [hx])]
  unfold scanE
  simp only [e1]
  rw [List.getElem?_append_right (by omega), hl, Nat.sub_self, List.getElem?_cons_zero, ← hl, List.take_left']
  rfl
end Go.Proofs.YtmagddchjidamaaGreatDoor
