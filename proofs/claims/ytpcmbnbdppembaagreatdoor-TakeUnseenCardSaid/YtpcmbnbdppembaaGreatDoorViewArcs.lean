/- (*view.View).arcs: what it tells (arcsP), in plain Lean; view.alike. -/
import Derived.Test.YtpcmbnbdppembaaGreatDoorViewCut
namespace Go.Proofs.YtpcmbnbdppembaaGreatDoor
set_option linter.unusedSimpArgs false
set_option linter.unusedVariables false
open Go.RowKit Go.Shelf
attribute [local go_sem ↓] Go.wp_at_zero Go.wp_at_succ

def alikeP (a b : Pt) : Bool := decide (a.n = b.n) && decide (a.e = b.e)

set_option maxHeartbeats 4000000 in
theorem valike_any (a b : Pt) (w : World) : Calls Tryz.prog 203 #[.agg #[.int .u64 a.f, .int .i64 a.n, .int .i64 a.e], .agg #[.int .u64 b.f, .int .i64 b.n, .int .i64 b.e]] w fun e w' => e = .returned (.bool (alikeP a b)) ∧ Mod NoB w w' := by
  by_cases h1 : a.n = b.n
  · by_cases h2 : a.e = b.e
    · have HR : Hid (alikeP a b = true) := Lib.hid (by unfold alikeP; rw [decide_eq_true h1, decide_eq_true h2]; rfl)
      go_enter Tryz.func203, Tryz.ntmps203
      go_wp2_with fail
      go_ret
      exact ⟨by rw [HR.out]; rfl, ((Mod.refl _ _).alloc _).alloc _⟩
    · have HR : Hid (alikeP a b = false) := Lib.hid (by unfold alikeP; rw [decide_eq_false h2, Bool.and_false])
      have q2 : (a.e == b.e) = false := by simpa using h2
      go_enter Tryz.func203, Tryz.ntmps203
      go_wp2_with fail
      go_ret
      exact ⟨by rw [HR.out]; rfl, ((Mod.refl _ _).alloc _).alloc _⟩
  · have HR : Hid (alikeP a b = false) := Lib.hid (by unfold alikeP; rw [decide_eq_false h1, Bool.false_and])
    have q1 : (a.n == b.n) = false := by simpa using h1
    go_enter Tryz.func203, Tryz.ntmps203
    go_wp2_with fail
    go_ret
    exact ⟨by rw [HR.out]; rfl, ((Mod.refl _ _).alloc _).alloc _⟩

/-- alike neighbours put together -/
def compA (acc : List Pt) (p : Pt) : List Pt :=
  match acc.getLast? with
  | some q => if alikeP q p = true then acc else acc ++ [p]
  | none => acc ++ [p]
def compP (l : List Pt) : List Pt := l.foldl compA []
/-- where the part behind one begins -/
def nextF (c : List Pt) (i : Nat) : Int := match c[(i + 1) % c.length]? with
  | some p => p.f
  | none => 0
/-- the arcs of the first parts -/
def arcK (c : List Pt) : Nat → List Ow
  | 0 => []
  | k + 1 => arcK c k ++ (match c[k]? with
    | some p => if 0 ≤ p.n then [⟨p.f, nextF c k, p.n, p.e⟩] else []
    | none => [])
/-- does the last one go on at the ring's beginning? -/
def overEnd (c : List Pt) : Prop := ∃ a b, c[0]? = some a ∧ c[c.length - 1]? = some b ∧ 1 < c.length ∧ 0 ≤ a.n ∧ alikeP a b = true

theorem compA_len (acc : List Pt) (p : Pt) : (compA acc p).length ≤ acc.length + 1 := by
  unfold compA
  split
  · split
    · omega
    · simp
  · simp
theorem compK_len (l : List Pt) (k : Nat) (hk : k ≤ l.length) : ((l.take k).foldl compA []).length ≤ k := by
  induction k with
  | zero => simp
  | succ k ih =>
    have he : l[k]? = some l[k] := List.getElem?_eq_getElem (by omega)
    rw [List.take_add_one, he, List.foldl_append]
    have := compA_len ((l.take k).foldl compA []) l[k]
    have := ih (by omega)
    simp only [Option.toList_some, List.foldl_cons, List.foldl_nil]
    omega
theorem arcK_len (c : List Pt) (k : Nat) : (arcK c k).length ≤ k := by
  induction k with
  | zero => simp [arcK]
  | succ k ih =>
    unfold arcK
    rw [List.length_append]
    split
    · split
      · simp; omega
      · simp; omega
    · simp; omega
end Go.Proofs.YtpcmbnbdppembaaGreatDoor
