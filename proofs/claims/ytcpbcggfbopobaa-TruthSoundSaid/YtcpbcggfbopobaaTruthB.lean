/- Package truth: the comparison of items by their keys, and the sort of items. -/
import Derived.Test.YtcpbcggfbopobaaTruthA
import Derived.WalkLawsBesides
import Derived.Shelf.SlSortCmp.InsertionK
namespace Go.Proofs.Ytcpbcggfbopobaa
open Go.RowKit Go.Proofs Go.Sort Go.Shelf

def ltS (a b : ByteArray) : Bool := Op.bytesLess a.toList b.toList
def cmpS (a b : ByteArray) : Int := if Op.bytesLess a.toList b.toList then -1 else if (!a.toList == b.toList) then 1 else 0

theorem isNaN_any (a : ByteArray) (w : World) : Calls Try.prog 32 #[.string a] w fun e w' => e = .returned (.bool false) ∧ w' = w := by
  go_enter Try.func32, Try.ntmps32
  go_wp2
  go_ret
  simp

theorem compare_any (a b : ByteArray) (w : World) : Calls Try.prog 27 #[.string a, .string b] w fun e w' => e = .returned (.int .i64 (cmpS a b)) ∧ w = w' := by
  go_enter Try.func27, Try.ntmps27
  go_wp2_with (go_at_call 32; refine (isNaN_any _ _).mono ?_; rintro e w' ⟨rfl, rfl⟩)
  all_goals go_ret
  all_goals refine ⟨?_, rfl⟩
  · simp [cmpS, *]
  · simp [cmpS, *]
  · simp [cmpS, *]

theorem ltS_iff (a b : ByteArray) : ltS a b = decide (a.toList < b.toList) := bytesLess_eq _ _

theorem ltOf_cmpS (x y : ByteArray × ByteArray) : ltOf (fun x y : ByteArray × ByteArray => cmpS x.1 y.1) x y = ltS x.1 y.1 := by
  show decide (cmpS x.1 y.1 < 0) = ltS x.1 y.1
  unfold cmpS ltS
  generalize Op.bytesLess x.1.toList y.1.toList = p
  generalize (!x.1.toList == y.1.toList) = q
  cases p <;> cases q <;> rfl

theorem ba_ext {a b : ByteArray} (h : a.toList = b.toList) : a = b := by
  rw [Lib.toList_data, Lib.toList_data] at h
  cases a; cases b
  simpa [Array.toList_inj] using h

theorem ltS_irrefl (a : ByteArray) : ltS a a = false := by rw [ltS_iff]; simp [List.lt_irrefl]
theorem ltS_trans {a b c : ByteArray} (h1 : ltS a b = true) (h2 : ltS b c = true) : ltS a c = true := by
  rw [ltS_iff] at *
  simp only [decide_eq_true_eq] at *
  exact List.lt_trans h1 h2
theorem ltS_total {a b : ByteArray} (h1 : ltS a b = false) (h2 : ltS b a = false) : a = b := by
  rw [ltS_iff] at *
  simp only [decide_eq_false_iff_not] at *
  exact ba_ext (List.le_antisymm (List.not_lt.1 h2) (List.not_lt.1 h1))

theorem swoS : SWO (ltOf fun x y : ByteArray × ByteArray => cmpS x.1 y.1) where
  irrefl x := by rw [ltOf_cmpS]; exact ltS_irrefl _
  trans x y z h1 h2 := by rw [ltOf_cmpS] at *; exact ltS_trans h1 h2
  ntrans x y z h1 h2 := by
    rw [ltOf_cmpS] at *
    cases h : ltS x.1 z.1 with
    | false => rfl
    | true =>
      cases h3 : ltS z.1 y.1 with
      | true => rw [ltS_trans h h3] at h1; cases h1
      | false => rw [ltS_total h2 h3] at h1; rw [h] at h1; cases h1

set_option maxHeartbeats 1000000 in
/-- the comparison that the sort is handed: two items are boxed -/
theorem closure_any (x y : ByteArray × ByteArray) (W : World) :
    Calls Try.prog 26 #[.agg #[.string x.1, .string x.2], .agg #[.string y.1, .string y.2]] W fun e w' => e = .returned (.int .i64 (cmpS x.1 y.1)) ∧ ∃ q os', w' = grow (W.drewN q) os' := by
  go_enter Try.func26, Try.ntmps26
  go_wp2_with (go_at_call 27; refine (compare_any _ _ _).mono ?_; rintro e w' ⟨rfl, rfl⟩)
  go_ret
  exact ⟨rfl, 0, _, by rw [alloc_eq_grow, alloc_eq_grow, grow_grow]; rfl⟩

theorem cmpLays_any (blk off size : Nat) (w : World) : CmpLays Try.prog 26 #[] encIt 2 (fun x y => cmpS x.1 y.1) blk off size w :=
  fun _ _ _ _ x y => closure_any x y _
end Go.Proofs.Ytcpbcggfbopobaa
