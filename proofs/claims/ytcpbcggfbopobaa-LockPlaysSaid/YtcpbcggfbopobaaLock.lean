/- The lock of a node: what Ask, Free and By of package lock do to a lock's three cells. -/
import Derived.Test.YtcpbcggfbopobaaProg
import Derived.WalkKit
import Derived.ProofKit
import Derived.Lib.Hide
import Derived.Deep.QuietTactic
import Derived.BigQuiet
namespace Go.Proofs.Ytcpbcggfbopobaa
open Go.RowKit

/-- the lock's block -/
structure LockAt (w : World) (b : Nat) (had : Bool) (p q : Int) : Prop where
  c0 : w.cell? ⟨b, 0, none⟩ = some (.bool had)
  c1 : w.cell? ⟨b, 1, none⟩ = some (.int .i64 p)
  c2 : w.cell? ⟨b, 2, none⟩ = some (.int .i64 q)
  f0 : w.frozen? ⟨b, 0, none⟩ = false
  f1 : w.frozen? ⟨b, 1, none⟩ = false
  f2 : w.frozen? ⟨b, 2, none⟩ = false

def lockSet (w : World) (b : Nat) (had : Bool) (p q : Int) : World := ((w.setCell ⟨b,0,none⟩ (.bool had)).setCell ⟨b,1,none⟩ (.int .i64 p)).setCell ⟨b,2,none⟩ (.int .i64 q)

set_option maxHeartbeats 400000 in
theorem ask_free (b : Nat) (x y p q : Int) (w : World) (h : LockAt w b false p q) :
  Calls Try.prog 10 #[.pointer (some ⟨b, 0, none⟩), .int .i64 x, .int .i64 y] w fun e w' => e = .returned (.bool true) ∧ w' = lockSet w b true x y := by
  obtain ⟨h0, h1, h2, f0, f1, f2⟩ := h
  go_enter Try.func10, Try.ntmps10
  go_wp2
  go_ret
  exact ⟨rfl, rfl⟩

theorem ask_had_same (b : Nat) (x y : Int) (w : World) (h : LockAt w b true x y) :
  Calls Try.prog 10 #[.pointer (some ⟨b, 0, none⟩), .int .i64 x, .int .i64 y] w fun e w' => e = .returned (.bool true) ∧ w' = w := by
  obtain ⟨h0, h1, h2, f0, f1, f2⟩ := h
  go_enter Try.func10, Try.ntmps10
  go_wp2
  all_goals go_ret
  all_goals simp

theorem ask_had_else (b : Nat) (x y p q : Int) (w : World) (h : LockAt w b true p q) (hne : ¬ (p = x ∧ q = y)) :
  Calls Try.prog 10 #[.pointer (some ⟨b, 0, none⟩), .int .i64 x, .int .i64 y] w fun e w' => e = .returned (.bool false) ∧ w' = w := by
  obtain ⟨h0, h1, h2, f0, f1, f2⟩ := h
  by_cases hp : p = x
  · have h3 : (p == x) = true := by simpa using hp
    have hq : (q == y) = false := by simpa using fun e => hne ⟨hp, e⟩
    clear hne hp
    go_enter Try.func10, Try.ntmps10
    go_wp2
    all_goals go_ret
    all_goals simp_all
  · have h3 : (p == x) = false := by simpa using hp
    clear hne hp
    go_enter Try.func10, Try.ntmps10
    go_wp2
    all_goals go_ret
    all_goals simp_all


theorem free_had (b : Nat) (x y : Int) (w : World) (h : LockAt w b true x y) :
  Calls Try.prog 11 #[.pointer (some ⟨b, 0, none⟩), .int .i64 x, .int .i64 y] w fun e w' => e = .returned (.bool true) ∧ w' = lockSet w b false 0 0 := by
  obtain ⟨h0, h1, h2, f0, f1, f2⟩ := h
  go_enter Try.func11, Try.ntmps11
  go_wp2
  all_goals go_ret
  all_goals simp [lockSet]

theorem free_free (b : Nat) (x y p q : Int) (w : World) (h : LockAt w b false p q) :
  Calls Try.prog 11 #[.pointer (some ⟨b, 0, none⟩), .int .i64 x, .int .i64 y] w fun e w' => e = .returned (.bool false) ∧ w' = w := by
  obtain ⟨h0, h1, h2, f0, f1, f2⟩ := h
  go_enter Try.func11, Try.ntmps11
  go_wp2
  all_goals go_ret
  all_goals simp

theorem free_else (b : Nat) (x y p q : Int) (w : World) (h : LockAt w b true p q) (hne : ¬ (p = x ∧ q = y)) :
  Calls Try.prog 11 #[.pointer (some ⟨b, 0, none⟩), .int .i64 x, .int .i64 y] w fun e w' => e = .returned (.bool false) ∧ w' = w := by
  obtain ⟨h0, h1, h2, f0, f1, f2⟩ := h
  by_cases hp : p = x
  · have h3 : (p != x) = false := by simpa using hp
    have h4 : (q != y) = true := by simpa using fun e => hne ⟨hp, e⟩
    clear hne hp
    go_enter Try.func11, Try.ntmps11
    go_wp2
    all_goals go_ret
    all_goals simp_all
  · have h3 : (p != x) = true := by simpa using hp
    clear hne hp
    go_enter Try.func11, Try.ntmps11
    go_wp2
    all_goals go_ret
    all_goals simp_all

theorem by_any (b : Nat) (had : Bool) (p q : Int) (w : World) (h : LockAt w b had p q) :
  Calls Try.prog 12 #[.pointer (some ⟨b, 0, none⟩)] w fun e w' => e = .returned (.tuple #[.int .i64 p, .int .i64 q, .bool had]) ∧ ∃ n, w' = w.drewN n := by
  obtain ⟨h0, h1, h2, f0, f1, f2⟩ := h
  go_enter Try.func12, Try.ntmps12
  go_wp2
  go_quiet (fail)
  go_wp2
  all_goals go_ret3
  all_goals exact ⟨rfl, _, rfl⟩


theorem LockAt.set {w : World} {b : Nat} {had : Bool} {p q : Int} (h : LockAt w b had p q) (had' : Bool) (p' q' : Int) : LockAt (lockSet w b had' p' q') b had' p' q' := by
  obtain ⟨h0, h1, h2, f0, f1, f2⟩ := h
  constructor <;> simp [lockSet, go_sem, *]

theorem below_set {B : Nat} {a w : World} {b : Nat} (h : Below B a w) (hb : B ≤ b) (had : Bool) (p q : Int) : Below B a (lockSet w b had p q) :=
  ((h.setCell (p := ⟨b,0,none⟩) hb _).setCell (p := ⟨b,1,none⟩) hb _).setCell (p := ⟨b,2,none⟩) hb _
end Go.Proofs.Ytcpbcggfbopobaa
