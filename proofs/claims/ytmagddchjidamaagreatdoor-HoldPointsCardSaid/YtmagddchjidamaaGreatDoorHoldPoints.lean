/- HoldPoints: the walk. -/
import Derived.Test.YtmagddchjidamaaGreatDoorHoldCut
import Derived.Test.YtmagddchjidamaaGreatDoorGateTick
import Derived.Test.YtmagddchjidamaaGreatDoorViewNone
namespace Go.Proofs.YtmagddchjidamaaGreatDoor
set_option linter.unusedSimpArgs false
set_option linter.unusedVariables false
open Go.RowKit Go.Shelf
attribute [local go_sem ↓] Go.wp_at_zero Go.wp_at_succ

def stQ : HSt := ⟨1, 5, 0, [⟨0, 0, 1, 0⟩], false, ⟨0, 0⟩, []⟩
/-- behind the losing of all; the pointer so many ticks old -/
def ptsQ (kt : Int) (j : Nat) : List Ptr := if (j : Int) < 40 then [⟨0, 0, kt, j⟩] else []
def stG (kt : Int) (j : Nat) : HSt := ⟨1, 5, 0, [], false, ⟨0, 0⟩, ptsQ kt j⟩

theorem tickQ (kt : Int) (j : Nat) : tickP (ptsQ kt j) = ptsQ kt (j + 1) := by
  unfold ptsQ
  by_cases h : (j : Int) < 40
  · rw [if_pos h]
    by_cases h2 : (j : Int) + 1 < 40
    · rw [if_pos (by omega)]
      simp [tickP, h2]
    · rw [if_neg (by omega)]
      simp [tickP, h2]
  · rw [if_neg h, if_neg (by omega)]
    rfl

theorem lost_all : lostTo [⟨0, 0, 1, 0⟩] (piecesA ⟨0, 0⟩) = [] := by
  simp [piecesA, lostTo, lessO]

theorem inA_all (x : Int) : inA ⟨0, 0⟩ x = true := by simp [inA]

theorem whereQ (kt : Int) (j : Nat) (x : Int) : wherN ((stG kt j).whereP x) = if (j : Int) < 40 then kt else -1 := by
  unfold HSt.whereP stG ptsQ
  by_cases h : (j : Int) < 40
  · rw [if_pos h, if_pos h]
    simp [Ptr.arc, inA_all, wherN]
  · rw [if_neg h, if_neg h]
    rfl

theorem atQ (kt : Int) (j : Nat) (x : Int) : (stG kt j).at x = none := rfl

theorem ptsQ_ok (kt : Int) {j : Nat} (hj : j ≤ 60) : ptsQ kt j = [] ∨ ∃ p, ptsQ kt j = [p] ∧ 0 ≤ p.old ∧ p.old ≤ 1000 := by
  unfold ptsQ
  by_cases h : (j : Int) < 40
  · rw [if_pos h]; exact .inr ⟨_, rfl, by show (0 : Int) ≤ j; omega, by show (j : Int) ≤ 1000; omega⟩
  · rw [if_neg h]; exact .inl rfl

def PointsRel (w : World) (h : Nat) (kt : Int) (n : Nat) (i : Value) (wr : World) : Prop :=
  ∃ (j : Nat) (B : List Nat), j ≤ n ∧ i = .int .i64 j ∧ NewI w wr h (stG kt j) [] B

set_option maxRecDepth 100000 in
set_option maxHeartbeats 16000000 in
theorem points_walk {w : World} {k : ByteArray} {kt ticks : Int} (hk : k.size ≤ 9223372036854775807) :
    Calls Tryz.prog 10 #[.string k, .int .i64 kt, .int .i64 ticks] w fun e w' => e = .returned (.bool true) ∧ Mod NoB w w' := by
  by_cases hc : 1 ≤ k.size ∧ k.size ≤ 16 ∧ 0 ≤ ticks ∧ ticks ≤ 60
  case neg =>
    have hcc : k.size < 1 ∨ (¬ k.size < 1 ∧ 16 < k.size) ∨ (¬ k.size < 1 ∧ ¬ 16 < k.size ∧ ticks < 0) ∨ (¬ k.size < 1 ∧ ¬ 16 < k.size ∧ ¬ ticks < 0 ∧ 60 < ticks) := by omega
    clear hc
    rcases hcc with h1 | ⟨h1, h2⟩ | ⟨h1, h2, h3⟩ | ⟨h1, h2, h3, h4⟩
    all_goals
      go_enter Tryz.func10, Tryz.ntmps10
      go_wp2_with fail
      refine (alive_any _).mono ?_
      rintro e w1 ⟨rfl, hm1⟩
      have M1 := Lib.hid hm1
      clear hm1
      go_wp2_with fail
      go_ret
      exact ⟨rfl, M1.out⟩
  obtain ⟨c1, c2, c3, c4⟩ := hc
  have n1 : ¬ k.size < 1 := by omega
  have n2 : ¬ 16 < k.size := by omega
  have n3 : ¬ ticks < 0 := by omega
  have n4 : ¬ 60 < ticks := by omega
  obtain ⟨n, hn⟩ : ∃ n : Nat, ticks = (n : Int) := ⟨ticks.toNat, by omega⟩
  subst hn
  have hn60 : n ≤ 60 := by omega
  go_enter Tryz.func10, Tryz.ntmps10
  go_wp2_with fail
  refine (alive_any _).mono ?_
  rintro e w1 ⟨rfl, hm1⟩
  have M1 := Lib.hid hm1
  clear hm1
  go_wp2_with fail
  refine (new_any 1 5 _ (by decide) (by decide)).mono ?_
  rintro e w2 ⟨h, B2, rfl, q1, q2, q3⟩
  have N2 : Hid (NewI w1 w2 h ⟨1, 5, 0, [], false, ⟨0, 0⟩, []⟩ [] B2) := Lib.hid ⟨⟨none, 0, q1, ShOK.start⟩, q2, q3⟩
  have Q1 := Lib.hid q1
  clear q1 q2 q3
  go_wp2_with fail
  refine (own_any Q1.out ⟨0, 0⟩ 0 (by simp)).mono ?_
  rintro e w3 ⟨rfl, B3, hh3, ht3⟩
  rw [may_none (by decide) rfl] at hh3 ⊢
  rw [if_pos rfl] at hh3
  have N3 : Hid (NewI w1 w3 h stQ [] B3) := Lib.hid (N2.out.turn ⟨none, 0, hh3, ShOK.start⟩ ht3)
  clear hh3 ht3 Q1 N2
  go_wp2_with fail
  obtain ⟨tr3, m3, hh3, ho3⟩ := N3.out.1
  have HH3 := Lib.hid hh3; have HO3 := Lib.hid ho3
  clear hh3 ho3
  refine (freeze_whole (a := ⟨0, 0⟩) HH3.out (ep := 0) ⟨rfl, Int.le_refl _⟩ rfl ⟨⟨by decide, by decide⟩, ⟨by decide, by decide⟩⟩ (HO3.out.items (by decide)) (by decide)).mono ?_
  rintro e w4 ⟨vo, rfl, hrow, hnew, hh4, ht4⟩
  obtain ⟨av, acap, rfl⟩ : ∃ o cap, vo = .slice o _ cap := (ownsRow_form hrow).elim (fun h => ⟨none, 0, by rw [h.1, h.2]⟩) (fun ⟨g, cap, h⟩ => ⟨_, cap, h⟩)
  have N4 : Hid (NewI w1 w4 h { stQ with shut := true, a := ⟨0, 0⟩ } [] B3) := Lib.hid (N3.out.turn ⟨tr3, m3, hh4, HO3.out⟩ ht4)
  clear hrow hnew hh4 ht4 N3
  go_wp2_with fail
  refine (lose_I (st := { stQ with shut := true, a := ⟨0, 0⟩ }) N4.out.1 rfl kt ⟨⟨by decide, by decide⟩, ⟨by decide, by decide⟩⟩ (by decide) (show (1 : Nat) ≤ 100000 by decide) (show (0 : Nat) ≤ 1000000 by decide)).mono ?_
  rintro e w5 ⟨rfl, B5, hh5, ht5⟩
  have N5 : Hid (NewI w1 w5 h (stG kt 0) [] B5) := Lib.hid (by
    refine N4.out.turn ?_ ht5
    have e : stG kt 0 = { ({ stQ with shut := true, a := ⟨0, 0⟩ } : HSt) with own := lostTo stQ.own (piecesA ⟨0, 0⟩), shut := false, a := ⟨0, 0⟩, pts := stQ.pts ++ [⟨0, 0, kt, 0⟩] } := by
      have e1 : lostTo stQ.own (piecesA ⟨0, 0⟩) = [] := lost_all
      rw [e1]
      rfl
    rw [e]
    exact hh5)
  clear hh5 ht5 N4
  go_wp2_with fail
  go_loopw [11] (fun i wr => PointsRel w1 h kt n i wr) (fun i _ => n - (intOf i).toNat)
  case atStart => exact ⟨0, B5, Nat.zero_le _, rfl, N5.out⟩
  case round =>
    clear N5
    obtain ⟨j, B, hj, rfl, hN⟩ := hrel
    obtain ⟨Wr, rfl⟩ : ∃ Wr : World, Wr = wr := ⟨_, rfl⟩
    have NN := Lib.hid hN
    clear hN
    by_cases hlt : j < n
    · obtain ⟨trj, mj, hhj, hoj⟩ := NN.out.1
      have HHJ := Lib.hid hhj; have HOJ := Lib.hid hoj
      clear hhj hoj
      go_wp2_with fail
      refine (htick_any HHJ.out (ptsQ_ok kt (by omega))).mono ?_
      rintro e w6 ⟨⟨v, rfl⟩, B6, hh6, ht6⟩
      have N6 : Hid (NewI w1 w6 h (stG kt (j + 1)) [] B6) := Lib.hid (by
        refine NN.out.turn ⟨trj, mj, ?_, HOJ.out⟩ ht6
        have e : stG kt (j + 1) = { stG kt j with pts := tickP (stG kt j).pts } := by
          show stG kt (j + 1) = { stG kt j with pts := tickP (ptsQ kt j) }
          rw [tickQ]
          rfl
        rw [e]
        exact hh6)
      clear hh6 ht6
      go_wp2_with fail
      go_roundw
      case rel => exact ⟨j + 1, B6, by omega, by go_num, N6.out⟩
      case measure => simp [intOf]; omega
    · obtain rfl : j = n := by omega
      obtain ⟨trj, mj, hhj, hoj⟩ := NN.out.1
      have HHJ := Lib.hid hhj
      have hf0 := told_f0; have hf5 := told_f5
      clear hhj hoj
      go_wp2_with fail
      refine (do_else HHJ.out 1 (by decide) (by decide) k ⟨#[]⟩ ⟨#[]⟩ 0 c1 c2 (atQ kt j _) (by show (ptsQ kt j).length ≤ 1000000; unfold ptsQ; split <;> simp)).mono ?_
      rintro e w6 ⟨rfl, hm6⟩
      rw [whereQ]
      have HM6 := Lib.hid (NN.out.2.1.trans hm6)
      have H6 := Lib.hid (HHJ.out.mod hm6 (fun _ _ x => x))
      clear hm6
      dsimp only [encTold]
      by_cases h40 : (j : Int) < 40
      · rw [if_pos h40]
        go_wp2_with fail
        go_ret
        exact ⟨rfl, (M1.out.trans HM6.out).trans (by repeat (first | exact Mod.refl _ _ | refine Mod.alloc ?_ _ | refine Mod.drew ?_))⟩
      · rw [if_neg h40]
        go_wp2_with (first
          | (go_at_call 30; refine (harcs_none (H6.out.mod (S := NoB) (by repeat (first | exact Mod.refl _ _ | refine Mod.alloc ?_ _ | refine Mod.drew ?_)) (fun _ _ x => x)) rfl).mono ?_; rintro e w7 ⟨rfl, hm7⟩; have HM7 := Lib.hid (show Mod NoB w6 w7 from Mod.trans (by repeat (first | exact Mod.refl _ _ | refine Mod.alloc ?_ _ | refine Mod.drew ?_)) hm7); clear hm7)
          | (go_at_call 27; refine (lose_open (H6.out.mod HM7.out (fun _ _ x => x)) rfl kt).mono ?_; rintro e w8 ⟨rfl, hm8⟩; have HM8 := Lib.hid hm8; clear hm8))
        go_ret
        exact ⟨rfl, ((M1.out.trans HM6.out).trans HM7.out).trans HM8.out⟩
end Go.Proofs.YtmagddchjidamaaGreatDoor
