/- (*view.View).arcs and All of a view that knows nothing; (*hold.Hold).Lose of what is not shut. -/
import Derived.Test.YtpcmbnbdppembaaGreatDoorHoldDo
import Derived.Test.YtpcmbnbdppembaaGreatDoorCollect
import Derived.Test.YtpcmbnbdppembaaGreatDoorSlKit
namespace Go.Proofs.YtpcmbnbdppembaaGreatDoor
set_option linter.unusedSimpArgs false
set_option linter.unusedVariables false
open Go.RowKit Go.Shelf
attribute [local go_sem ↓] Go.wp_at_zero Go.wp_at_succ
attribute [local go_sem] Oper.semAt_some

set_option maxRecDepth 100000 in
set_option maxHeartbeats 8000000 in
theorem arcs_none {w : World} {v : Nat} (h : w.cell? ⟨v, 0, none⟩ = some (.slice none 0 0)) :
    Calls Tryz.prog 165 #[.pointer (some ⟨v, 0, none⟩)] w fun e w' => e = .returned (.slice none 0 0) ∧ ∃ q, w' = w.drewN q := by
  go_enter Tryz.func165, Tryz.ntmps165
  go_wp2_with fail
  go_loopw [3, 18] (fun l i wr => l = .slice none 0 0 ∧ i = .int .i64 0 ∧ wr = w) (fun _ _ _ => 0)
  case atStart => exact ⟨rfl, rfl, rfl⟩
  case round =>
    obtain ⟨rfl, rfl, rfl⟩ := hrel
    go_wp2_with fail
    go_loopw [6, 43] (fun l i w2 => l = .slice none 0 0 ∧ i = .int .i64 0 ∧ w2 = wr) (fun _ _ _ => 0)
    case atStart => exact ⟨rfl, rfl, rfl⟩
    case round =>
      obtain ⟨rfl, rfl, rfl⟩ := hrel
      go_wp2_with fail
      go_quiet (fail)
      go_wp2_with fail
      go_ret
      exact ⟨rfl, _, rfl⟩

theorem vall_make (v : Nat) (w : World) : Calls Tryz.prog 80 #[.pointer (some ⟨v, 0, none⟩)] w fun e w' =>
    e = .returned (.func (.func 164) #[] #[.pointer (some ⟨w.heap.size, 0, none⟩)]) ∧ w' = w.alloc (.cells #[.pointer (some ⟨v, 0, none⟩)] 204) := by
  go_enter Tryz.func80, Tryz.ntmps80
  go_wp2_with fail
  go_ret
  exact ⟨rfl, rfl⟩

set_option maxRecDepth 100000 in
set_option maxHeartbeats 8000000 in
theorem lose_open {w : World} {h : Nat} {st : HSt} {tr : Option Tree} {n : Nat} {B : List Nat} (hh : HoldAt w h st tr n B) (hs : st.shut = false) (kt : Int) :
    Calls Tryz.prog 62 #[.pointer (some ⟨h, 0, none⟩), .int .i64 kt] w fun e w' => e = .returned (.int .i64 10) ∧ Mod NoB w w' := by
  have HH := Lib.hid hh
  clear hh
  go_enter Tryz.func62, Tryz.ntmps62
  go_wp2_with fail
  refine (garc_any HH.out).mono ?_
  rintro e w1 ⟨rfl, hm1⟩
  rw [hs]
  have HM1 := Lib.hid hm1
  clear hm1
  go_wp2_with fail
  go_ret
  exact ⟨rfl, HM1.out.trans (by repeat (first | exact Mod.refl _ _ | refine Mod.alloc ?_ _ | refine Mod.drew ?_))⟩

theorem grown_drewN (w : World) (q : Nat) : w.grownBy (w.drewN q) none := by
  constructor <;> first | rfl | (intros; rfl) | (intros; assumption) | simp

set_option maxRecDepth 100000 in
set_option maxHeartbeats 8000000 in
/-- a view that knows nothing goes through nothing -/
theorem vall_seq {Bv v : Nat} {w : World} (h1 : w.cell? ⟨Bv, 0, none⟩ = some (.pointer (some ⟨v, 0, none⟩))) (h2 : w.cell? ⟨v, 0, none⟩ = some (.slice none 0 0)) {α : Type} (encs : α → Array Value) (Kp : World → World → Prop) :
    SeqStopsK Fence.wide 5 Tryz.prog 164 #[.pointer (some ⟨Bv, 0, none⟩)] encs Kp (fun xs => xs = []) (fun _ => False) 0 w := by
  intro l J Jx W hW hJ hJx _ h0
  have hm := Mod.ofBelow hW
  have c1 := hm.cellS h1
  have c2 := hm.cellS h2
  refine callsIn_wide.2 ?_
  have HJ := Lib.hid hJ; have H0 := Lib.hid h0
  clear hJ hJx h0 hW h1 h2 hm
  show Calls _ _ #[.func (.yield l) #[] #[], .pointer (some ⟨Bv, 0, none⟩)] W _
  go_enter Tryz.func164, Tryz.ntmps164
  go_wp2_with fail
  refine (arcs_none c2).mono ?_
  rintro e w1 ⟨rfl, q, rfl⟩
  have hJ1 := HJ.out [] W (W.drewN q) none H0.out (grown_drewN W q) (fun r e => by cases e)
  have HJ1 := Lib.hid hJ1
  clear hJ1
  go_wp2_with fail
  go_loopw [8] (fun i wr => i = .int .i64 0 ∧ wr = W.drewN q) (fun _ _ => 0)
  case atStart => exact ⟨rfl, rfl⟩
  case round =>
    obtain ⟨rfl, rfl⟩ := hrel
    go_wp2_with fail
    refine bodyPost_end (results_none rfl _ _ _) rfl ⟨⟨_, rfl⟩, .inl ⟨[], rfl, HJ1.out⟩⟩

set_option maxRecDepth 100000 in
set_option maxHeartbeats 8000000 in
theorem harcs_none {w : World} {h : Nat} {st : HSt} {tr : Option Tree} {n : Nat} {B : List Nat} (hh : HoldAt w h st tr n B) (ho : st.own = []) :
    Calls Tryz.prog 34 #[.pointer (some ⟨h, 0, none⟩)] w fun e w' => e = .returned (.slice none 0 0) ∧ Mod NoB w w' := by
  obtain ⟨vo, vp, s, L, q1, q2, q3, q4, rfl, q5⟩ := hh
  have c3 : w.cell? ⟨h, 3, none⟩ = some vo := cell_of q1 3 rfl
  rw [ho] at q2
  obtain ⟨av, cap, rfl⟩ : ∃ a cap, vo = .slice a 0 cap := (ownsRow_form q2).elim (fun h => ⟨none, 0, h.1⟩) (fun ⟨g, cap, h⟩ => ⟨_, cap, h⟩)
  have c3a : ∀ o1 o2, ((w.alloc o1).alloc o2).cell? ⟨h, 3, none⟩ = some (.slice av 0 cap) := fun o1 o2 => (((Mod.refl NoB w).alloc o1).alloc o2).cellS (by simpa using c3)
  clear q1 q2 q3 q4 q5
  refine (callsIn_wide (n := 6)).1 ?_
  refine callsIn_of_wp_marks Tryz.func34 rfl trivial ?_ rfl
  simp only [Tryz.ntmps34, List.size_toArray, List.length_cons, List.length_nil, Nat.reduceAdd, Nat.reduceSub, Array.replicate_succ, Array.replicate_zero, List.push_toArray, List.append_toArray, List.nil_append, List.cons_append]
  gi_wp2
  gi_loopw [15] (fun i wr => i = .int .i64 0 ∧ wr = (w.alloc (.cells #[.pointer (some ⟨h, 0, none⟩)] 28)).alloc (.cells #[.slice none 0 0] 146)) (fun _ _ => 0)
  case atStart => exact ⟨rfl, rfl⟩
  case round =>
    obtain ⟨rfl, rfl⟩ := hrel
    gi_wp2
    refine ⟨trivial, ?_⟩
    refine (callsIn_wide.2 (vall_make _ _)).mono ?_
    rintro e w2 ⟨rfl, hw2⟩
    obtain ⟨B0, hB0⟩ : ∃ B0, B0 = w.heap.size := ⟨_, rfl⟩
    have hv2 : w2.cell? ⟨B0 + 1, 0, none⟩ = some (.slice none 0 0) := by
      rw [hw2, hB0]
      refine Mod.cellS (((Mod.refl NoB _).alloc _).alloc _) ?_
      have := heap_two2 w (.cells #[.pointer (some ⟨h, 0, none⟩)] 28) (.cells #[.slice none 0 0] 146)
      exact cell_of this 0 rfl
    have ho2 : w2.cell? ⟨B0 + 1 + 1, 0, none⟩ = some (.slice none 0 0) := by
      rw [hw2, hB0]
      refine Mod.cellS ((Mod.refl NoB _).alloc _) ?_
      have := heap_alloc_new ((w.alloc (.cells #[.pointer (some ⟨h, 0, none⟩)] 28)).alloc (.cells #[.slice none 0 0] 146)) (.cells #[.slice none 0 0] 32)
      have e := cell_of this 0 rfl
      simpa using e
    have hb2 : w2.cell? ⟨B0 + 1 + 1 + 1, 0, none⟩ = some (.pointer (some ⟨B0 + 1, 0, none⟩)) := by
      rw [hw2, hB0]
      have := heap_alloc_new (((w.alloc (.cells #[.pointer (some ⟨h, 0, none⟩)] 28)).alloc (.cells #[.slice none 0 0] 146)).alloc (.cells #[.slice none 0 0] 32)) (.cells #[.pointer (some ⟨w.heap.size + 1, 0, none⟩)] 204)
      have e := cell_of this 0 rfl
      simpa using e
    have hm2 : Mod NoB w w2 := by rw [hw2]; exact ((((Mod.refl NoB w).alloc _).alloc _).alloc _).alloc _
    simp only [World.size_alloc]
    rw [← hB0]
    have HM2 := Lib.hid hm2; have HV2 := Lib.hid hv2; have HO2 := Lib.hid ho2; have HB2 := Lib.hid hb2; have HB0 := Lib.hid hB0
    clear hw2 c3a hm2 hv2 ho2 hb2 hB0 c3
    have hbl : Below w2.heap.size w2 w2 := Below.refl _ _
    have hn2 : B0 + 1 + 1 < w2.heap.size := cell_lt' HO2.out
    have HN2 := Lib.hid hn2
    gi_wp2
    refine wpIn_rangeFunc_ownF rfl (by decide) (gf := 164) (lb := #[.pointer (some ⟨B0 + 1 + 1 + 1, 0, none⟩)]) rfl trivial (enters_of Tryz.func164 (by kernel_rfl) rfl) (vall_seq HB2.out HV2.out (fun x : Empty => x.elim) (fun _ _ => True)) (fun _ _ => trivial) (fun _ _ _ _ _ _ _ _ => trivial) (Below.refl _ _) (fun x => x.elim)
      (fun pre W => Below w2.heap.size w2 W) (fun _ _ _ => False) ?hI ?hIx ?h0 (fun x => x.elim) ?assign ?body ?done ?stop
    case hI => exact ownFrom_below (Nat.le_refl _) (Nat.le_refl _)
    case hIx => intro c s A B row hs; exact hs.elim
    case h0 => exact hbl
    case assign => intro l x; exact x.elim
    case body => intro l pre x; exact x.elim
    case stop => intro D c pre W hD hp; exact hp.elim
    case done =>
      rintro D xs W hD rfl hB hK
      have hmW := Mod.ofBelow hB
      have hc := hmW.cellS HO2.out
      gi_wp2
      refine ⟨by simp, .inl ⟨_, _, rfl, run_takeDeferred hK, ?_⟩⟩
      refine ⟨_, results_tmp rfl _ _ _, rfl, ?_⟩
      exact HM2.out.trans (Mod.ofBelow (hB.trans (belowK_b (w := w2) (Nat.le_refl _) W D _ _ (by omega) hK rfl rfl)))
end Go.Proofs.YtpcmbnbdppembaaGreatDoor
