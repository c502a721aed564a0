/- (*hold.Hold).at, Has. -/
import Derived.Test.YtpcmbnbdppembaaGreatDoorHoldMem
namespace Go.Proofs.YtpcmbnbdppembaaGreatDoor
set_option linter.unusedSimpArgs false
set_option linter.unusedVariables false
open Go.RowKit Go.Shelf

theorem first_of {α : Type} (p : α → Bool) : (l : List α) → (∃ (k : Nat) (x : α), l[k]? = some x ∧ p x = true ∧ (∀ (j : Nat) y, j < k → l[j]? = some y → p y = false) ∧ l.find? p = some x) ∨ (l.find? p = none ∧ ∀ (j : Nat) y, l[j]? = some y → p y = false)
  | [] => .inr ⟨rfl, fun j y h => by simp at h⟩
  | x :: l => by
    cases hp : p x with
    | true => exact .inl ⟨0, x, rfl, hp, fun j y h => absurd h (by omega), by simp [hp]⟩
    | false =>
      rcases first_of p l with ⟨k, y, h1, h2, h3, h4⟩ | ⟨h1, h2⟩
      · refine .inl ⟨k + 1, y, by simpa using h1, h2, fun j z hj hz => ?_, by simp [hp, h4]⟩
        cases j with
        | zero => simp at hz; subst hz; exact hp
        | succ j => exact h3 j z (by omega) (by simpa using hz)
      · refine .inr ⟨by simp [hp, h1], fun j z hz => ?_⟩
        cases j with
        | zero => simp at hz; subst hz; exact hp
        | succ j => exact h2 j z (by simpa using hz)

theorem predAt (x : Int) (B : Nat) (w : World) (hB : B < w.heap.size) (h0 : w.cell? ⟨B, 0, none⟩ = some (.int .u64 x)) :
    PredBelow Tryz.prog 156 #[.pointer (some ⟨B, 0, none⟩)] (fun o => .agg (encOw o).toArray) (fun o => hasP o.arc x) w := fun W o hb => by
  have c0 : W.cell? ⟨B, 0, none⟩ = some (.int .u64 x) := (hb.cell (p := ⟨B, 0, none⟩) hB).trans h0
  have hBW : B < W.heap.size := Nat.lt_of_lt_of_le hB hb.size
  have hne : B ≠ W.heap.size := by omega
  show Calls Tryz.prog 156 #[.agg #[.int .u64 o.f, .int .u64 o.t, .int .i64 o.node, .int .i64 o.ep], .pointer (some ⟨B, 0, none⟩)] W _
  have HBL := Lib.hid hb
  clear hb h0
  go_enter Tryz.func156, Tryz.ntmps156
  go_wp2_with (go_at_call 157; refine (has_any o.arc x _).mono ?_; rintro e w' ⟨rfl, hm⟩; have HM := Lib.hid hm; clear hm)
  go_ret
  exact ⟨by first | rfl | simp, HBL.out.trans ((((Mod.refl NoB W).alloc _).trans HM.out).toBelow HBL.out.size)⟩

def HSt.at (st : HSt) (x : Int) : Option Ow := st.own.find? (fun o => hasP o.arc x)

def atRes : Option Ow → Value
  | none => .tuple #[.agg #[.int .u64 0, .int .u64 0, .int .i64 0, .int .i64 0], .bool false]
  | some o => .tuple #[.agg #[.int .u64 o.f, .int .u64 o.t, .int .i64 o.node, .int .i64 o.ep], .bool true]

set_option maxHeartbeats 4000000 in
theorem at_any {w : World} {h : Nat} {st : HSt} {tr : Option Tree} {n : Nat} {B : List Nat} (hh : HoldAt w h st tr n B) (x : Int) :
    Calls Tryz.prog 65 #[.pointer (some ⟨h, 0, none⟩), .int .u64 x] w fun e w' => e = .returned (atRes (st.at x)) ∧ Mod NoB w w' := by
  obtain ⟨vo, vp, s, L, h1, h2, h3, h4, hB, h5⟩ := hh
  have hlt : h < w.heap.size := (Array.getElem?_eq_some_iff.1 h1).1
  have c3 : w.cell? ⟨h, 3, none⟩ = some vo := cell_of h1 3 rfl
  clear h1 h3 h4 hB h5
  have eg : ∀ args w, (callFunc 156 args).run Tryz.prog w = .ok (.enter 156 args) w := enters_of Tryz.func156 (by kernel_rfl) rfl
  rcases own_row (k := 4) (enc := encOw) (fun _ => rfl) h2 with ⟨rfl, hl⟩ | ⟨g, cap, rfl, hg, hcap, hcm, hrow⟩
  · have HV := Lib.hid (show st.at x = none by simp [HSt.at, hl])
    clear h2 hl
    go_enter Tryz.func65, Tryz.ntmps65
    go_wp2_with (go_at_call 155; refine (idxOw_empty _ _ _ _).mono ?_; rintro e w' ⟨rfl, rfl⟩)
    refine bodyPost_ret (v := .tuple #[.agg #[.int .u64 0, .int .u64 0, .int .i64 0, .int .i64 0], .bool false]) (by simp [results, Tryz.results65, go_sem]) rfl ⟨by rw [HV.out]; rfl, ?_⟩
    repeat (first | exact Mod.refl _ _ | refine Mod.alloc ?_ _ | refine Mod.setCell ?_ (by simp; omega) _)
  · have hcon := AnyQ.slices_IndexFunc Tryz.ifOw 4 Tryz.isAgg128 Tryz.sizeOf128 encOw (fun _ => rfl) (fun o => hasP o.arc x) 156 #[.pointer (some ⟨w.heap.size, 0, none⟩)] eg g 0 st.own.length cap st.own
        ((w.alloc (.cells #[.int .u64 x] 23)).alloc (.cells #[.int .u64 0, .int .u64 0, .int .i64 0, .int .i64 0] 128))
        (predAt x w.heap.size _ (by simp; omega) (by simp)) (Nat.le_refl _) (Nat.le_trans hcap (by unfold maxLen at hcm; omega)) (by simp; omega) (fun j hj i u hu => Lib.cell?_alloc_some _ (Lib.cell?_alloc_some _ (hrow j hj i u hu)))
    change Calls Tryz.prog 155 _ _ _ at hcon
    rcases first_of (fun o : Ow => hasP o.arc x) st.own with ⟨k, o, f1, f2, f3, f4⟩ | ⟨f1, f2⟩
    · have hk : k < st.own.length := (List.getElem?_eq_some_iff.1 f1).1
      have hge : ∀ (j : Nat) (hj : j < st.own.length), st.own[j]? = some st.own[j]! := fun j hj => by rw [List.getElem?_eq_getElem hj]; simp [hj]
      have hko : st.own[k]! = o := by have := hge k hk; rw [f1] at this; exact (Option.some.inj this).symm
      rw [Lib.idxBy_hit (fun _ o => hasP o.arc x) st.own st.own.length k default hk (Nat.le_refl _) (by show hasP st.own[k]!.arc x = true; rw [hko]; exact f2) (fun j hj => f3 j _ hj (hge j (by omega)))] at hcon
      have HV := Lib.hid (show st.at x = some o from f4)
      have e0 := hrow k hk 0 _ rfl
      have e1 := hrow k hk 1 _ rfl
      have e2 := hrow k hk 2 _ rfl
      have e3 := hrow k hk 3 _ rfl
      rw [hko] at e0 e1 e2 e3
      simp only [Nat.zero_add, Nat.add_zero] at e0 e1 e2 e3
      clear hrow f3 f4 f2 hge hko f1 h2
      have hg2 : g < w.heap.size := hg
      have hlen2 : st.own.length ≤ 9223372036854775807 := Nat.le_trans hcap (by unfold maxLen at hcm; omega)
      go_enter Tryz.func65, Tryz.ntmps65
      go_wp2_with fail
      refine hcon.mono ?_
      rintro e w1 ⟨rfl, hb⟩
      have hmx := Mod.ofBelow hb
      have hmw : Mod NoB w w1 := (((Mod.refl NoB w).alloc _).alloc _).trans hmx
      have b0 := hmx.cellS (p := ⟨w.heap.size + 1, 0, none⟩) (u := .int .u64 0) (by simp)
      have b1 := hmx.cellS (p := ⟨w.heap.size + 1, 1, none⟩) (u := .int .u64 0) (by simp)
      have b2 := hmx.cellS (p := ⟨w.heap.size + 1, 2, none⟩) (u := .int .i64 0) (by simp)
      have b3 := hmx.cellS (p := ⟨w.heap.size + 1, 3, none⟩) (u := .int .i64 0) (by simp)
      have hsz : w.heap.size + 1 < w1.heap.size := by have := hb.size; simp at this; omega
      have g0 : w1.frozen? ⟨w.heap.size + 1, 0, none⟩ = false := (hmx.frozen (p := ⟨w.heap.size + 1, 0, none⟩) (by simp) (fun x => x)).trans (by simp)
      have g1 : w1.frozen? ⟨w.heap.size + 1, 1, none⟩ = false := (hmx.frozen (p := ⟨w.heap.size + 1, 1, none⟩) (by simp) (fun x => x)).trans (by simp)
      have g2 : w1.frozen? ⟨w.heap.size + 1, 2, none⟩ = false := (hmx.frozen (p := ⟨w.heap.size + 1, 2, none⟩) (by simp) (fun x => x)).trans (by simp)
      have g3 : w1.frozen? ⟨w.heap.size + 1, 3, none⟩ = false := (hmx.frozen (p := ⟨w.heap.size + 1, 3, none⟩) (by simp) (fun x => x)).trans (by simp)
      have c3' := hmw.cellS c3
      have d0 := hmw.cellS e0
      have d1 := hmw.cellS e1
      have d2 := hmw.cellS e2
      have d3 := hmw.cellS e3
      have HMW := Lib.hid hmw
      clear hb hmx hmw
      go_wp2_with fail
      refine bodyPost_ret (v := .tuple #[.agg #[.int .u64 o.f, .int .u64 o.t, .int .i64 o.node, .int .i64 o.ep], .bool true]) (by simp [results, Tryz.results65, go_sem, *]) rfl ⟨by rw [HV.out]; rfl, ?_⟩
      repeat (first | exact HMW.out | refine Mod.setCell ?_ (fun h => absurd h (by simp only; omega)) _)
    · have hge : ∀ (j : Nat) (hj : j < st.own.length), st.own[j]? = some st.own[j]! := fun j hj => by rw [List.getElem?_eq_getElem hj]; simp [hj]
      rw [Lib.idxBy_miss (fun _ o => hasP o.arc x) st.own st.own.length default (fun j hj => f2 j _ (hge j hj))] at hcon
      have HV := Lib.hid (show st.at x = none from f1)
      clear hrow f1 f2 hge h2
      go_enter Tryz.func65, Tryz.ntmps65
      go_wp2_with fail
      refine hcon.mono ?_
      rintro e w1 ⟨rfl, hb⟩
      have hmx := Mod.ofBelow hb
      have hmw : Mod NoB w w1 := (((Mod.refl NoB w).alloc _).alloc _).trans hmx
      have b0 := hmx.cellS (p := ⟨w.heap.size + 1, 0, none⟩) (u := .int .u64 0) (by simp)
      have b1 := hmx.cellS (p := ⟨w.heap.size + 1, 1, none⟩) (u := .int .u64 0) (by simp)
      have b2 := hmx.cellS (p := ⟨w.heap.size + 1, 2, none⟩) (u := .int .i64 0) (by simp)
      have b3 := hmx.cellS (p := ⟨w.heap.size + 1, 3, none⟩) (u := .int .i64 0) (by simp)
      have hsz : w.heap.size + 1 < w1.heap.size := by have := hb.size; simp at this; omega
      have g0 : w1.frozen? ⟨w.heap.size + 1, 0, none⟩ = false := (hmx.frozen (p := ⟨w.heap.size + 1, 0, none⟩) (by simp) (fun x => x)).trans (by simp)
      have g1 : w1.frozen? ⟨w.heap.size + 1, 1, none⟩ = false := (hmx.frozen (p := ⟨w.heap.size + 1, 1, none⟩) (by simp) (fun x => x)).trans (by simp)
      have g2 : w1.frozen? ⟨w.heap.size + 1, 2, none⟩ = false := (hmx.frozen (p := ⟨w.heap.size + 1, 2, none⟩) (by simp) (fun x => x)).trans (by simp)
      have g3 : w1.frozen? ⟨w.heap.size + 1, 3, none⟩ = false := (hmx.frozen (p := ⟨w.heap.size + 1, 3, none⟩) (by simp) (fun x => x)).trans (by simp)
      have HMW := Lib.hid hmw
      clear hb hmx hmw
      go_wp2_with fail
      refine bodyPost_ret (v := .tuple #[.agg #[.int .u64 0, .int .u64 0, .int .i64 0, .int .i64 0], .bool false]) (by simp [results, Tryz.results65, go_sem, *]) rfl ⟨by rw [HV.out]; rfl, ?_⟩
      repeat (first | exact HMW.out | refine Mod.setCell ?_ (fun h => absurd h (by simp only; omega)) _)

theorem hasH_any {w : World} {h : Nat} {st : HSt} {tr : Option Tree} {n : Nat} {B : List Nat} (hh : HoldAt w h st tr n B) (x : Int) :
    Calls Tryz.prog 21 #[.pointer (some ⟨h, 0, none⟩), .int .u64 x] w fun e w' => e = .returned (.bool (st.at x).isSome) ∧ Mod NoB w w' := by
  have HH := Lib.hid hh
  clear hh
  cases hr : st.at x with
  | none =>
    go_enter Tryz.func21, Tryz.ntmps21
    go_wp2_with (go_at_call 65; refine (at_any HH.out x).mono ?_; rintro e w1 ⟨rfl, hm⟩; rw [hr]; unfold atRes)
    go_ret
    exact ⟨rfl, hm.alloc _⟩
  | some o =>
    go_enter Tryz.func21, Tryz.ntmps21
    go_wp2_with (go_at_call 65; refine (at_any HH.out x).mono ?_; rintro e w1 ⟨rfl, hm⟩; rw [hr]; unfold atRes)
    go_ret
    exact ⟨rfl, hm.alloc _⟩
end Go.Proofs.YtpcmbnbdppembaaGreatDoor
