/- (*shelf.node).last and (*shelf.node).del, at every depth. -/
import Derived.Test.YtmagddchjidamaaGreatDoorDelFill
namespace Go.Proofs.YtmagddchjidamaaGreatDoor
set_option linter.unusedSimpArgs false
set_option linter.unusedVariables false
open Go.RowKit Go.Shelf
attribute [local go_sem ↓] Go.wp_at_zero Go.wp_at_succ

theorem okT.its_ne {d : Nat} {t : Tree} (h : okT d t) (hn : t.xs ≠ []) : ∃ P z, t.its = P ++ [z] := by
  refine ⟨t.its.dropLast, t.its.getLast (fun e => ?_), (List.dropLast_concat_getLast _).symm⟩
  obtain ⟨xs, ts⟩ := t
  cases xs with
  | nil => exact hn rfl
  | cons x xs =>
    have := h.mem (x := x) (by simp)
    rw [e] at this
    cases this

/-- the last child's last item -/
theorem its_last {xs : List Itm} {A : List Tree} {t : Tree} (h : A.length = xs.length) : (Tree.mk xs (A ++ [t])).its = preT xs A ++ t.its := by
  have := its_focus (x1 := xs) (x2 := []) (A := A) (B := []) (t := t) h rfl
  simpa [postT] using this

/-- the way down to the last one -/
structure DownL (w : World) (z : Itm) (dx xb : Nat) (tx : Tree) : Prop where
  ex : ∃ Lx, TreeP w xb tx Lx
  ok : okT dx tx
  ne : 1 ≤ tx.xs.length
  last : ∃ P, tx.its = P ++ [z]

theorem DownL.step {w : World} {z : Itm} {dx xb : Nat} {tx : Tree} (h : DownL w z (dx + 1) xb tx) : ∃ v u bs A c tc, NodeAt w xb v tx.xs u bs ∧ bs = A ++ [c] ∧ bs.length ≤ 7 ∧ DownL w z dx c tc := by
  obtain ⟨⟨Lx, ht⟩, ho, hne, P, hP⟩ := h
  obtain ⟨xs, ts⟩ := tx
  have hkl := kids_le ho
  unfold okT at ho
  obtain ⟨o1, o2, o3⟩ := ho
  obtain ⟨A, tc, rfl⟩ : ∃ A tc, ts = A ++ [tc] := by
    refine ⟨ts.dropLast, ts.getLast (fun e => ?_), (List.dropLast_concat_getLast _).symm⟩
    rw [e] at o1; simp at o1
  obtain ⟨v, u, bs, Ls, h1, h2, hp⟩ := ht.open
  have hl := h2.len
  obtain ⟨bA, c, bB, LA, Lc, LB, rfl, hbA, k1, k2, k3, kp⟩ := h2.mid
  have hB : bB = [] := List.eq_nil_of_length_eq_zero k3.len
  subst hB
  have htc := o3 tc (by simp)
  have hAl : A.length = xs.length := by simp at o1; omega
  obtain ⟨P', z', hz⟩ := htc.1.its_ne (by intro e; have := htc.2; rw [e] at this; simp at this)
  refine ⟨v, u, _, bA, c, tc, h1, rfl, by rw [hl]; exact hkl, ⟨Lc, k2⟩, htc.1, by omega, P', ?_⟩
  rw [its_last hAl, hz, ← List.append_assoc] at hP
  obtain ⟨_, e⟩ := List.append_inj' hP rfl
  rw [hz, e]

set_option maxRecDepth 100000 in
set_option maxHeartbeats 8000000 in
theorem last_ok {w : World} {b d : Nat} {t : Tree} {L : List Nat} {P : List Itm} {z : Itm} (h : TreeP w b t L) (ho : okT d t) (hn : 1 ≤ t.xs.length) (hz : t.its = P ++ [z]) :
    Calls Tryz.prog 96 #[.pointer (some ⟨b, 0, none⟩)] w fun e w' => e = .returned (.agg #[.string z.1, .string z.2]) ∧ Mod NoB w w' := by
  have H0 := Lib.hid (show DownL w z d b t from ⟨⟨L, h⟩, ho, hn, P, hz⟩)
  clear h ho hn hz
  go_enter Tryz.func96, Tryz.ntmps96
  go_wp2_with fail
  go_loopg [0] d (fun dx p wr => ∃ xb tx, p = .pointer (some ⟨xb, 0, none⟩) ∧ DownL w z dx xb tx ∧ Mod NoB w wr ∧ wr.heap[w.heap.size]? = some (.cells #[.string ⟨#[]⟩, .string ⟨#[]⟩] 43 (0, 0)))
  case atStart => exact ⟨b, t, rfl, H0.out, (Mod.refl _ _).alloc _, heap_alloc_new _ _⟩
  case round =>
    obtain ⟨xb, tx, rfl, hd, hm, hr⟩ := hrel
    obtain ⟨Wr, rfl⟩ : ∃ Wr : World, Wr = wr := ⟨_, rfl⟩
    have HM := Lib.hid hm; have HR := Lib.hid hr
    cases gk with
    | zero =>
      obtain ⟨⟨Lx, ht⟩, ho, hne, P, hP⟩ := hd
      obtain ⟨xs, ts⟩ := tx
      have hwide := ho.wide
      unfold okT at ho
      obtain ⟨rfl, hle⟩ := ho
      rw [its_leaf] at hP
      obtain ⟨v, u, bs, Ls, h1, h2, hp⟩ := ht.open
      have hbs : bs.length = 0 := h2.len
      have hN := NodeAt.mod h1 hm (fun _ _ e => e)
      obtain ⟨gv, cv, ev, lv, _⟩ := Nd.vform (x := ⟨xb, v, xs, u, bs⟩) hN (by intro e; dsimp only at e; rw [e] at hP; simp at hP)
      dsimp only at ev lv
      have hc := Nd.cv (x := ⟨xb, v, xs, u, bs⟩) hN
      obtain ⟨i0, i1, _⟩ := Nd.item (x := ⟨xb, v, xs, u, bs⟩) hN ev (x1 := P) (y := z) (x2 := []) hP
      obtain ⟨c0, _⟩ := hc
      dsimp only at c0
      rw [ev] at c0
      have hxl : xs.length = P.length + 1 := by rw [hP]; simp
      rw [hxl] at c0 lv
      have HLF := Lib.hid (leaf_node hN)
      have r0 : Wr.cell? ⟨w.heap.size, 0, none⟩ = some (.string ⟨#[]⟩) := cell_of hr 0 rfl
      have r1 : Wr.cell? ⟨w.heap.size, 1, none⟩ = some (.string ⟨#[]⟩) := cell_of hr 1 rfl
      have rf0 := frozen_of hr 0
      have rf1 := frozen_of hr 1
      have hi : (P.length : Int) < (P.length : Int) + 1 := by omega
      have hPl : P.length ≤ 100 := by omega
      have hw1 : IntKind.i64.wrap (P.length : Int) = (P.length : Int) := (wraps_small P.length hPl).1
      have hlt : w.heap.size < Wr.heap.size := (Array.getElem?_eq_some_iff.1 hr).1
      have HX := Lib.hid hxl
      clear ht hP hwide h1 h2 hp hN ev hm hr hne hle hxl hPl
      go_wp2_with (go_at_call 75; refine HLF.out.mono ?_; rintro e w2 ⟨rfl, rfl⟩)
      go_upto_region 3 with (fail)
      go_region_law (fail)
      all_goals
        go_wp2_with fail
        refine bodyPost_ret (v := .agg #[.string z.1, .string z.2]) (by simp [results, Tryz.results96, go_sem, *]) rfl ⟨rfl, ?_⟩
        exact (Mod.setCell (Mod.setCell HM.out (fun h => absurd h (Nat.lt_irrefl _)) _) (fun h => absurd h (Nat.lt_irrefl _)) _).drew
    | succ dx =>
      obtain ⟨v, u, bs, A, c, tc, h1, hbs, hb7, hd2⟩ := hd.step
      have hN := NodeAt.mod h1 hm (fun _ _ e => e)
      obtain ⟨gu, cu, eu, lu, _⟩ := Nd.uform (x := ⟨xb, v, tx.xs, u, bs⟩) hN (by intro e; dsimp only at e; rw [e] at hbs; simp at hbs)
      dsimp only at eu lu
      have hk := Nd.kid (x := ⟨xb, v, tx.xs, u, bs⟩) hN eu (b1 := A) (c := c) (b2 := []) hbs
      obtain ⟨_, c1, _⟩ := Nd.cv (x := ⟨xb, v, tx.xs, u, bs⟩) hN
      dsimp only at c1
      rw [eu] at c1
      have hbl : bs.length = A.length + 1 := by rw [hbs]; simp
      rw [hbl] at c1 lu hb7
      have hb0 : ¬ bs.length = 0 := by omega
      have HLF := Lib.hid (leaf_node hN)
      have hi : (A.length : Int) < (A.length : Int) + 1 := by omega
      have hw1 : IntKind.i64.wrap (A.length : Int) = (A.length : Int) := (wraps_small A.length (by omega)).1
      have HD := Lib.hid hd2
      clear h1 hbs hN eu hd hm hr hd2 hbl
      go_wp2_with (go_at_call 75; refine HLF.out.mono ?_; rintro e w2 ⟨rfl, rfl⟩)
      go_quiet (fail)
      go_wp2_with fail
      go_roundg dx
      case measure => exact Nat.lt_succ_self _
      case rel => exact ⟨c, tc, rfl, HD.out, HM.out.trans (by repeat (first | exact Mod.refl _ _ | refine Mod.alloc ?_ _ | refine Mod.drew ?_ | refine Mod.drewN ?_ _)), HR.out⟩
end Go.Proofs.YtmagddchjidamaaGreatDoor
