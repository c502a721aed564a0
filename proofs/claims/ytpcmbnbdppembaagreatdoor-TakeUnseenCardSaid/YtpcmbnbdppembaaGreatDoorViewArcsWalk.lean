/- (*view.View).arcs: the walk. -/
import Derived.Test.YtpcmbnbdppembaaGreatDoorViewArcs
import Derived.Test.YtpcmbnbdppembaaGreatDoorViewLearn
import Derived.Deep.AppendLies
import Derived.StillTailTactics
import Derived.Maps.AppendAt
import Derived.Deep.QuietTactic
import Derived.BigQuiet
import Derived.Test.YtpcmbnbdppembaaGreatDoorHoldOwn
namespace Go.Proofs.YtpcmbnbdppembaaGreatDoor
set_option linter.unusedSimpArgs false
set_option linter.unusedVariables false
open Go.RowKit Go.Shelf
attribute [local go_sem ↓] Go.wp_at_zero Go.wp_at_succ

theorem newsPt {W : World} {p : Pt} {e : TypeId} {b j : Nat} {u : Value} (hb : W.heap[b]? = some (.cells (encPt p).toArray e (0, 0))) (hu : (encPt p)[j]? = some u) : W.cell? ((⟨b, 0, none⟩ : Addr).add j) = some u :=
  World.news_of_block hb j u (by simpa using hu)
theorem vown_low {W : World} {b b' size n : Nat} {e : TypeId} {v : Value} {ys : List Value} (h : W.ownsRow b e size v n ys) (hb : b' ≤ b) : W.ownsRow b' e size v n ys := by
  refine ⟨h.1, ?_⟩
  rcases h.2 with h2 | ⟨g, cap, cur, rfl, h3, h4⟩
  · exact .inl h2
  · exact .inr ⟨g, cap, cur, rfl, Nat.le_trans hb h3, h4⟩
theorem heap_at {W : World} {o : Obj} {b : Nat} (h : b = W.heap.size) : (W.alloc o).heap[b]? = some o := by rw [h]; exact heap_alloc_new W o

/-- what arcs tells, and whether the last part goes on at the beginning -/
def overB (c : List Pt) : Bool := match c[0]?, c[c.length - 1]? with
  | some a, some b => decide (1 < c.length) && decide (0 ≤ a.n) && alikeP a b
  | _, _ => false
def closeE (o : List Ow) : List Ow := match o[0]?, o[o.length - 1]? with
  | some a, some b => (o.set (o.length - 1) ⟨b.f, a.t, b.node, b.ep⟩).drop 1
  | _, _ => o
def arcsV (l : List Pt) : List Ow := if overB (compP l) = true then closeE (arcK (compP l) (compP l).length) else arcK (compP l) (compP l).length
theorem overB_no {c : List Pt} (h : ¬ overEnd c) : overB c = false := by
  unfold overB
  split
  · rename_i a b h1 h2
    rw [Bool.eq_false_iff]
    intro hx
    simp only [Bool.and_eq_true, decide_eq_true_eq] at hx
    exact h ⟨a, b, h1, h2, hx.1.1, hx.1.2, hx.2⟩
  · rfl
theorem overB_at {c : List Pt} {a b : Pt} (h1 : c[0]? = some a) (h2 : c[c.length - 1]? = some b) : overB c = (decide (1 < c.length) && decide (0 ≤ a.n) && alikeP a b) := by
  unfold overB
  rw [h1, h2]
theorem arcK_pos {c : List Pt} {a : Pt} (h1 : c[0]? = some a) (h2 : 0 ≤ a.n) : (k : Nat) → 1 ≤ k → 1 ≤ (arcK c k).length
  | 1, _ => by simp [arcK, h1, h2]
  | k + 2, _ => by
    have := arcK_pos h1 h2 (k + 1) (by omega)
    unfold arcK
    rw [List.length_append]
    omega
theorem oflat_set (l : List Ow) {j : Nat} {p : Ow} (hj : l[j]? = some p) (a : Int) :
    (l.flatMap encOw).set (j * 4 + 1) (.int .u64 a) = (l.set j ⟨p.f, a, p.node, p.ep⟩).flatMap encOw := by
  induction l generalizing j with
  | nil => simp at hj
  | cons y l ih =>
    cases j with
    | zero =>
      simp only [List.getElem?_cons_zero, Option.some.injEq] at hj
      subst hj
      simp [encOw]
    | succ j =>
      simp only [List.getElem?_cons_succ] at hj
      have := ih hj
      rw [List.set_cons_succ, List.flatMap_cons, List.flatMap_cons, ← this]
      have e1 : (j + 1) * 4 + 1 = (encOw y).length + (j * 4 + 1) := by simp; omega
      rw [e1, List.set_append_right _ _ (by omega), Nat.add_sub_cancel_left]
theorem slAt_tail {w : World} {b o n cap : Nat} {l : List Ow} (h : SlAt 4 encOw w (.slice (some ⟨b, o, none⟩) n cap) l) : SlAt 4 encOw w (.slice (some ⟨b, o + 4, none⟩) (n - 1) (cap - 1)) (l.drop 1) := by
  obtain ⟨a, cap', hv, hx⟩ := h
  simp only [Value.slice.injEq] at hv
  obtain ⟨rfl, rfl, rfl⟩ := hv
  refine ⟨_, _, by rw [List.length_drop], fun i x hi => ?_⟩
  rw [List.getElem?_drop] at hi
  obtain ⟨b', o', e, hj⟩ := hx (1 + i) x hi
  simp only [Option.some.injEq, Addr.mk.injEq] at e
  obtain ⟨rfl, rfl, _⟩ := e
  refine ⟨_, _, rfl, fun j u hu => ?_⟩
  have := hj j u hu
  rw [show o + 4 + i * 4 + j = o + (1 + i) * 4 + j by omega]
  exact this

set_option maxRecDepth 100000 in
set_option maxHeartbeats 16000000 in
theorem varcs_any {w : World} {v : Nat} {l : List Pt} {B : List Nat} (h : ViewAt w v l B) (hl : l.length ≤ 50000) :
    Calls Tryz.prog 165 #[.pointer (some ⟨v, 0, none⟩)] w fun e w' => ∃ u, e = .returned u ∧ SlAt 4 encOw w' u (arcsV l) ∧ (∀ g ∈ ownL u, w.heap.size ≤ g ∧ g < w'.heap.size) ∧ Mod NoB w w' := by
  obtain ⟨i0, z0, hi, hz0, hz1, hz2, hz3⟩ := partsPt
  obtain ⟨u, h1, h2, rfl, h4⟩ := h
  have hsl := own_slAt (k := 3) (enc := encPt) (fun _ => rfl) h2
  obtain ⟨av, cap, rfl, hjunk⟩ := id hsl
  clear hjunk
  have HSL := Lib.hid hsl
  have c0 := cell_of h1 0 (v := .slice av l.length cap) rfl
  clear h1 h2 h4 hsl
  go_enter Tryz.func165, Tryz.ntmps165
  go_wp2_with fail
  go_loopw [3, 18] (fun s3 s18 wr => ∃ k : Nat, k ≤ l.length ∧ s18 = .int .i64 k ∧ wr.ownsRow w.heap.size 211 3 s3 ((l.take k).foldl compA []).length (((l.take k).foldl compA []).flatMap encPt) ∧ Below w.heap.size w wr) (fun _ s18 _ => l.length - (intOf s18).toNat)
  case atStart => exact ⟨0, Nat.zero_le _, rfl, World.ownsRow_nil _ _ _ _, Below.refl _ _⟩
  case round =>
    obtain ⟨k, hk, rfl, hrow, hbel⟩ := hrel
    obtain ⟨Wr, rfl⟩ : ∃ Wr : World, Wr = wr := ⟨_, rfl⟩
    by_cases hlt : k < l.length
    · have he : l[k]? = some l[k] := List.getElem?_eq_getElem hlt
      obtain ⟨b, o, cp, hv, hb, r0, r1, r2⟩ := at3 (HSL.out.mod (Mod.ofBelow hbel)) he
      simp only [Value.slice.injEq] at hv
      obtain ⟨rfl, _, rfl⟩ := hv
      have hst : (l.take (k + 1)).foldl compA [] = compA ((l.take k).foldl compA []) l[k] := by
        rw [List.take_add_one, he, List.foldl_append]
        rfl
      have HST := Lib.hid hst
      have hCk := compK_len l k (by omega)
      generalize l[k] = p at *
      generalize (l.take k).foldl compA [] = C at *
      have hsC := own_slAt (k := 3) (enc := encPt) (fun _ => rfl) hrow
      obtain ⟨cv, ccap, hcu, hjunk⟩ := id hsC
      clear hjunk
      subst hcu
      have HROW := Lib.hid hrow; have HBEL := Lib.hid hbel; have HSC := Lib.hid hsC
      clear he hst hrow hbel hsC
      have W3 : Hid (Mod NoB Wr (Wr.alloc (.cells #[.int .u64 p.f, .int .i64 p.n, .int .i64 p.e] 211))) := Lib.hid ((Mod.refl _ _).alloc _)
      cases hC : C.getLast? with
      | none =>
        have hCn : C = [] := List.getLast?_eq_none_iff.1 hC
        have hCl : C.length = 0 := by rw [hCn]; rfl
        have hCI : ((C.length : Nat) : Int) = 0 := by omega
        have HCA : Hid (compA C p = C ++ [p]) := Lib.hid (by unfold compA; rw [hC])
        clear hC
        have hd : (((C.length : Nat) : Int) == 0) = true := by rw [hCI]; rfl
        have HRA : Hid (∀ W, Mod NoB Wr W → W.ownsRow w.heap.size 211 3 (.slice cv C.length ccap) C.length (C.flatMap encPt)) := Lib.hid (fun W hm => own_mod' HROW.out hm (fun _ _ x => x))
        have HBA : Hid (∀ W, Mod NoB Wr W → Below w.heap.size w W) := Lib.hid (fun W hm => HBEL.out.trans (hm.below_self.mono HBEL.out.size))
        have H63 : Hid (C.length + 1 ≤ maxLen) := Lib.hid (by unfold maxLen; omega)
        have HBY : Hid ((C.length + 1) * i0.bytes ≤ 140737488355328) := Lib.hid (Nat.le_trans (Nat.mul_le_mul (show C.length + 1 ≤ 1000000 by omega) hz3) (by decide))
        have HBG : Hid (∀ q, (Value.slice cv C.length ccap).ownBlock = some q → w.heap.size ≤ q) := Lib.hid (fun q hq => (HROW.out.lt q hq).1)
        go_wp2_with fail
        go_quiet (fail)
        go_wp2_with (at_builtin; go_loud (refine wpList_append_own_at _ rfl _ _ 144 rfl w.heap.size 211 i0 z0 3 i0.bytes tySPt hi hz0 hz1 rfl hz2 (by decide) (.slice cv C.length ccap) C.length (C.flatMap encPt) rfl (HRA.out _ (by repeat (first | exact Mod.refl _ _ | refine Mod.alloc ?_ _ | refine Mod.drew ?_ | refine Mod.drewN ?_ _))) ⟨_, 0, none⟩ 1 1 (encPt p) rfl rfl (by intro j u hu; exact newsPt (e := 211) (heap_at (show _ = (Wr.alloc _).heap.size by simp)) hu) (by intro u hu; exact onePt hu) H63.out HBY.out (HBA.out _ (by repeat (first | exact Mod.refl _ _ | refine Mod.alloc ?_ _ | refine Mod.drew ?_ | refine Mod.drewN ?_ _))).size ?_; intro v' w6 hown' hgrow hnn hat'; have P1 := Lib.hid hown'; have P2 := Lib.hid ((HBA.out _ (by repeat (first | exact Mod.refl _ _ | refine Mod.alloc ?_ _ | refine Mod.drew ?_ | refine Mod.drewN ?_ _))).grown hgrow (HBA.out _ (by repeat (first | exact Mod.refl _ _ | refine Mod.alloc ?_ _ | refine Mod.drew ?_ | refine Mod.drewN ?_ _))).size (fun q hq => HBG.out q hq)); clear hown' hgrow hnn hat'))
        exact ⟨⟨k + 1, by omega, by go_num, by rw [HST.out, HCA.out, List.length_append, List.flatMap_append]; simpa using P1.out, P2.out⟩, by simp [intOf]; omega⟩
      | some q =>
        have hCe : C[C.length - 1]? = some q := by rw [← List.getLast?_eq_getElem?]; exact hC
        have hpos : 0 < C.length := by
          have := (List.getElem?_eq_some_iff.1 hCe).1
          omega
        obtain ⟨b2, o2, cp2, hv2, hb2, y0, y1, y2⟩ := at3 HSC.out hCe
        simp only [Value.slice.injEq] at hv2
        obtain ⟨rfl, _, rfl⟩ := hv2
        have hd : (((C.length : Nat) : Int) == 0) = false := by
          have : ¬ ((C.length : Nat) : Int) = 0 := by omega
          simpa using this
        have hix : IntKind.i64.wrap ((C.length : Int) - 1) = ((C.length - 1 : Nat) : Int) := (IntWalk.i64_in _ ⟨by omega, by omega⟩).trans (by omega)
        have y0' := W3.out.cellS y0; have y1' := W3.out.cellS y1; have y2' := W3.out.cellS y2
        have hlt1 : ((C.length - 1 : Nat) : Int) < (C.length : Int) := by omega
        go_wp2_with fail
        have HRA : Hid (∀ W, Mod NoB Wr W → W.ownsRow w.heap.size 211 3 (.slice (some ⟨b2, o2, none⟩) C.length ccap) C.length (C.flatMap encPt)) := Lib.hid (fun W hm => own_mod' HROW.out hm (fun _ _ x => x))
        have HBA : Hid (∀ W, Mod NoB Wr W → Below w.heap.size w W) := Lib.hid (fun W hm => HBEL.out.trans (hm.below_self.mono HBEL.out.size))
        have H63 : Hid (C.length + 1 ≤ maxLen) := Lib.hid (by unfold maxLen; omega)
        have HBY : Hid ((C.length + 1) * i0.bytes ≤ 140737488355328) := Lib.hid (Nat.le_trans (Nat.mul_le_mul (show C.length + 1 ≤ 1000000 by omega) hz3) (by decide))
        have HBG : Hid (∀ q, (Value.slice (some ⟨b2, o2, none⟩) C.length ccap).ownBlock = some q → w.heap.size ≤ q) := Lib.hid (fun q hq => (HROW.out.lt q hq).1)
        have hbx := heap_alloc_new Wr (.cells #[.int .u64 p.f, .int .i64 p.n, .int .i64 p.e] 211)
        have KEEP : Hid (∀ W, Mod NoB (Wr.alloc (.cells #[.int .u64 p.f, .int .i64 p.n, .int .i64 p.e] 211)) W → (W.cell? ⟨b2, o2 + (C.length - 1) * 3, none⟩ = some (.int .u64 q.f) ∧ W.cell? ⟨b2, o2 + (C.length - 1) * 3 + 1, none⟩ = some (.int .i64 q.n) ∧ W.cell? ⟨b2, o2 + (C.length - 1) * 3 + 2, none⟩ = some (.int .i64 q.e) ∧ W.cell? ⟨Wr.heap.size, 0, none⟩ = some (.int .u64 p.f) ∧ W.cell? ⟨Wr.heap.size, 1, none⟩ = some (.int .i64 p.n) ∧ W.cell? ⟨Wr.heap.size, 2, none⟩ = some (.int .i64 p.e))) := Lib.hid (fun W hm =>
          ⟨hm.cellS y0', hm.cellS y1', hm.cellS y2', hm.cellS (cell_of hbx 0 rfl), hm.cellS (cell_of hbx 1 rfl), hm.cellS (cell_of hbx 2 rfl)⟩)
        clear hbx y0 y1 y2 y0' y1' y2' r0 r1 r2
        go_region_held3 (fun W => W.cell? ⟨b2, o2 + (C.length - 1) * 3, none⟩ = some (.int .u64 q.f) ∧ W.cell? ⟨b2, o2 + (C.length - 1) * 3 + 1, none⟩ = some (.int .i64 q.n) ∧ W.cell? ⟨b2, o2 + (C.length - 1) * 3 + 2, none⟩ = some (.int .i64 q.e) ∧ W.cell? ⟨Wr.heap.size, 0, none⟩ = some (.int .u64 p.f) ∧ W.cell? ⟨Wr.heap.size, 1, none⟩ = some (.int .i64 p.n) ∧ W.cell? ⟨Wr.heap.size, 2, none⟩ = some (.int .i64 p.e)) (first | exact KEEP.out _ M6.out | exact KEEP.out _ (by repeat (first | exact Mod.refl _ _ | refine Mod.alloc ?_ _ | refine Mod.drew ?_))) ((first | (go_simp; go_at_call 203; go_loud (refine (valike_any q p _).mono ?_; rintro e w5 ⟨rfl, hm5⟩; have hm6 := Mod.trans (S := NoB) (a := Wr.alloc (.cells #[.int .u64 p.f, .int .i64 p.n, .int .i64 p.e] 211)) (by repeat (first | exact Mod.refl _ _ | refine Mod.alloc ?_ _ | refine Mod.drew ?_)) hm5; obtain ⟨k0, k1, k2, k3, k4, k5⟩ := KEEP.out _ hm6; have M6 := Lib.hid hm6; clear hm5 hm6))))
        have M7 := Lib.hid (W3.out.trans M6.out)
        have HCC := Lib.hid hC
        clear k0 k1 k2 k3 k4 k5 hC
        cases hq : alikeP q p with
        | true =>
          have HCA : Hid (compA C p = C) := Lib.hid (by unfold compA; rw [HCC.out]; simp [hq])
          go_wp2_with fail
          exact ⟨⟨k + 1, by omega, by go_num, by rw [HST.out, HCA.out]; exact HRA.out _ M7.out, HBA.out _ M7.out⟩, by simp [intOf]; omega⟩
        | false =>
          have HCA : Hid (compA C p = C ++ [p]) := Lib.hid (by unfold compA; rw [HCC.out]; simp [hq])
          obtain ⟨k0, k1, k2, k3, k4, k5⟩ := KEEP.out _ M6.out
          go_wp2_with (at_builtin; go_loud (refine wpList_append_own_at _ rfl _ _ 144 rfl w.heap.size 211 i0 z0 3 i0.bytes tySPt hi hz0 hz1 rfl hz2 (by decide) (.slice (some ⟨b2, o2, none⟩) C.length ccap) C.length (C.flatMap encPt) rfl (HRA.out _ (Mod.alloc M7.out _)) ⟨_, 0, none⟩ 1 1 (encPt p) rfl rfl (by intro j u hu; exact newsPt (e := 211) (heap_at rfl) hu) (by intro u hu; exact onePt hu) H63.out HBY.out (HBA.out _ (Mod.alloc M7.out _)).size ?_; intro v' w6 hown' hgrow hnn hat'; have P1 := Lib.hid hown'; have P2 := Lib.hid ((HBA.out _ (Mod.alloc M7.out _)).grown hgrow (HBA.out _ (Mod.alloc M7.out _)).size (fun q hq => HBG.out q hq)); clear hown' hgrow hnn hat'))
          exact ⟨⟨k + 1, by omega, by go_num, by rw [HST.out, HCA.out, List.length_append, List.flatMap_append]; simpa using P1.out, P2.out⟩, by simp [intOf]; omega⟩
    · obtain rfl : k = l.length := by omega
      rw [List.take_length] at hrow
      have hcl := compK_len l l.length (Nat.le_refl _)
      rw [List.take_length] at hcl
      have hpc : l.foldl compA [] = compP l := rfl
      rw [hpc] at hrow hcl
      have hcl2 : (compP l).length ≤ 50000 := by omega
      generalize hC0 : compP l = C at *
      have HC0 := Lib.hid hC0
      clear hC0
      have hsC := own_slAt (k := 3) (enc := encPt) (fun _ => rfl) hrow
      obtain ⟨cv, ccap, hcu, hjunk⟩ := id hsC
      clear hjunk hpc
      subst hcu
      have HSC := Lib.hid hsC; have HBEL := Lib.hid hbel
      clear hsC hrow hbel hcl
      go_wp2_with fail
      go_loopw [6, 43] (fun s6 s43 wx => ∃ i : Nat, i ≤ C.length ∧ s43 = .int .i64 i ∧ wx.ownsRow Wr.heap.size 128 4 s6 (arcK C i).length ((arcK C i).flatMap encOw) ∧ Below Wr.heap.size Wr wx) (fun _ s43 _ => C.length - (intOf s43).toNat)
      case atStart => exact ⟨0, Nat.zero_le _, rfl, World.ownsRow_nil _ _ _ _, Below.refl _ _⟩
      case round =>
        obtain ⟨i, hi', rfl, hrow, hbel⟩ := hrel
        by_cases hlt2 : i < C.length
        · have he : C[i]? = some C[i] := List.getElem?_eq_getElem hlt2
          obtain ⟨b, o, cp, hv, hb, r0, r1, r2⟩ := at3 (HSC.out.mod (Mod.ofBelow hbel)) he
          simp only [Value.slice.injEq] at hv
          obtain ⟨rfl, _, rfl⟩ := hv
          have HOUT : Hid (arcK C (i + 1) = arcK C i ++ (if 0 ≤ C[i].n then [⟨C[i].f, nextF C i, C[i].n, C[i].e⟩] else [])) := Lib.hid (by conv => lhs; unfold arcK; rw [he])
          have hol := arcK_len C i
          generalize C[i] = p at *
          have hmod : (i + 1) % C.length < C.length := Nat.mod_lt _ (by omega)
          obtain ⟨pn, hpn⟩ : ∃ pn, C[(i + 1) % C.length]? = some pn := ⟨_, List.getElem?_eq_getElem hmod⟩
          obtain ⟨b', o', cp', hv', hb', x0, x1, x2⟩ := at3 (HSC.out.mod (Mod.ofBelow hbel)) hpn
          simp only [Value.slice.injEq, Option.some.injEq, Addr.mk.injEq] at hv'
          obtain ⟨⟨rfl, rfl, _⟩, _, rfl⟩ := hv'
          have HNX : Hid (nextF C i = pn.f) := Lib.hid (by unfold nextF; rw [hpn])
          have HROW := Lib.hid hrow; have HB2 := Lib.hid hbel
          have HRA : Hid (∀ W, Mod NoB wr W → W.ownsRow Wr.heap.size 128 4 u6 (arcK C i).length ((arcK C i).flatMap encOw)) := Lib.hid (fun W hm => own_mod' HROW.out hm (fun _ _ x => x))
          have HBA : Hid (∀ W, Mod NoB wr W → Below Wr.heap.size Wr W) := Lib.hid (fun W hm => HB2.out.trans (hm.below_self.mono HB2.out.size))
          obtain ⟨i1, y1, hi1, hy1, hy2, hy3, hy4⟩ := owInfo_parts
          have H63 : Hid ((arcK C i).length + 1 ≤ maxLen) := Lib.hid (by unfold maxLen; omega)
          have HBY : Hid (((arcK C i).length + 1) * i1.bytes ≤ 140737488355328) := Lib.hid (Nat.le_trans (Nat.mul_le_mul (show (arcK C i).length + 1 ≤ 1000000 by omega) hy4) (by decide))
          have HBG : Hid (∀ q, u6.ownBlock = some q → Wr.heap.size ≤ q) := Lib.hid (fun q hq => (HROW.out.lt q hq).1)
          clear he hrow hbel hpn x1 x2 hmod
          have hm0 : 0 ≤ ((i : Int) + 1) % (C.length : Int) := Int.emod_nonneg _ (by omega)
          have hm1 : ((i : Int) + 1) % (C.length : Int) < (C.length : Int) := Int.emod_lt_of_pos _ (by omega)
          by_cases hpn0 : 0 ≤ p.n
          · have HO2 : Hid (arcK C (i + 1) = arcK C i ++ [⟨p.f, pn.f, p.n, p.e⟩]) := Lib.hid (by rw [HOUT.out, if_pos hpn0, HNX.out])
            go_wp2_with (at_builtin; go_loud (refine wpList_append_own_at _ rfl _ _ 32 rfl Wr.heap.size 128 i1 y1 4 i1.bytes tyOws hi1 hy1 hy2 rfl hy3 (by decide) u6 (arcK C i).length ((arcK C i).flatMap encOw) rfl (HRA.out _ (by repeat (first | exact Mod.refl _ _ | refine Mod.alloc ?_ _ | refine Mod.drew ?_))) ⟨_, 0, none⟩ 1 1 (encOw ⟨p.f, pn.f, p.n, p.e⟩) rfl rfl (by intro j u hu; exact World.news_of_block (heap_at (show _ = (wr.alloc _).heap.size by simp)) j u (by simpa using hu)) (by intro u hu; exact oneOw hu) H63.out HBY.out (HBA.out _ (by repeat (first | exact Mod.refl _ _ | refine Mod.alloc ?_ _ | refine Mod.drew ?_))).size ?_; intro v' w6 hown' hgrow hnn hat'; have P1 := Lib.hid hown'; have P2 := Lib.hid ((HBA.out _ (by repeat (first | exact Mod.refl _ _ | refine Mod.alloc ?_ _ | refine Mod.drew ?_))).grown hgrow (HBA.out _ (by repeat (first | exact Mod.refl _ _ | refine Mod.alloc ?_ _ | refine Mod.drew ?_))).size (fun q hq => HBG.out q hq)); clear hown' hgrow hnn hat'))
            exact ⟨⟨i + 1, by omega, by go_num, by rw [HO2.out, List.length_append, List.flatMap_append]; simpa using P1.out, P2.out⟩, by simp [intOf]; omega⟩
          · have HO2 : Hid (arcK C (i + 1) = arcK C i) := Lib.hid (by rw [HOUT.out, if_neg hpn0, List.append_nil])
            go_wp2_with fail
            exact ⟨⟨i + 1, by omega, by go_num, by rw [HO2.out]; exact HRA.out _ (by repeat (first | exact Mod.refl _ _ | refine Mod.alloc ?_ _ | refine Mod.drew ?_)), HBA.out _ (by repeat (first | exact Mod.refl _ _ | refine Mod.alloc ?_ _ | refine Mod.drew ?_))⟩, by simp [intOf]; omega⟩
        · obtain rfl : i = C.length := by omega
          have HR := Lib.hid (vown_low (b' := w.heap.size) hrow HBEL.out.size)
          have HF : Hid (Mod NoB w wr) := Lib.hid (Mod.ofBelow (HBEL.out.trans (hbel.mono HBEL.out.size)))
          have hsC2 := HSC.out.mod (Mod.ofBelow hbel)
          have HS2 := Lib.hid hsC2
          have hw : IntKind.i64.wrap ((C.length : Int) - 1) = (C.length : Int) - 1 := IntWalk.i64_in _ ⟨by omega, by omega⟩
          clear hrow hbel hsC2
          have END : Hid (∀ W, Mod NoB wr W → overB C = false → ∃ u, Ending.returned u6 = .returned u ∧ SlAt 4 encOw W u (arcsV l) ∧ (∀ g ∈ ownL u, w.heap.size ≤ g ∧ g < W.heap.size) ∧ Mod NoB w W) := Lib.hid (fun W hm hov => by
            have hr := own_mod' HR.out hm (fun _ _ x => x)
            refine ⟨_, rfl, ?_, fun g hg => ⟨(HR.out.lt g (by simpa [ownL] using hg)).1, own_lt hr g hg⟩, HF.out.trans hm⟩
            unfold arcsV
            rw [HC0.out, hov, if_neg (by simp)]
            exact own_slAt (k := 4) (enc := encOw) (fun _ => rfl) hr)
          by_cases hle : C.length ≤ 1
          · have hnl : ¬ (0 : Int) < (C.length : Int) - 1 := by omega
            have hd : decide ((0 : Int) < (C.length : Int) - 1) = false := decide_eq_false hnl
            have hnl2 : ¬ (1 : Int) < (C.length : Int) := by omega
            have hd2 : decide ((1 : Int) < (C.length : Int)) = false := decide_eq_false hnl2
            have hnl3 : ¬ 1 < C.length := by omega
            have hd3 : decide (1 < C.length) = false := decide_eq_false hnl3
            have HOV : Hid (overB C = false) := Lib.hid (overB_no (fun ⟨_, _, _, _, h, _⟩ => hnl3 h))
            go_wp2_with fail
            go_quiet (fail)
            go_wp2_with fail
            go_ret
            exact END.out _ (by repeat (first | exact Mod.refl _ _ | refine Mod.alloc ?_ _ | refine Mod.drew ?_ | refine Mod.drewN ?_ _)) HOV.out
          · obtain ⟨a, ha⟩ : ∃ a, C[0]? = some a := ⟨_, List.getElem?_eq_getElem (by omega)⟩
            obtain ⟨z, hz⟩ : ∃ z, C[C.length - 1]? = some z := ⟨_, List.getElem?_eq_getElem (by omega)⟩
            obtain ⟨bb, oo, cp, hv, hbl, x0, x1, x2⟩ := at3 HS2.out ha
            simp only [Value.slice.injEq] at hv
            obtain ⟨rfl, _, rfl⟩ := hv
            obtain ⟨bb', oo', cp', hv', hbl', y0, y1, y2⟩ := at3 HS2.out hz
            simp only [Value.slice.injEq, Option.some.injEq, Addr.mk.injEq] at hv'
            obtain ⟨⟨rfl, rfl, _⟩, _, rfl⟩ := hv'
            simp only [Nat.zero_mul, Nat.add_zero] at x0 x1 x2
            clear hw
            have hw : IntKind.i64.wrap ((C.length : Int) - 1) = ((C.length - 1 : Nat) : Int) := (IntWalk.i64_in _ ⟨by omega, by omega⟩).trans (by omega)
            have hnl : (0 : Int) < ((C.length - 1 : Nat) : Int) := by omega
            have hd : decide ((0 : Int) < ((C.length - 1 : Nat) : Int)) = true := decide_eq_true hnl
            have hlt1 : ((C.length - 1 : Nat) : Int) < (C.length : Int) := by omega
            have hpos : 0 < C.length := by omega
            have hl1 : 1 < C.length := by omega
            have hd3 : decide (1 < C.length) = true := decide_eq_true hl1
            have hl3 : 0 < C.length - 1 := by omega
            have HOVA := Lib.hid (overB_at ha hz)
            have HA0 := Lib.hid ha; have HZ0 := Lib.hid hz
            clear ha hz
            by_cases ha0 : 0 ≤ a.n
            · have KEEP : Hid (∀ W, Mod NoB wr W → (W.cell? ⟨bb, oo, none⟩ = some (.int .u64 a.f) ∧ W.cell? ⟨bb, oo + 1, none⟩ = some (.int .i64 a.n) ∧ W.cell? ⟨bb, oo + 2, none⟩ = some (.int .i64 a.e) ∧ W.cell? ⟨bb, oo + (C.length - 1) * 3, none⟩ = some (.int .u64 z.f) ∧ W.cell? ⟨bb, oo + (C.length - 1) * 3 + 1, none⟩ = some (.int .i64 z.n) ∧ W.cell? ⟨bb, oo + (C.length - 1) * 3 + 2, none⟩ = some (.int .i64 z.e))) := Lib.hid (fun W hm => ⟨hm.cellS x0, hm.cellS x1, hm.cellS x2, hm.cellS y0, hm.cellS y1, hm.cellS y2⟩)
              have hda : decide (0 ≤ a.n) = true := decide_eq_true ha0
              go_wp2_with fail
              go_region_held3 (fun W => W.cell? ⟨bb, oo, none⟩ = some (.int .u64 a.f) ∧ W.cell? ⟨bb, oo + 1, none⟩ = some (.int .i64 a.n) ∧ W.cell? ⟨bb, oo + 2, none⟩ = some (.int .i64 a.e) ∧ W.cell? ⟨bb, oo + (C.length - 1) * 3, none⟩ = some (.int .u64 z.f) ∧ W.cell? ⟨bb, oo + (C.length - 1) * 3 + 1, none⟩ = some (.int .i64 z.n) ∧ W.cell? ⟨bb, oo + (C.length - 1) * 3 + 2, none⟩ = some (.int .i64 z.e)) (first | exact KEEP.out _ M6.out | exact KEEP.out _ (by repeat (first | exact Mod.refl _ _ | refine Mod.alloc ?_ _ | refine Mod.drew ?_))) ((first | (go_simp; go_at_call 203; go_loud (refine (valike_any a z _).mono ?_; rintro e w5 ⟨rfl, hm5⟩; have hm6 := Mod.trans (S := NoB) (a := wr) (by repeat (first | exact Mod.refl _ _ | refine Mod.alloc ?_ _ | refine Mod.drew ?_)) hm5; obtain ⟨k0, k1, k2, k3, k4, k5⟩ := KEEP.out _ hm6; have M6 := Lib.hid hm6; clear hm5 hm6))))
              clear k0 k1 k2 k3 k4 k5
              cases hal : alikeP a z with
              | true =>
                have HOV : Hid (overB C = true) := Lib.hid (by rw [HOVA.out, decide_eq_true ha0, decide_eq_true hl1, hal]; rfl)
                have hpo : 2 ≤ (arcK C C.length).length := by
                  have h1 := arcK_pos HA0.out ha0 (C.length - 1) (by omega)
                  have hzn : 0 ≤ z.n := by
                    simp only [alikeP, Bool.and_eq_true, decide_eq_true_eq] at hal
                    omega
                  obtain ⟨m, hm⟩ : ∃ m, C.length = m + 1 := ⟨C.length - 1, by omega⟩
                  rw [hm] at h1 ⊢
                  have h2 := HZ0.out
                  rw [hm, Nat.add_sub_cancel] at h2
                  rw [Nat.add_sub_cancel] at h1
                  unfold arcK
                  rw [h2, List.length_append]
                  simp only [if_pos hzn, List.length_singleton]
                  omega
                have hle5 := arcK_len C C.length
                have HARC : Hid (arcsV l = closeE (arcK C C.length)) := Lib.hid (by unfold arcsV; rw [HC0.out, HOV.out, if_pos rfl])
                have hr5 := own_mod' HR.out M6.out (fun _ _ x => x)
                clear END HR
                generalize arcK C C.length = O at *
                obtain ⟨g, gc, rfl⟩ := own_form2 hr5 (by omega)
                have hs5 := own_slAt (k := 4) (enc := encOw) (fun _ => rfl) hr5
                obtain ⟨o0, ho0⟩ : ∃ o0, O[0]? = some o0 := ⟨_, List.getElem?_eq_getElem (by omega)⟩
                obtain ⟨oz, hoz⟩ : ∃ oz, O[O.length - 1]? = some oz := ⟨_, List.getElem?_eq_getElem (by omega)⟩
                obtain ⟨b3, o3, cp3, hv3, hb3, t0, t1, t2, t3⟩ := at4w hs5 ho0
                simp only [Value.slice.injEq, Option.some.injEq, Addr.mk.injEq] at hv3
                obtain ⟨⟨rfl, rfl, _⟩, _, rfl⟩ := hv3
                simp only [Nat.zero_mul, Nat.add_zero, Nat.zero_add] at t1
                obtain ⟨b4, o4, cp4, hv4, hb4, z0', z1, z2, z3⟩ := at4w hs5 hoz
                simp only [Value.slice.injEq, Option.some.injEq, Addr.mk.injEq] at hv4
                obtain ⟨⟨rfl, rfl, _⟩, _, rfl⟩ := hv4
                simp only [Nat.zero_add] at z1
                obtain ⟨gcs, hgcs⟩ : ∃ gcs, w5.heap[g]? = some (.cells gcs 128 (0, 0)) := by
                  rcases hr5.2 with ⟨hn, _⟩ | ⟨g', cap', cur, hn, _, hc, _⟩
                  · cases hn
                  · simp only [Value.slice.injEq, Option.some.injEq, Addr.mk.injEq] at hn
                    obtain ⟨⟨rfl, _⟩, _, _⟩ := hn
                    exact ⟨_, hc⟩
                have f1 := frozen_of hgcs ((O.length - 1) * 4 + 1)
                have hwo : IntKind.i64.wrap ((O.length : Int) - 1) = ((O.length - 1 : Nat) : Int) := (IntWalk.i64_in _ ⟨by omega, by omega⟩).trans (by omega)
                have hlo : ((O.length - 1 : Nat) : Int) < (O.length : Int) := by omega
                have hpo0 : 0 < O.length := by omega
                have hgc1 : ¬ gc - 1 = 0 := by
                  have : O.length ≤ gc := by
                    rcases hr5.2 with ⟨hn, _⟩ | ⟨g', cap', cur, hn, _, hc, h3, h4, _⟩
                    · cases hn
                    · simp only [Value.slice.injEq] at hn
                      omega
                  omega
                have hgb := (hr5.lt g (by simp [Value.ownBlock])).1
                have hgl : g < w5.heap.size := hb3
                have H5 := Lib.hid hr5; have HO0 := Lib.hid ho0; have HOZ := Lib.hid hoz
                clear hr5 hs5 ho0 hoz t0 t2 t3 hgcs hb3 hb4 z0' z2 z3 hbl hbl'
                go_wp2_with fail
                go_ret
                have hl4 : (O.flatMap encOw).length = O.length * 4 := H5.out.1
                have hr6 := vrow_set H5.out (i := (O.length - 1) * 4 + 1) (by omega) (.int .u64 o0.t)
                rw [oflat_set O HOZ.out] at hr6
                have hs6 := own_slAt (k := 4) (enc := encOw) (l := O.set (O.length - 1) ⟨oz.f, o0.t, oz.node, oz.ep⟩) (v := .slice (some ⟨g, 0, none⟩) O.length gc) (fun _ => rfl) (by rw [List.length_set]; exact hr6)
                have hs7 := slAt_tail hs6
                rw [Nat.zero_add] at hs7
                refine ⟨_, rfl, ?_, ?_, Mod.setCell (HF.out.trans M6.out) (p := ⟨g, (O.length - 1) * 4 + 1, none⟩) (fun h => by simp only at h; omega) _⟩
                · rw [HARC.out]
                  unfold closeE
                  rw [HO0.out, HOZ.out]
                  exact hs7
                · intro g' hg'
                  replace hg' : g' ∈ [g] := hg'
                  rw [List.mem_singleton] at hg'
                  subst hg'
                  exact ⟨hgb, by simpa [World.setCell] using hgl⟩
              | false =>
                have HOV : Hid (overB C = false) := Lib.hid (by rw [HOVA.out, hal]; simp)
                go_wp2_with fail
                go_ret
                exact END.out _ M6.out HOV.out
            · have HOV : Hid (overB C = false) := Lib.hid (by rw [HOVA.out, decide_eq_false ha0]; simp)
              have hda : decide (0 ≤ a.n) = false := decide_eq_false ha0
              go_wp2_with fail
              go_quiet (fail)
              go_wp2_with fail
              go_ret
              exact END.out _ (by repeat (first | exact Mod.refl _ _ | refine Mod.alloc ?_ _ | refine Mod.drew ?_ | refine Mod.drewN ?_ _)) HOV.out
end Go.Proofs.YtpcmbnbdppembaaGreatDoor
