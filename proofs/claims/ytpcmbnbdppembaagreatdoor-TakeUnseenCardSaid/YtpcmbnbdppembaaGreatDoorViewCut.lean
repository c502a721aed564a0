/- A view in memory; (*view.View).place and cut. -/
import Derived.Test.YtpcmbnbdppembaaGreatDoorSlPt
import Derived.Test.YtpcmbnbdppembaaGreatDoorHoldDo
import Derived.Test.YtpcmbnbdppembaaGreatDoorTreePut
import Derived.StillTailTactics
namespace Go.Proofs.YtpcmbnbdppembaaGreatDoor
set_option linter.unusedSimpArgs false
set_option linter.unusedVariables false
open Go.RowKit Go.Shelf
attribute [local go_sem ↓] Go.wp_at_zero Go.wp_at_succ

/-- what is known from a point on -/
structure Pt where
  f : Int
  n : Int
  e : Int
abbrev encPt (p : Pt) : List Value := [.int .u64 p.f, .int .i64 p.n, .int .i64 p.e]

/-- the view in block v -/
def ViewAt (w : World) (v : Nat) (l : List Pt) (B : List Nat) : Prop :=
  ∃ u, w.heap[v]? = some (.cells #[u] 146 (0, 0)) ∧ RowPt w u l.length (l.flatMap encPt) ∧ B = v :: ownL u ∧ v ∉ ownL u

theorem ViewAt.mod {S : Nat → Prop} {w w' : World} {v : Nat} {l : List Pt} {B : List Nat} (h : ViewAt w v l B) (hm : Mod S w w') (hs : ∀ k ∈ B, ¬ S k) : ViewAt w' v l B := by
  obtain ⟨u, h1, h2, rfl, h4⟩ := h
  exact ⟨u, (hm.block v (Array.getElem?_eq_some_iff.1 h1).1 (hs v List.mem_cons_self)).trans h1, own_mod' h2 hm (fun k hk => hs k (List.mem_cons_of_mem _ hk)), rfl, h4⟩
theorem ViewAt.lt {w : World} {v : Nat} {l : List Pt} {B : List Nat} (h : ViewAt w v l B) : ∀ k ∈ B, k < w.heap.size := by
  obtain ⟨u, h1, h2, rfl, h4⟩ := h
  intro k hk
  rcases List.mem_cons.1 hk with rfl | hk
  · exact (Array.getElem?_eq_some_iff.1 h1).1
  · exact own_lt h2 k hk

theorem onePt {p : Pt} {u : Value} (hu : u ∈ encPt p) : u.oneCell' = true := by
  simp only [encPt, List.mem_cons, List.not_mem_nil, or_false] at hu
  rcases hu with rfl | rfl | rfl <;> rfl

theorem at3 {w : World} {u : Value} {l : List Pt} (h : SlAt 3 encPt w u l) {i : Nat} {p : Pt} (hi : l[i]? = some p) : ∃ b o cap, u = .slice (some ⟨b, o, none⟩) l.length cap ∧ b < w.heap.size ∧
    w.cell? ⟨b, o + i * 3, none⟩ = some (.int .u64 p.f) ∧ w.cell? ⟨b, o + i * 3 + 1, none⟩ = some (.int .i64 p.n) ∧ w.cell? ⟨b, o + i * 3 + 2, none⟩ = some (.int .i64 p.e) := by
  obtain ⟨a, cap, hv, hx⟩ := h
  obtain ⟨b, o, rfl, hj⟩ := hx i p hi
  have h0 := hj 0 _ rfl
  exact ⟨b, o, cap, hv, cell_lt' h0, by simpa using h0, by simpa using hj 1 _ rfl, by simpa using hj 2 _ rfl⟩

/-! ### place -/
def placeK (l : List Pt) (x : Int) : Nat → Nat
  | 0 => 0
  | k + 1 => match l[k]? with
    | some p => if p.f ≤ x then k else placeK l x k
    | none => placeK l x k
def placeP (l : List Pt) (x : Int) : Nat := placeK l x l.length
theorem placeK_lt (l : List Pt) (x : Int) : (k : Nat) → 0 < k → placeK l x k < k
  | k + 1, _ => by
    have ih : placeK l x k < k + 1 := by
      cases k with
      | zero => simp [placeK]
      | succ k => have := placeK_lt l x (k + 1) (by omega); omega
    unfold placeK
    split
    · split
      · exact Nat.lt_succ_self _
      · exact ih
    · exact ih
theorem placeK_le (l : List Pt) (x : Int) (k : Nat) : placeK l x k ≤ k := by
  cases k with
  | zero => exact Nat.le_refl _
  | succ k => exact Nat.le_of_lt (placeK_lt l x (k + 1) (by omega))

set_option maxRecDepth 100000 in
set_option maxHeartbeats 8000000 in
theorem vplace_any {w : World} {v : Nat} {l : List Pt} {B : List Nat} (h : ViewAt w v l B) (x : Int) (hl : l.length ≤ 100000) :
    Calls Tryz.prog 201 #[.pointer (some ⟨v, 0, none⟩), .int .u64 x] w fun e w' => e = .returned (.int .i64 (placeP l x)) ∧ Mod NoB w w' := by
  obtain ⟨u, h1, h2, rfl, h4⟩ := h
  have hsl := own_slAt (k := 3) (enc := encPt) (fun _ => rfl) h2
  obtain ⟨av, cap, rfl, _⟩ := id hsl
  have HSL := Lib.hid hsl
  have c0 := cell_of h1 0 (v := .slice av l.length cap) rfl
  clear h1 h2 h4 hsl
  go_enter Tryz.func201, Tryz.ntmps201
  go_wp2_with fail
  go_loopw [5, 13] (fun a i wr => ∃ k : Nat, k ≤ l.length ∧ i = .int .i64 k ∧ a = .int .i64 (placeK l x k) ∧ Mod NoB w wr) (fun _ i _ => l.length - (intOf i).toNat)
  case atStart => exact ⟨0, Nat.zero_le _, rfl, rfl, Mod.refl _ _⟩
  case round =>
    obtain ⟨k, hk, rfl, rfl, hm⟩ := hrel
    by_cases hlt : k < l.length
    · have he : l[k]? = some l[k] := List.getElem?_eq_getElem hlt
      obtain ⟨b, o, cp, hv, hb, r0, r1, r2⟩ := at3 (HSL.out.mod hm) he
      simp only [Value.slice.injEq] at hv
      obtain ⟨rfl, _, rfl⟩ := hv
      have hst : placeK l x (k + 1) = if l[k].f ≤ x then k else placeK l x k := by
        conv => lhs; unfold placeK
        rw [he]
      have HST := Lib.hid hst
      have hpk := placeK_le l x k
      generalize l[k] = p at *
      clear he hst
      have HM := Lib.hid hm
      clear hm
      by_cases hp : p.f ≤ x
      · go_wp2_with fail
        exact ⟨⟨k + 1, by omega, by go_num, by rw [HST.out, if_pos hp], HM.out.trans ((Mod.refl NoB wr).alloc _)⟩, by simp [intOf]; omega⟩
      · go_wp2_with fail
        exact ⟨⟨k + 1, by omega, by go_num, by rw [HST.out, if_neg hp], HM.out.trans ((Mod.refl NoB wr).alloc _)⟩, by simp [intOf]; omega⟩
    · obtain rfl : k = l.length := by omega
      go_wp2_with fail
      go_ret
      exact ⟨rfl, hm⟩
/-! ### cut -/
def cutP0 (l0 : List Pt) (x : Int) : List Pt :=
  match l0[placeP l0 x]? with
  | some p => if p.f = x then l0 else l0.take (placeP l0 x + 1) ++ ⟨x, p.n, p.e⟩ :: l0.drop (placeP l0 x + 1)
  | none => l0
def cutP (l : List Pt) (x : Int) : List Pt := cutP0 (if l = [] then [⟨0, -1, 0⟩] else l) x

theorem Turn.quiet {B B' : List Nat} {w u v : World} (h : Turn B w u B') (hm : Mod NoB u v) : Turn B w v B' :=
  h.trans ⟨hm.mono (fun _ _ e => e.elim), fun k hk => .inl hk⟩

set_option maxRecDepth 100000 in
set_option maxHeartbeats 8000000 in
theorem vcut_any {w : World} {v : Nat} {l : List Pt} {B : List Nat} (h : ViewAt w v l B) (x : Int) (hl : l.length ≤ 90000) :
    Calls Tryz.prog 163 #[.pointer (some ⟨v, 0, none⟩), .int .u64 x] w fun e w' => (∃ r, e = .returned r) ∧ ∃ B', ViewAt w' v (cutP l x) B' ∧ Turn B w w' B' := by
  have HVV := Lib.hid h
  obtain ⟨u0, h1, h2, hB, h4⟩ := h
  obtain ⟨av, cap, hu, hjunk⟩ := own_slAt (k := 3) (enc := encPt) (fun _ => rfl) h2
  clear hjunk
  subst hu
  have c0 := cell_of h1 0 (v := .slice av l.length cap) rfl
  have f0 := frozen_of h1 0
  have hvl : v < w.heap.size := (Array.getElem?_eq_some_iff.1 h1).1
  have H1 := Lib.hid h1; have HB := Lib.hid hB
  clear h1 h2 hB h4
  have hlen0 : l = [] ↔ l.length = 0 := by simp
  go_enter Tryz.func163, Tryz.ntmps163
  go_upto_if 11 with fail
  go_cut [] (fun wx => ∃ (l0 : List Pt) (B0 : List Nat), l0 ≠ [] ∧ cutP l x = cutP0 l0 x ∧ l0.length ≤ 100000 ∧ ViewAt wx v l0 B0 ∧ Turn B w wx B0)
  case first =>
    by_cases hnil : l = []
    · have hlz : l.length = 0 := by rw [hnil]; rfl
      have hlI : ((l.length : Nat) : Int) = 0 := by omega
      go_wp2_with fail
      go_meet
      obtain ⟨l0, hl0e⟩ : ∃ l0 : List Pt, l0 = [⟨0, -1, 0⟩] := ⟨_, rfl⟩
      obtain ⟨W, hW⟩ : ∃ W, W = (w.setCell ⟨v, 0, none⟩ (.slice (some ⟨w.heap.size, 0, none⟩) 1 1)).alloc (.cells #[.int .u64 0, .int .i64 (-1), .int .i64 0] 211) := ⟨_, rfl⟩
      have HV : Hid (ViewAt W v l0 [v, w.heap.size]) := Lib.hid (by
        have hss : (w.setCell ⟨v, 0, none⟩ (.slice (some ⟨w.heap.size, 0, none⟩) 1 1)).heap.size = w.heap.size := by simp [World.setCell]
        have k1 : W.heap[v]? = some (.cells #[.slice (some ⟨w.heap.size, 0, none⟩) 1 1] 146 (0, 0)) := by
          rw [hW, Below.heap_alloc _ _ _ (by rw [hss]; exact hvl)]
          simpa using heap_set H1.out 0 (.slice (some ⟨w.heap.size, 0, none⟩) 1 1)
        have k2 : W.heap[w.heap.size]? = some (.cells #[.int .u64 0, .int .i64 (-1), .int .i64 0] 211 (0, 0)) := by
          have := heap_alloc_new (w.setCell ⟨v, 0, none⟩ (.slice (some ⟨w.heap.size, 0, none⟩) 1 1)) (.cells #[.int .u64 0, .int .i64 (-1), .int .i64 0] 211)
          rw [hss] at this
          rw [hW]; exact this
        refine ⟨_, k1, ?_, by simp [ownL, Value.ownBlock], by simp [ownL, Value.ownBlock]; omega⟩
        rw [hl0e]
        exact ⟨rfl, .inr ⟨w.heap.size, 1, _, rfl, Nat.zero_le _, k2, by decide, by decide, rfl, rfl⟩⟩)
      have HT : Hid (Turn B w W [v, w.heap.size]) := Lib.hid ⟨by rw [hW]; exact ((Mod.refl _ w).setCell (fun _ => by rw [HB.out]; exact List.mem_cons_self) _).alloc _, fun k hk => by
        simp only [List.mem_cons, List.not_mem_nil, or_false] at hk
        rcases hk with rfl | rfl
        · exact .inl (by rw [HB.out]; exact List.mem_cons_self)
        · exact .inr (Nat.le_refl _)⟩
      refine ⟨l0, [v, w.heap.size], by rw [hl0e]; simp, by rw [hl0e, hnil]; unfold cutP; rw [if_pos rfl], by rw [hl0e]; decide, ?_, ?_⟩
      · have := HV.out
        rw [hW] at this
        exact this
      · have := HT.out
        rw [hW] at this
        exact this
    · have hlz : ¬ l.length = 0 := fun e => hnil (hlen0.2 e)
      have hlI : ¬ ((l.length : Nat) : Int) = 0 := by omega
      go_wp2_with fail
      go_meet
      exact ⟨l, B, hnil, by unfold cutP; rw [if_neg hnil], by omega, HVV.out, Turn.refl _ _⟩
  case rest =>
    obtain ⟨l0, B0, hne, hcu, hl0, hv0, ht0⟩ := hcut
    obtain ⟨W, rfl⟩ : ∃ W : World, W = wc := ⟨_, rfl⟩
    have HV := Lib.hid hv0; have HT := Lib.hid ht0; have HCU := Lib.hid hcu
    clear hv0 ht0 hcu c0 f0
    go_wp2_with fail
    refine (vplace_any HV.out x hl0).mono ?_
    rintro e w2 ⟨rfl, hm2⟩
    have HV2 := Lib.hid (HV.out.mod hm2 (fun _ _ e => e))
    have HT2 := Lib.hid (HT.out.quiet hm2)
    obtain ⟨u, h1, h2, hB, h4⟩ := HV2.out
    have hsl := own_slAt (k := 3) (enc := encPt) (fun _ => rfl) h2
    have hpl : placeP l0 x < l0.length := placeK_lt l0 x l0.length (List.length_pos_iff.2 hne)
    have he : l0[placeP l0 x]? = some l0[placeP l0 x] := List.getElem?_eq_getElem hpl
    obtain ⟨b, o, cp, hv, hb, r0, r1, r2⟩ := at3 hsl he
    subst hv
    have hcp : cutP0 l0 x = if l0[placeP l0 x].f = x then l0 else l0.take (placeP l0 x + 1) ++ ⟨x, l0[placeP l0 x].n, l0[placeP l0 x].e⟩ :: l0.drop (placeP l0 x + 1) := by
      unfold cutP0
      rw [he]
    have HCP := Lib.hid hcp
    have HROW := Lib.hid h2; have HB := Lib.hid hB; have H4 := Lib.hid h4; have H1 := Lib.hid h1
    generalize l0[placeP l0 x] = p at *
    generalize placeP l0 x = j at *
    have c0 := cell_of h1 0 (v := .slice (some ⟨b, o, none⟩) l0.length cp) rfl
    clear he hsl hcp h1 h2 hB h4 hm2
    by_cases hp : p.f = x
    · go_wp2_with fail
      refine bodyPost_end (results_none rfl _ _ _) rfl ⟨⟨_, rfl⟩, _, ?_, HT2.out⟩
      rw [HCU.out, HCP.out, if_pos hp]
      exact HV2.out
    · go_wp2_with fail
      obtain ⟨w3, hw3⟩ : ∃ w3, w3 = w2.alloc (.cells #[.int .u64 x, .int .i64 p.n, .int .i64 p.e] 211) := ⟨_, rfl⟩
      have hm3 : Mod NoB w2 w3 := by rw [hw3]; exact (Mod.refl _ _).alloc _
      have hbx : w3.heap[w2.heap.size]? = some (.cells #[.int .u64 x, .int .i64 p.n, .int .i64 p.e] 211 (0, 0)) := by rw [hw3]; exact heap_alloc_new w2 _
      have hs3 : w3.heap.size = w2.heap.size + 1 := by rw [hw3]; simp
      rw [← hw3]
      clear hw3
      have p0 := cell_of hbx 0 (v := .int .u64 x) rfl; have p1 := cell_of hbx 1 (v := .int .i64 p.n) rfl; have p2 := cell_of hbx 2 (v := .int .i64 p.e) rfl
      have BV := Lib.hid ((hm3.block v (Array.getElem?_eq_some_iff.1 H1.out).1 (fun e => e)).trans H1.out)
      have d0 := cell_of BV.out 0 (v := .slice (some ⟨b, o, none⟩) l0.length cp) rfl
      have HRW : Hid (∀ W, Mod NoB w3 W → RowPt W (.slice (some ⟨b, o, none⟩) l0.length cp) l0.length (l0.flatMap encPt)) := Lib.hid (fun W hm => own_mod' HROW.out (hm3.trans hm) (fun _ _ e => e))
      have hol : ∀ q ∈ ownL (.slice (some ⟨b, o, none⟩) l0.length cp), q < w2.heap.size := own_lt HROW.out
      have hgo : w3.heap.size ∉ ownL (.slice (some ⟨b, o, none⟩) l0.length cp) := fun e => by have := hol _ e; omega
      have hvl2 : v < w2.heap.size := (Array.getElem?_eq_some_iff.1 H1.out).1
      have HGO := Lib.hid hgo; have HOL := Lib.hid hol; have M3 := Lib.hid hm3
      clear r0 r1 r2 c0 hbx hgo hol hm3
      have HJI : Hid (IntKind.i64.wrap ((j : Int) + 1) = ((j + 1 : Nat) : Int)) := Lib.hid ((IntWalk.i64_in _ ⟨by omega, by omega⟩).trans (by omega))
      have hvl3 : v < w3.heap.size := by omega
      have HS3 := Lib.hid hs3
      have HNE := Lib.hid hne; have HPP := Lib.hid hp; have HLL := Lib.hid hl
      clear hne hp hl hb hs3 hvl2
      go_region_law ((go_simp; go_at_call 202; rw [HJI.out]; go_loud (refine (insPt (v := .slice (some ⟨b, o, none⟩) l0.length cp) (n := l0.length) (i := j + 1) (g := w3.heap.size) (news := encPt ⟨x, p.n, p.e⟩) (HRW.out _ (by repeat (first | exact Mod.refl _ _ | refine Mod.alloc ?_ _ | refine Mod.drew ?_))) (flat_one (fun _ _ hu => onePt hu)) (by omega) (by omega) (by exact heap_alloc_new _ _) rfl (fun _ hu => onePt hu) HGO.out).mono ?_; rintro e w4 ⟨c, cap', rfl, hr, hm, hc⟩; have kb := heap_keep2 BV.out hm (by repeat (first | exact Mod.refl _ _ | refine Mod.alloc ?_ _ | refine Mod.drew ?_)) H4.out; have k0 : w4.cell? ⟨v, 0, none⟩ = some (.slice (some ⟨b, o, none⟩) l0.length cp) := cell_of kb 0 rfl; have kf := frozen_of kb 0; have KB := Lib.hid kb; have HR := Lib.hid hr; have HM := Lib.hid (then2 M3.out hm (by repeat (first | exact Mod.refl _ _ | refine Mod.alloc ?_ _ | refine Mod.drew ?_))); have HC := Lib.hid (c_new (w3 := w3) hc (by repeat (first | exact Mod.refl _ _ | refine Mod.alloc ?_ _ | refine Mod.drew ?_))); clear hr hm hc kb)))
      all_goals
        go_wp2_with fail
        have hcv : c ≠ v := fun e => by
          rcases HC.out with h | h
          · exact H4.out (e ▸ h)
          · omega
        have hms : Mod (· = v) w4 (w4.setCell ⟨v, 0, none⟩ (.slice (some ⟨c, 0, none⟩) (l0.length + 1) cap')) := Mod.setCell (S := (· = v)) (Mod.refl _ w4) (p := ⟨v, 0, none⟩) (fun _ => rfl) _
        have hset := heap_set KB.out 0 (.slice (some ⟨c, 0, none⟩) (l0.length + 1) cap')
        refine bodyPost_end (results_none rfl _ _ _) rfl ⟨⟨_, rfl⟩, v :: ownL (.slice (some ⟨c, 0, none⟩) (l0.length + 1) cap'), ?_, HT2.out.trans ⟨?_, ?_⟩⟩
        · rw [HCU.out, HCP.out, if_neg HPP.out]
          refine ⟨_, by simpa using hset, ?_, rfl, by simp [ownL, Value.ownBlock]; exact fun e => hcv e.symm⟩
          have h1 := own_mod' HR.out hms (fun q hq e => by simp [ownL, Value.ownBlock] at hq; omega)
          have e1 : (l0.take (j + 1) ++ (⟨x, p.n, p.e⟩ : Pt) :: l0.drop (j + 1)).length = l0.length + 1 := by
            rw [List.length_append, List.length_cons, List.length_take, List.length_drop]; omega
          have e2 : (l0.flatMap encPt).take ((j + 1) * 3) ++ (encPt ⟨x, p.n, p.e⟩ ++ (l0.flatMap encPt).drop ((j + 1) * 3)) = (l0.take (j + 1) ++ (⟨x, p.n, p.e⟩ : Pt) :: l0.drop (j + 1)).flatMap encPt := by
            rw [flat_take (k := 3) (fun _ => rfl), flat_drop (k := 3) (fun _ => rfl), List.flatMap_append, List.flatMap_cons]
          rw [e2] at h1
          rw [e1]
          exact h1
        · refine (HM.out.mono (fun q _ hq => ?_)).then (hms.mono (fun q _ hq => ?_)) (fun q _ hq => hq)
          · rw [HB.out]; exact List.mem_cons_of_mem _ hq
          · rw [HB.out, hq]; exact List.mem_cons_self
        · intro q hq
          rcases List.mem_cons.1 hq with rfl | hq
          · exact .inl (by rw [HB.out]; exact List.mem_cons_self)
          · simp [ownL, Value.ownBlock] at hq
            subst hq
            exact HC.out.imp (fun h => by rw [HB.out]; exact List.mem_cons_of_mem _ h) (fun h => by have := HS3.out; omega)
end Go.Proofs.YtpcmbnbdppembaaGreatDoor
