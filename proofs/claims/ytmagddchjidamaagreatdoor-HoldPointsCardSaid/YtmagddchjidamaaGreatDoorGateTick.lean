/- (*gate.Gate).Tick of a gate of at most one pointer. -/
import Derived.Test.YtmagddchjidamaaGreatDoorHoldDo
import Derived.Test.YtmagddchjidamaaGreatDoorShelfLeaf
import Derived.Test.YtmagddchjidamaaGreatDoorSlKit
namespace Go.Proofs.YtmagddchjidamaaGreatDoor
set_option linter.unusedSimpArgs false
set_option linter.unusedVariables false
open Go.RowKit Go.Shelf
attribute [local go_sem ↓] Go.wp_at_zero Go.wp_at_succ

theorem tick1_any (p : Ptr) (w : World) : Calls Tryz.prog 88 #[.agg #[.int .u64 p.f, .int .u64 p.t, .int .i64 p.node, .int .i64 p.old]] w fun e w' => e = .returned (.bool (decide (40 ≤ p.old))) ∧ Mod NoB w w' := by
  go_enter Tryz.func88, Tryz.ntmps88
  go_wp2_with fail
  go_ret
  exact ⟨rfl, (Mod.refl _ _).alloc _⟩

set_option maxHeartbeats 4000000 in
theorem ifp_nil (av : Option Addr) (cap : Nat) (w : World) : Calls Tryz.prog 102 #[.slice av 0 cap, .func (.func 88) #[] #[]] w fun e w' => e = .returned (.int .i64 (-1)) ∧ Mod NoB w w' := by
  go_enter Tryz.func102, Tryz.ntmps102
  go_wp2_with fail
  go_loopw [8] (fun i wr => i = .int .i64 0 ∧ Mod NoB w wr) (fun _ _ => 0)
  case atStart => exact ⟨rfl, Mod.refl _ _⟩
  case round =>
    obtain ⟨rfl, hm⟩ := hrel
    have HM := Lib.hid hm
    clear hm
    go_wp2_with fail
    go_ret
    exact ⟨rfl, HM.out⟩

set_option maxHeartbeats 4000000 in
theorem ifp_one {w : World} {c cap : Nat} {p : Ptr} (h0 : w.cell? ⟨c, 0, none⟩ = some (.int .u64 p.f)) (h1 : w.cell? ⟨c, 1, none⟩ = some (.int .u64 p.t)) (h2 : w.cell? ⟨c, 2, none⟩ = some (.int .i64 p.node)) (h3 : w.cell? ⟨c, 3, none⟩ = some (.int .i64 p.old)) (hc : 1 ≤ cap) :
    Calls Tryz.prog 102 #[.slice (some ⟨c, 0, none⟩) 1 cap, .func (.func 88) #[] #[]] w fun e w' => e = .returned (.int .i64 (if 40 ≤ p.old then 0 else -1)) ∧ Mod NoB w w' := by
  by_cases h40 : 40 ≤ p.old
  · rw [if_pos h40]
    have HB := Lib.hid h40
    clear h40
    go_enter Tryz.func102, Tryz.ntmps102
    go_wp2_with fail
    go_loopw [8] (fun i wr => i = .int .i64 0 ∧ Mod NoB w wr) (fun _ _ => 0)
    case atStart => exact ⟨rfl, Mod.refl _ _⟩
    case round =>
      obtain ⟨rfl, hm⟩ := hrel
      have HM := Lib.hid hm
      have x0 := hm.cellS h0; have x1 := hm.cellS h1; have x2 := hm.cellS h2; have x3 := hm.cellS h3
      clear hm
      go_wp2_with fail
      refine (tick1_any p _).mono ?_
      rintro e w2 ⟨rfl, hm2⟩
      rw [decide_eq_true HB.out]
      have HM2 := Lib.hid (HM.out.trans hm2)
      clear hm2
      go_wp2_with fail
      go_ret
      exact ⟨rfl, HM2.out⟩
  · rw [if_neg h40]
    have HB := Lib.hid h40
    clear h40
    go_enter Tryz.func102, Tryz.ntmps102
    go_wp2_with fail
    go_loopw [8] (fun i wr => ∃ k : Nat, k ≤ 1 ∧ i = .int .i64 k ∧ Mod NoB w wr) (fun i _ => 1 - (intOf i).toNat)
    case atStart => exact ⟨0, by decide, rfl, Mod.refl _ _⟩
    case round =>
      obtain ⟨k, hk, rfl, hm⟩ := hrel
      have HM := Lib.hid hm
      have x0 := hm.cellS h0; have x1 := hm.cellS h1; have x2 := hm.cellS h2; have x3 := hm.cellS h3
      clear hm
      by_cases hk0 : k = 0
      · subst hk0
        go_wp2_with fail
        refine (tick1_any p _).mono ?_
        rintro e w2 ⟨rfl, hm2⟩
        rw [decide_eq_false (Int.not_le.2 HB.out)]
        have HM2 := Lib.hid (HM.out.trans hm2)
        clear hm2
        go_wp2_with fail
        go_roundw
        case rel => exact ⟨1, by decide, by go_num, HM2.out⟩
        case measure => simp [intOf]
      · obtain rfl : k = 1 := by omega
        go_wp2_with fail
        go_ret
        exact ⟨rfl, HM.out⟩

abbrev zeroPtr : Array Value := #[.int .u64 0, .int .u64 0, .int .i64 0, .int .i64 0]
abbrev setPtr (w : World) (c : Nat) (p : Ptr) : World := (((w.setCell ⟨c, 0, none⟩ (.int .u64 p.f)).setCell ⟨c, 1, none⟩ (.int .u64 p.t)).setCell ⟨c, 2, none⟩ (.int .i64 p.node)).setCell ⟨c, 3, none⟩ (.int .i64 p.old)

theorem clear_ptr {W : World} {c cap : Nat} (h : ∀ j, j < 4 → (W.cell? ⟨c, j, none⟩).isSome = true) (hf : ∀ j, j < 4 → W.frozen? ⟨c, j, none⟩ = false) :
    Sem.run Tryz.prog (Builtin.clear_ #[71] 0 #[.slice (some ⟨c, 0, none⟩) 1 cap]) W = .ok (.tuple #[]) (setPtr W c ⟨0, 0, 0, 0⟩) := by
  have hst := run_storeCells_cells (P := Tryz.prog) c 0 [.int .u64 0, .int .u64 0, .int .i64 0, .int .i64 0] 0 W
    (by intro j hj; simpa using h j (by simpa using hj)) (by intro j hj; simpa using hf j (by simpa using hj)) (by intro v hv; simp at hv; rcases hv with rfl | rfl | rfl | rfl <;> rfl)
  simp only [Nat.add_zero] at hst
  have hz := Tryz.zeroValue117
  have hzc : (Builtin.zeroCells (Value.agg #[.int .u64 0, .int .u64 0, .int .i64 0, .int .i64 0]).cells 1).toList = [.int .u64 0, .int .u64 0, .int .i64 0, .int .i64 0] := by first | kernel_rfl | (simp [Builtin.zeroCells]; done) | decide
  simp [Builtin.clear_, run_underlying tyPtrs, hz, hzc, hst, World.setCells]

theorem setPtr_mod (w : World) (c : Nat) (p : Ptr) : Mod (· = c) w (setPtr w c p) :=
  Mod.setCell (S := (· = c)) (Mod.setCell (S := (· = c)) (Mod.setCell (S := (· = c)) (Mod.setCell (S := (· = c)) (Mod.refl _ _) (p := ⟨c, 0, none⟩) (by intro _; rfl) _) (p := ⟨c, 1, none⟩) (by intro _; rfl) _) (p := ⟨c, 2, none⟩) (by intro _; rfl) _) (p := ⟨c, 3, none⟩) (by intro _; rfl) _

abbrev RowPt (w : World) (v : Value) (n : Nat) (cs : List Value) : Prop := w.ownsRow 0 117 4 v n cs

set_option maxRecDepth 100000 in
set_option maxHeartbeats 8000000 in
theorem delp_one {w : World} {c cap : Nat} {p : Ptr} (h : RowPt w (.slice (some ⟨c, 0, none⟩) 1 cap) 1 (encPtr p)) :
    Calls Tryz.prog 87 #[.slice (some ⟨c, 0, none⟩) 1 cap, .func (.func 88) #[] #[]] w fun e w' =>
      Mod (· = c) w w' ∧ (if 40 ≤ p.old then e = .returned (.slice (some ⟨c, 0, none⟩) 0 cap) ∧ RowPt w' (.slice (some ⟨c, 0, none⟩) 0 cap) 0 [] else e = .returned (.slice (some ⟨c, 0, none⟩) 1 cap) ∧ RowPt w' (.slice (some ⟨c, 0, none⟩) 1 cap) 1 (encPtr p)) := by
  obtain ⟨_, cur, q1, q2, q3, q4, q5⟩ := ownsRow_block h
  have hc : ∀ j u, (encPtr p)[j]? = some u → w.cell? ⟨c, j, none⟩ = some u := fun j u hu => by
    have := h.cells (g := c) rfl j u hu
    rwa [addr_lit, Nat.zero_add] at this
  have c0 := hc 0 _ rfl; have c1 := hc 1 _ rfl; have c2 := hc 2 _ rfl; have c3 := hc 3 _ rfl
  have hlt : c < w.heap.size := (Array.getElem?_eq_some_iff.1 q1).1
  have hif := ifp_one c0 c1 c2 c3 (show 1 ≤ cap by omega)
  have hfr : ∀ j, w.frozen? ⟨c, j, none⟩ = false := fun j => frozen_of q1 j
  have H := Lib.hid h; have HIF := Lib.hid hif; have Q1 := Lib.hid q1; have Q4 := Lib.hid q4
  clear h hif hc q1 q4 q5 q3
  by_cases h40 : 40 ≤ p.old
  · simp only [if_pos h40]
    rw [if_pos h40] at HIF
    go_enter Tryz.func87, Tryz.ntmps87
    go_wp2_with fail
    refine HIF.out.mono ?_
    rintro e w1 ⟨rfl, hm1⟩
    have HM1 := Lib.hid hm1
    have g0 := hm1.cellS c0; have g1 := hm1.cellS c1; have g2 := hm1.cellS c2; have g3 := hm1.cellS c3
    have gf : ∀ j, w1.frozen? ⟨c, j, none⟩ = false := fun j => (hm1.frozen (p := ⟨c, j, none⟩) hlt (fun x => x)).trans (hfr j)
    have hcl : ∀ cap, Sem.run Tryz.prog (Builtin.clear_ #[71] 0 #[.slice (some ⟨c, 0, none⟩) 1 cap]) w1 = .ok (.tuple #[]) (setPtr w1 c ⟨0, 0, 0, 0⟩) := fun cap => clear_ptr (fun j hj => by
      match j, hj with
      | 0, _ => rw [g0]; rfl
      | 1, _ => rw [g1]; rfl
      | 2, _ => rw [g2]; rfl
      | 3, _ => rw [g3]; rfl) (fun j _ => gf j)
    have hrow : RowPt (setPtr w1 c ⟨0, 0, 0, 0⟩) (.slice (some ⟨c, 0, none⟩) 0 cap) 0 [] := by
      have hb : w1.heap[c]? = some (.cells cur 117 (0, 0)) := by rw [hm1.block c hlt (fun x => x)]; exact Q1.out
      have e := heap_set (heap_set (heap_set (heap_set hb 0 (.int .u64 0)) 1 (.int .u64 0)) 2 (.int .i64 0)) 3 (.int .i64 0)
      exact ownsRow_of_heap e (Nat.zero_le _) (by have := H.out; obtain ⟨_, _, _, _, z, _⟩ := ownsRow_block this; exact z) (by simpa using Q4.out) (by simp)
    have HROW := Lib.hid hrow
    clear hm1 hrow hfr
    go_wp2_with fail
    have hcz : ¬ cap = 0 := by omega
    go_loopw [5, 6] (fun q i wr => q = .int .i64 0 ∧ i = .int .i64 1 ∧ wr = w1) (fun _ _ _ => 0)
    case atStart => exact ⟨rfl, rfl, rfl⟩
    case round =>
      obtain ⟨rfl, rfl, rfl⟩ := hrel
      go_wp2_with fail
      go_ret
      exact ⟨(HM1.out.mono (fun _ _ e => e.elim)).trans (setPtr_mod _ _ _), rfl, HROW.out⟩
  · simp only [if_neg h40]
    rw [if_neg h40] at HIF
    go_enter Tryz.func87, Tryz.ntmps87
    go_wp2_with fail
    refine HIF.out.mono ?_
    rintro e w1 ⟨rfl, hm1⟩
    have HM1 := Lib.hid hm1
    clear hm1
    go_wp2_with fail
    go_ret
    exact ⟨HM1.out.mono (fun _ _ e => e.elim), rfl, own_mod' H.out HM1.out (fun _ _ e => e)⟩

set_option maxHeartbeats 4000000 in
theorem delp_nil (av : Option Addr) (cap : Nat) (w : World) : Calls Tryz.prog 87 #[.slice av 0 cap, .func (.func 88) #[] #[]] w fun e w' => e = .returned (.slice av 0 cap) ∧ Mod NoB w w' := by
  go_enter Tryz.func87, Tryz.ntmps87
  go_wp2_with fail
  refine (ifp_nil av cap _).mono ?_
  rintro e w1 ⟨rfl, hm1⟩
  have HM1 := Lib.hid hm1
  clear hm1
  go_wp2_with fail
  go_ret
  exact ⟨rfl, HM1.out⟩

/-- the pointers are others now, in the same block -/
theorem hold_pts {w w3 : World} {h : Nat} {st : HSt} {tr : Option Tree} {n : Nat} {vo vp vp' : Value} {s : Nat} {L : List Nat} {pts' : List Ptr}
    (q1 : w.heap[h]? = some (.cells #[.int .i64 st.node, .int .i64 st.most, .int .i64 st.kept, vo, .pointer (some ⟨s, 0, none⟩), .bool st.shut, .int .u64 st.a.f, .int .u64 st.a.t, vp] 75 (0, 0)))
    (q2 : w.ownsRow 0 66 4 vo st.own.length (st.own.flatMap encOw)) (q4 : ShelfAt w s st.most tr n L) (q5 : (h :: (ownL vo ++ ownL vp ++ L)).Nodup)
    (hm : Mod (· ∈ ownL vp) w w3) (hr : RowPt w3 vp' pts'.length (pts'.flatMap encPtr)) (he : ownL vp' = ownL vp) :
    HoldAt (w3.setCell ⟨h, 8, none⟩ vp') h { st with pts := pts' } tr n (h :: (ownL vo ++ ownL vp ++ L)) ∧ Turn (h :: (ownL vo ++ ownL vp ++ L)) w (w3.setCell ⟨h, 8, none⟩ vp') (h :: (ownL vo ++ ownL vp ++ L)) := by
  have hn := q5
  simp only [List.nodup_cons, List.mem_append, not_or, List.nodup_append] at hn
  obtain ⟨⟨⟨n1, n2⟩, n3⟩, ⟨⟨n4, n5, n6⟩, n7, n8⟩⟩ := hn
  have hself : Mod (· = h) w3 (w3.setCell ⟨h, 8, none⟩ vp') := Mod.setCell (S := (· = h)) (Mod.refl _ _) (by intro _; rfl) _
  have hb3 : w3.heap[h]? = some (.cells #[.int .i64 st.node, .int .i64 st.most, .int .i64 st.kept, vo, .pointer (some ⟨s, 0, none⟩), .bool st.shut, .int .u64 st.a.f, .int .u64 st.a.t, vp] 75 (0, 0)) := by
    rw [hm.block h (Array.getElem?_eq_some_iff.1 q1).1 n2]; exact q1
  refine ⟨⟨vo, vp', s, L, ?_, own_mod' (own_mod' q2 hm (fun k hk e => n6 k hk k e rfl)) hself (fun k hk e => n1 (e ▸ hk)), own_mod' hr hself (fun k hk e => n2 (by rw [← he]; exact e ▸ hk)), (q4.mod hm (fun k hk e => n8 k (.inr e) k hk rfl)).mod hself (fun k hk e => n3 (e ▸ hk)), by rw [he], q5⟩, (hm.mono (fun k _ hk => by simp [hk])).then hself (fun k _ e => by simp [e]), fun k hk => .inl hk⟩
  have := heap_set hb3 8 vp'
  simpa using this

def tickP (pts : List Ptr) : List Ptr := (pts.map (fun p => { p with old := p.old + 1 })).filter (fun p => decide (p.old < 40))

set_option maxRecDepth 100000 in
set_option maxHeartbeats 8000000 in
theorem gtick_any {w : World} {h : Nat} {st : HSt} {tr : Option Tree} {n : Nat} {B : List Nat} (hh : HoldAt w h st tr n B) (hp : st.pts = [] ∨ ∃ p, st.pts = [p] ∧ 0 ≤ p.old ∧ p.old ≤ 1000) :
    Calls Tryz.prog 63 #[.pointer (some ⟨h, 5, none⟩)] w fun e w' => (∃ v, e = .returned v) ∧ ∃ B', HoldAt w' h { st with pts := tickP st.pts } tr n B' ∧ Turn B w w' B' := by
  obtain ⟨vo, vp, s, L, q1, q2, q3, q4, rfl, q5⟩ := hh
  have c8 : w.cell? ⟨h, 8, none⟩ = some vp := cell_of q1 8 rfl
  have f8 := frozen_of q1 8
  have hhr : h < w.heap.size := (Array.getElem?_eq_some_iff.1 q1).1
  have HP1 := Lib.hid (fun (w3 : World) (vp' : Value) (pts' : List Ptr) (hm : Mod (· ∈ ownL vp) w w3) (hr : RowPt w3 vp' pts'.length (pts'.flatMap encPtr)) (he : ownL vp' = ownL vp) => hold_pts q1 q2 q4 q5 hm hr he)
  have hnp : h ∉ ownL vp := by
    simp only [List.nodup_cons, List.mem_append, not_or] at q5
    exact q5.1.1.2
  rcases hp with hp | ⟨p, hp, hp0, hp1⟩
  · rw [hp] at q3
    obtain ⟨av, cap, rfl⟩ : ∃ a cap, vp = .slice a 0 cap := (ownsRow_form q3).elim (fun h => ⟨none, 0, h.1⟩) (fun ⟨g, cap, h⟩ => ⟨_, cap, h⟩)
    have Q3 := Lib.hid q3; have HP := Lib.hid hp
    clear q1 q2 q3 q4 q5 hp
    go_enter Tryz.func63, Tryz.ntmps63
    go_wp2_with fail
    go_loopw [10] (fun i wr => i = .int .i64 0 ∧ wr = w) (fun _ _ => 0)
    case atStart => exact ⟨rfl, rfl⟩
    case round =>
      obtain ⟨rfl, rfl⟩ := hrel
      go_wp2_with fail
      refine (delp_nil av cap _).mono ?_
      rintro e w1 ⟨rfl, hm1⟩
      have k8 := hm1.cellS c8
      have kf := (hm1.frozen (p := ⟨h, 8, none⟩) hhr (fun x => x)).trans f8
      have hres := HP1.out w1 (.slice av 0 cap) [] (hm1.mono (fun _ _ e => e.elim)) (own_mod' Q3.out hm1 (fun _ _ e => e)) rfl
      have HRES := Lib.hid hres
      clear hm1 hres
      go_wp2_with fail
      refine bodyPost_end (results_none rfl _ _ _) rfl ⟨⟨_, rfl⟩, _, ?_, HRES.out.2⟩
      rw [HP.out]
      exact HRES.out.1
  · rw [hp] at q3
    rcases ownsRow_form q3 with ⟨_, h0⟩ | ⟨c, cap, rfl⟩
    · simp at h0
    obtain ⟨_, cur, z1, z2, z3, z4, z5⟩ := ownsRow_block q3
    have q3' : RowPt w (.slice (some ⟨c, 0, none⟩) 1 cap) 1 (encPtr p) := by simpa using q3
    have hc3 : w.cell? ⟨c, 3, none⟩ = some (.int .i64 p.old) := by
      have := q3'.cells (g := c) rfl 3 _ rfl
      rwa [addr_lit, Nat.zero_add] at this
    have f3 := frozen_of z1 3
    have hcn : c < w.heap.size := (Array.getElem?_eq_some_iff.1 z1).1
    have hch : c ≠ h := fun e => hnp (by simp [ownL, Value.ownBlock, e])
    have hms : Mod (· = c) w (w.setCell ⟨c, 3, none⟩ (.int .i64 (p.old + 1))) := Mod.setCell (S := (· = c)) (Mod.refl _ _) (by intro _; rfl) _
    have hrow2 : RowPt (w.setCell ⟨c, 3, none⟩ (.int .i64 (p.old + 1))) (.slice (some ⟨c, 0, none⟩) 1 cap) 1 (encPtr { p with old := p.old + 1 }) := by
      have e := heap_set z1 3 (.int .i64 (p.old + 1))
      refine ownsRow_of_heap e z2 z3 (by simpa using z4) ?_
      have z5' : cur.toList.take (1 * 4) = encPtr p := by simpa using z5
      rw [Array.toList_setIfInBounds, List.take_set, z5']
      rfl
    have hw1 : IntKind.i64.wrap (p.old + 1) = p.old + 1 := IntWalk.i64_in _ ⟨by omega, by omega⟩
    have HR2 := Lib.hid hrow2; have HMS := Lib.hid hms; have HP := Lib.hid hp
    have k8 : (w.setCell ⟨c, 3, none⟩ (.int .i64 (p.old + 1))).cell? ⟨h, 8, none⟩ = some (.slice (some ⟨c, 0, none⟩) 1 cap) := by
      rw [hms.cell (p := ⟨h, 8, none⟩) hhr (fun e => hch e.symm)]
      simpa using c8
    have HK8 := Lib.hid k8
    have c8' : w.cell? ⟨h, 8, none⟩ = some (.slice (some ⟨c, 0, none⟩) 1 cap) := by simpa using c8
    have hmL : ∀ w3, Mod (· = c) (w.setCell ⟨c, 3, none⟩ (.int .i64 (p.old + 1))) w3 → Mod (· ∈ ownL (.slice (some ⟨c, 0, none⟩) [p].length cap)) w w3 := fun w3 hm => (hms.trans hm).mono (fun k _ e => by subst e; simp [ownL, Value.ownBlock])
    have HML := Lib.hid hmL
    have hcap : 1 ≤ cap := by simpa using z2
    clear q1 q2 q3 q3' q4 q5 z1 z2 z3 z4 z5 hp hrow2 hms k8 c8 hmL
    go_enter Tryz.func63, Tryz.ntmps63
    simp only [List.length_cons, List.length_nil, Nat.zero_add] at HP1 HML hnp ⊢
    go_wp2_with fail
    go_loopw [10] (fun i wr => ∃ q : Nat, q ≤ 1 ∧ i = .int .i64 q ∧ ((q = 0 ∧ wr = w) ∨ (q = 1 ∧ wr = w.setCell ⟨c, 3, none⟩ (.int .i64 (p.old + 1))))) (fun i _ => 1 - (intOf i).toNat)
    case atStart => exact ⟨0, by decide, rfl, .inl ⟨rfl, rfl⟩⟩
    case round =>
      obtain ⟨q, hq, rfl, hcase⟩ := hrel
      rcases hcase with ⟨rfl, rfl⟩ | ⟨rfl, hwr⟩
      · go_wp2_with fail
        go_roundw
        case rel => exact ⟨1, by decide, by go_num, .inr (by simp)⟩
        case measure => simp [intOf]
      · obtain ⟨W1, hW1⟩ : ∃ W1, W1 = w.setCell ⟨c, 3, none⟩ (.int .i64 (p.old + 1)) := ⟨_, rfl⟩
        rw [← hW1] at hwr HR2 HMS HK8 HML
        subst hwr
        clear hW1
        have k8 := HK8.out
        have hfz : wr.frozen? ⟨h, 8, none⟩ = false := by rw [HMS.out.frozen (p := ⟨h, 8, none⟩) hhr (fun e => hch e.symm)]; exact f8
        have hhr1 : h < wr.heap.size := Nat.lt_of_lt_of_le hhr HMS.out.size
        go_wp2_with fail
        refine (delp_one (p := { p with old := p.old + 1 }) HR2.out).mono ?_
        rintro e w2 ⟨hm2, hif⟩
        have m8 : w2.cell? ⟨h, 8, none⟩ = some (.slice (some ⟨c, 0, none⟩) 1 cap) := (hm2.cell (p := ⟨h, 8, none⟩) hhr1 (fun e => hch e.symm)).trans k8
        have mf : w2.frozen? ⟨h, 8, none⟩ = false := (hm2.frozen (p := ⟨h, 8, none⟩) hhr1 (fun e => hch e.symm)).trans hfz
        by_cases h40 : 40 ≤ p.old + 1
        · rw [if_pos (show 40 ≤ ({ p with old := p.old + 1 } : Ptr).old from h40)] at hif
          obtain ⟨rfl, hrow⟩ := hif
          have hres := HP1.out w2 (.slice (some ⟨c, 0, none⟩) 0 cap) [] (HML.out w2 hm2) hrow rfl
          have HRES := Lib.hid hres
          have ht : tickP [p] = [] := by
            have : ¬ p.old + 1 < 40 := by omega
            simp [tickP, this]
          have HT := Lib.hid ht
          clear hm2 hrow hres ht k8 hfz
          go_wp2_with fail
          refine bodyPost_end (results_none rfl _ _ _) rfl ⟨⟨_, rfl⟩, _, ?_, HRES.out.2⟩
          rw [HP.out, HT.out]
          exact HRES.out.1
        · rw [if_neg (show ¬ 40 ≤ ({ p with old := p.old + 1 } : Ptr).old from h40)] at hif
          obtain ⟨rfl, hrow⟩ := hif
          have hres := HP1.out w2 (.slice (some ⟨c, 0, none⟩) 1 cap) [{ p with old := p.old + 1 }] (HML.out w2 hm2) (by simpa using hrow) rfl
          have HRES := Lib.hid hres
          have ht : tickP [p] = [{ p with old := p.old + 1 }] := by
            have : p.old + 1 < 40 := by omega
            simp [tickP, this]
          have HT := Lib.hid ht
          clear hm2 hrow hres ht k8 hfz
          go_wp2_with fail
          refine bodyPost_end (results_none rfl _ _ _) rfl ⟨⟨_, rfl⟩, _, ?_, HRES.out.2⟩
          rw [HP.out, HT.out]
          exact HRES.out.1

set_option maxRecDepth 100000 in
set_option maxHeartbeats 8000000 in
theorem htick_any {w : World} {h : Nat} {st : HSt} {tr : Option Tree} {n : Nat} {B : List Nat} (hh : HoldAt w h st tr n B) (hp : st.pts = [] ∨ ∃ p, st.pts = [p] ∧ 0 ≤ p.old ∧ p.old ≤ 1000) :
    Calls Tryz.prog 31 #[.pointer (some ⟨h, 0, none⟩)] w fun e w' => (∃ v, e = .returned v) ∧ ∃ B', HoldAt w' h { st with pts := tickP st.pts } tr n B' ∧ Turn B w w' B' := by
  have HG := Lib.hid (gtick_any hh hp)
  clear hh hp
  go_enter Tryz.func31, Tryz.ntmps31
  go_wp2_with fail
  refine HG.out.mono ?_
  rintro e w1 ⟨⟨v, rfl⟩, B', h1, h2⟩
  have H1 := Lib.hid h1; have H2 := Lib.hid h2
  clear h1 h2
  go_wp2_with fail
  refine bodyPost_end (results_none rfl _ _ _) rfl ⟨⟨_, rfl⟩, B', H1.out, H2.out⟩
end Go.Proofs.YtmagddchjidamaaGreatDoor
