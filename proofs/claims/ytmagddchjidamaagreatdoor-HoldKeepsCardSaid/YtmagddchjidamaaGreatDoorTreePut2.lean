/- (*shelf.node).put: an item that is not there, into a leaf that is full. -/
import Derived.Test.YtmagddchjidamaaGreatDoorTreePut
import Derived.Deep.DeepCutAuto
namespace Go.Proofs.YtmagddchjidamaaGreatDoor
set_option linter.unusedSimpArgs false
set_option linter.unusedVariables false
open Go.RowKit Go.Shelf
attribute [local go_sem ↓] Go.wp_at_zero Go.wp_at_succ

/-- what stands behind the insertion -/
def Cut7 (w : World) (b : Nat) (v u : Value) (xs : List Itm) (bs : List Nat) (r : Nat) (W : World) : Prop :=
  ∃ c cap u', NodeAt W b (.slice (some ⟨c, 0, none⟩) xs.length cap) xs u' bs ∧ (nodeL b (.slice (some ⟨c, 0, none⟩) xs.length cap) u').Nodup ∧ Turn (nodeL b v u) w W (nodeL b (.slice (some ⟨c, 0, none⟩) xs.length cap) u') ∧
    W.heap[r]? = some (.cells #[.string ⟨#[]⟩, .string ⟨#[]⟩] 43 (0, 0)) ∧ r ∉ nodeL b (.slice (some ⟨c, 0, none⟩) xs.length cap) u' ∧ w.heap.size ≤ r

theorem cut7_of {w w3 w4 : World} {b c cap n : Nat} {v u : Value} {xs xs' : List Itm} {bs : List Nat} (H : NodeAt w b v xs u bs) (HND : (nodeL b v u).Nodup) (HM : Mod (· ∈ ownL v) w w4) (hr : RowIt w4 (.slice (some ⟨c, 0, none⟩) n cap) n (xs'.flatMap encIt)) (hn : xs'.length = n)
    (hc : c ∈ ownL v ∨ w3.heap.size ≤ c) (hB3 : w.heap.size + 2 ≤ w3.heap.size) (hk : w4.heap[w.heap.size + 1]? = some (.cells #[.string ⟨#[]⟩, .string ⟨#[]⟩] 43 (0, 0))) :
    Cut7 w b v u xs' bs (w.heap.size + 1) (w4.setCell ⟨b, 0, none⟩ (.slice (some ⟨c, 0, none⟩) n cap)) := by
  subst hn
  have hcl : ∀ k ∈ ownL (.slice (some ⟨c, 0, none⟩) xs'.length cap), k ∈ ownL v ∨ w3.heap.size ≤ k := fun k hk => by
    simp [ownL, Value.ownBlock] at hk
    rw [hk]
    exact hc
  have hlt := H.lts
  obtain ⟨q1, q2, q3⟩ := node_items H HND HM hr (fun k hk => (hcl k hk).imp id (fun h => by omega))
  refine ⟨c, cap, u, q1, q2, q3, ?_, ?_, Nat.le_succ _⟩
  · rw [heap_set_other (by have := hlt b (by simp [nodeL]); omega)]
    exact hk
  · intro e
    simp only [nodeL, List.mem_cons, List.mem_append] at e
    rcases e with h | h | h
    · have := hlt b (by simp [nodeL]); omega
    · rcases hcl _ h with h | h
      · have := hlt (w.heap.size + 1) (by simp [nodeL, h]); omega
      · omega
    · have := hlt (w.heap.size + 1) (by simp [nodeL, h]); omega

/-- what put gives where the node is too wide then -/
def SplitPost (w : World) (b : Nat) (v u : Value) (it : Itm) (xs : List Itm) (bs : List Nat) (e : Ending) (w' : World) : Prop :=
  ∃ up xl xr c v1 v2 u1 u2 bl br, e = .returned (.tuple #[.agg #[.string up.1, .string up.2], .pointer (some ⟨c, 0, none⟩)]) ∧ xs = xl ++ up :: xr ∧ xl.length = 3 ∧ xr.length = 3 ∧ bs = bl ++ br ∧ (bs = [] ∨ bl.length = 4) ∧
    NodeAt w' b v1 xl u1 bl ∧ NodeAt w' c v2 xr u2 br ∧ (nodeL b v1 u1 ++ nodeL c v2 u2).Nodup ∧ Turn (nodeL b v u) w w' (nodeL b v1 u1 ++ nodeL c v2 u2)

set_option maxRecDepth 100000 in
set_option maxHeartbeats 16000000 in
theorem nput_leaf7 {w : World} {b : Nat} {v u : Value} {x1 x2 : List Itm} (it : Itm) (h : NodeAt w b v (x1 ++ x2) u []) (hnd : (nodeL b v u).Nodup) (hpl : plc it.1 (x1 ++ x2) = (x1.length, false)) (hw : (x1 ++ x2).length ≤ 6) (hw6 : 6 ≤ (x1 ++ x2).length)
    (hk : it.1.size ≤ 1000000) (hs : ∀ x ∈ x1 ++ x2, x.1.size ≤ 1000000) :
    Calls Tryz.prog 90 #[.pointer (some ⟨b, 0, none⟩), .agg #[.string it.1, .string it.2]] w (SplitPost w b v u it (x1 ++ it :: x2) []) := by
  have hlt := h.lts
  have hb : b < w.heap.size := hlt b (by simp [nodeL])
  have hplace := fun W (hm : Mod NoB w W) => place_any (h.mod hm (fun _ _ x => x)) it.1 (by omega) hk hs
  have hleaf := fun W (hm : Mod NoB w W) => leaf_node (h.mod hm (fun _ _ x => x))
  rw [hpl] at hplace
  dsimp only at hplace
  have hform := ownsRow_form h.2.1
  have hvs : ∃ a cap, v = .slice a (x1 ++ x2).length cap := by
    rcases hform with ⟨e, e0⟩ | ⟨g, cap, e⟩
    · exact ⟨none, 0, by rw [e, e0]⟩
    · exact ⟨_, cap, e⟩
  obtain ⟨av, capv, rfl⟩ := hvs
  have c0 : w.cell? ⟨b, 0, none⟩ = some (.slice av (x1 ++ x2).length capv) := cell_of h.1 0 rfl
  have f0 := frozen_of h.1 0
  have HW0 := Lib.hid (fun W (hm : Mod NoB w W) => h.mod hm (fun _ _ x => x))
  have H := Lib.hid h; have HND := Lib.hid hnd; have HPL := Lib.hid hplace; have HLF := Lib.hid hleaf; have HLT := Lib.hid hlt; have C0 := Lib.hid c0; have F0 := Lib.hid f0
  have hxl : x1.length ≤ (x1 ++ x2).length := by simp
  obtain ⟨n, hn⟩ : ∃ n, n = (x1 ++ x2).length := ⟨_, rfl⟩
  rw [← hn] at hw hw6 hxl C0 H HND HW0 HLT ⊢
  have hne : b ≠ w.heap.size := by omega
  have hne1 : b ≠ w.heap.size + 1 := by omega
  have HN := Lib.hid hn
  clear h hnd hplace hleaf hlt hform c0 f0 hs hpl hn
  go_enter Tryz.func90, Tryz.ntmps90
  go_wp2_with (first
    | (go_at_call 94; refine (HPL.out _ (by repeat (first | exact Mod.refl _ _ | refine Mod.alloc ?_ _ | refine Mod.drew ?_))).mono ?_; rintro e w2 ⟨rfl, hm2⟩; have HM2 := Lib.hid hm2; clear hm2)
    | (go_at_call 75; refine (HLF.out _ (Mod.trans (by repeat (first | exact Mod.refl _ _ | refine Mod.alloc ?_ _ | refine Mod.drew ?_)) HM2.out)).mono ?_; rintro e w3 ⟨rfl, rfl⟩))
  obtain ⟨b1, b2, b3, b4⟩ := two_new HM2.out
  have BP := Lib.hid b1; have BR := Lib.hid b2; have M3 := Lib.hid b4
  have BB : Hid (w3.heap[b]? = some (.cells #[.slice av n capv, u] 126 (0, 0))) := Lib.hid (HW0.out _ b4).1
  have HROW : Hid (∀ W, Mod NoB w W → RowIt W (.slice av n capv) n ((x1 ++ x2).flatMap encIt)) := Lib.hid (fun W hm => by have := (HW0.out W hm).2.1; rw [← HN.out] at this; exact this)
  have d0 : w3.cell? ⟨b, 0, none⟩ = some (.slice av n capv) := cell_of BB.out 0 rfl
  have p0 : w3.cell? ⟨w.heap.size, 0, none⟩ = some (.string it.1) := cell_of b1 0 rfl
  have p1 : w3.cell? ⟨w.heap.size, 1, none⟩ = some (.string it.2) := cell_of b1 1 rfl
  have hbo : b ∉ ownL (.slice av n capv) := fun e => by
    have := HND.out
    simp only [nodeL, List.nodup_cons, List.mem_append, not_or] at this
    exact this.1.1 e
  have hro : w.heap.size + 1 ∉ ownL (.slice av n capv) := fun e => by
    have := HLT.out (w.heap.size + 1) (by simp [nodeL, e])
    omega
  have hgo : w3.heap.size ∉ ownL (.slice av n capv) := fun e => by
    have := HLT.out w3.heap.size (by simp [nodeL, e])
    omega
  have HBO := Lib.hid hbo; have HRO := Lib.hid hro; have HGO := Lib.hid hgo; have B3 := Lib.hid b3
  have hb3 : b < w3.heap.size := by omega
  have hbg : b ≠ w3.heap.size := by omega
  clear b1 b2 b3 b4 hbo hro hgo
  go_cut [] (fun wx => Cut7 w b (.slice av n capv) u (x1 ++ it :: x2) [] (w.heap.size + 1) wx)
  case first =>
    go_region_law ((go_simp; go_at_call 104; go_loud (refine (insIt (v := .slice av n capv) (n := n) (i := x1.length) (g := w3.heap.size) (news := encIt it) (HROW.out _ (M3.out.trans (by repeat (first | exact Mod.refl _ _ | refine Mod.alloc ?_ _ | refine Mod.drew ?_)))) (flat_one (fun _ _ hu => oneIt hu)) hxl (by omega) (by exact heap_alloc_new _ _) rfl (fun _ hu => oneIt hu) HGO.out).mono ?_; rintro e w4 ⟨c, cap, rfl, hr, hm, hc⟩; have kb := heap_keep2 BB.out hm (by repeat (first | exact Mod.refl _ _ | refine Mod.alloc ?_ _ | refine Mod.drew ?_)) HBO.out; have kr := heap_keep2 BR.out hm (by repeat (first | exact Mod.refl _ _ | refine Mod.alloc ?_ _ | refine Mod.drew ?_)) HRO.out; have k0 : w4.cell? ⟨b, 0, none⟩ = some (.slice av n capv) := cell_of kb 0 rfl; have kf := frozen_of kb 0; have r0 : w4.cell? ⟨w.heap.size + 1, 0, none⟩ = some (.string ⟨#[]⟩) := cell_of kr 0 rfl; have r1 : w4.cell? ⟨w.heap.size + 1, 1, none⟩ = some (.string ⟨#[]⟩) := cell_of kr 1 rfl; have rf0 := frozen_of kr 0; have rf1 := frozen_of kr 1; have HR := Lib.hid hr; have KR := Lib.hid kr; have HM34 := Lib.hid (Nat.le_trans (show w3.heap.size ≤ _ from (Mod.size (S := NoB) (by repeat (first | exact Mod.refl _ _ | refine Mod.alloc ?_ _ | refine Mod.drew ?_)))) hm.size); have HM := Lib.hid (then2 M3.out hm (by repeat (first | exact Mod.refl _ _ | refine Mod.alloc ?_ _ | refine Mod.drew ?_))); have HC := Lib.hid (c_new (w3 := w3) hc (by repeat (first | exact Mod.refl _ _ | refine Mod.alloc ?_ _ | refine Mod.drew ?_))); clear hr hm hc kb kr)))
    all_goals
      go_wp2_with fail
      go_meet
      exact cut7_of H.out HND.out HM.out (by have := HR.out; rw [ins_flat] at this; exact this) (by rw [HN.out]; simp; omega) HC.out B3.out KR.out
  case rest =>
    obtain ⟨c, cap, u', q1, q2, q3, q4, q5, q6⟩ := hcut
    obtain ⟨r, hr⟩ : ∃ r, r = w.heap.size + 1 := ⟨_, rfl⟩
    rw [← hr] at q4 q5 q6 ⊢
    clear HPL F0 HROW BP BR BB d0 p0 p1 HBO HRO HGO hb3 hbg hne hne1 HM2 C0 HW0
    obtain ⟨m, hm⟩ : ∃ m, m = (x1 ++ it :: x2).length := ⟨_, rfl⟩
    have hm7 : 7 ≤ m ∧ m ≤ 7 := by rw [hm]; have := HN.out; simp at this ⊢; omega
    obtain ⟨hm7a, hm7b⟩ := hm7
    obtain ⟨xl, up, xr, hxs, hxl3, hxr3⟩ : ∃ xl up xr, x1 ++ it :: x2 = xl ++ up :: xr ∧ xl.length = 3 ∧ xr.length = 3 := by
      refine ⟨(x1 ++ it :: x2).take 3, (x1 ++ it :: x2)[3]'(by omega), (x1 ++ it :: x2).drop 4, ?_, by rw [List.length_take]; omega, by rw [List.length_drop]; omega⟩
      rw [List.getElem_cons_drop, List.take_append_drop]
    have hform := ownsRow_form q1.2.2
    rw [← hm] at q1 q2 q3 q5
    obtain ⟨y0, cur, y1, y2, y3, y4, y5⟩ := ownsRow_block q1.2.1
    have hcap : m ≤ cap := by rw [hm]; exact y2
    have hcapm : cap ≤ 9223372036854775807 := by unfold maxLen at y3; omega
    have hc4 : ¬ cap = 4 := by omega
    have hc3 : ¬ cap = 3 := by omega
    have e0 : wc.cell? ⟨b, 0, none⟩ = some (.slice (some ⟨c, 0, none⟩) m cap) := cell_of q1.1 0 rfl
    have ef := frozen_of q1.1 0
    have cellAt : ∀ j y, (encIt up)[j]? = some y → wc.cell? ⟨c, 6 + j, none⟩ = some y := by
      intro j y hy
      have := q1.2.1.cells (g := c) rfl (xl.length * 2 + j) y (flat_cell (k := 2) (enc := encIt) (fun _ => rfl) _ xl.length up (by rw [hxs]; simp) j y hy)
      rw [hxl3] at this
      rwa [addr_lit, Nat.zero_add] at this
    have u0 : wc.cell? ⟨c, 6, none⟩ = some (.string up.1) := cellAt 0 _ rfl
    have u1 : wc.cell? ⟨c, 7, none⟩ = some (.string up.2) := cellAt 1 _ rfl
    have hbw : b < wc.heap.size := (Array.getElem?_eq_some_iff.1 q1.1).1
    have hrw : r < wc.heap.size := (Array.getElem?_eq_some_iff.1 q4).1
    have hrb : r ≠ b := fun e => q5 (by simp [nodeL, e])
    have HXS := Lib.hid hxs; have HX3 := Lib.hid hxl3; have HR3 := Lib.hid hxr3; have HMM := Lib.hid hm
    have HQ1 := Lib.hid q1; have HQ2 := Lib.hid q2; have HQ3 := Lib.hid q3; have HQ4 := Lib.hid q4; have HQ5 := Lib.hid q5; have HQ6 := Lib.hid q6; have HF := Lib.hid hform
    clear q1 q2 q3 q4 q5 q6 hxs hxl3 hxr3 y0 y1 y2 y3 y4 y5 cellAt hm hr hform
    go_wp2_with fail
    have hread1 : ∀ W, Mod NoB wc W → Read W (.slice (some ⟨c, 8, none⟩) (m - 4) (cap - 4)) (m - 4) (xr.flatMap encIt) := fun W hm => by
      refine .inr ⟨_, _, rfl, fun j y hy => ?_⟩
      have h0 : ((x1 ++ it :: x2).flatMap encIt)[8 + j]? = some y := by
        rw [HXS.out, show xl ++ up :: xr = (xl ++ [up]) ++ xr by simp, List.flatMap_append, List.getElem?_append_right (by rw [flat_length (k := 2) (fun _ => rfl)]; simp [HX3.out]), flat_length (k := 2) (fun _ => rfl)]
        simp only [List.length_append, HX3.out, List.length_cons, List.length_nil]
        rw [show 8 + j - (3 + (0 + 1)) * 2 = j by omega]
        exact hy
      have := hm.cellS (HQ1.out.2.1.cells (g := c) rfl (8 + j) y h0)
      rw [addr_lit] at this ⊢
      simpa using this
    refine (cloneIt (cs := xr.flatMap encIt) (hread1 _ ((Mod.refl _ _).alloc _)) (by rw [flat_length (k := 2) (fun _ => rfl), HR3.out, show m - 4 = 3 by omega]) (flat_one (fun _ _ hu => oneIt hu)) (by omega)).mono ?_
    rintro e w6 ⟨vr, rfl, hr1, hm1, hn1⟩
    rcases ownsRow_form hr1 with ⟨_, h0⟩ | ⟨gr, capr, rfl⟩
    · omega
    have hUw : wc.heap.size < w6.heap.size := by have := hm1.size; simp at this; omega
    have i0 : w6.cell? ⟨b, 0, none⟩ = some (.slice (some ⟨c, 0, none⟩) m cap) := (((Mod.refl NoB wc).alloc _).trans hm1).cellS e0
    have iu : w6.heap[wc.heap.size]? = some (.cells #[.string up.1, .string up.2] 43 (0, 0)) := heap_keep (heap_alloc_new wc _) (Mod.refl NoB _) hm1 (fun x => x) (fun x => x)
    have hb6 : b < w6.heap.size := by omega
    have hrr6 : r < w6.heap.size := by omega
    have M16 := Lib.hid (((Mod.refl NoB wc).alloc (.cells #[.string up.1, .string up.2] 43)).trans hm1)
    have HR1 := Lib.hid hr1; have HN1 := Lib.hid hn1; have IU := Lib.hid iu
    clear hr1 hm1 hn1 hread1 e0 ef u0 u1 iu
    go_wp2_with fail
    refine (leaf_node (HQ1.out.mod (M16.out.trans ((Mod.refl NoB w6).alloc _)) (fun _ _ x => x))).mono ?_
    rintro e w7 ⟨rfl, hw7⟩
    rw [hw7]
    clear hw7
    go_wp2_with fail
    have hread2 : ∀ W, Mod NoB w6 W → Read W (.slice (some ⟨c, 0, none⟩) 3 cap) 3 (xl.flatMap encIt) := fun W hm => by
      refine .inr ⟨_, _, rfl, fun j y hy => ?_⟩
      have h0 : ((x1 ++ it :: x2).flatMap encIt)[j]? = some y := by
        rw [HXS.out, List.flatMap_append, List.getElem?_append_left (List.getElem?_eq_some_iff.1 hy).1]
        exact hy
      exact (M16.out.trans hm).cellS (HQ1.out.2.1.cells (g := c) rfl j y h0)
    refine (cloneIt (cs := xl.flatMap encIt) (hread2 _ ((Mod.refl _ _).alloc _)) (by rw [flat_length (k := 2) (fun _ => rfl), HX3.out]) (flat_one (fun _ _ hu => oneIt hu)) (by omega)).mono ?_
    rintro e w8 ⟨vl, rfl, hr2, hm2, hn2⟩
    rcases ownsRow_form hr2 with ⟨_, h0⟩ | ⟨gl, capl, rfl⟩
    · omega
    have M68 := Lib.hid (((Mod.refl NoB w6).alloc (.cells #[.slice (some ⟨gr, 0, none⟩) (m - 4) capr, .slice none 0 0] 126)).trans hm2)
    have kb := heap_keep HQ1.out.1 M16.out M68.out (fun x => x) (fun x => x)
    have kr := heap_keep HQ4.out M16.out M68.out (fun x => x) (fun x => x)
    have ku := heap_keep IU.out (Mod.refl NoB _) M68.out (fun x => x) (fun x => x)
    have kn := heap_keep (heap_alloc_new w6 (.cells #[.slice (some ⟨gr, 0, none⟩) (m - 4) capr, .slice none 0 0] 126)) (Mod.refl NoB _) hm2 (fun x => x) (fun x => x)
    have j0 : w8.cell? ⟨b, 0, none⟩ = some (.slice (some ⟨c, 0, none⟩) m cap) := cell_of kb 0 rfl
    have jf := frozen_of kb 0
    have ju0 : w8.cell? ⟨wc.heap.size, 0, none⟩ = some (.string up.1) := cell_of ku 0 rfl
    have ju1 : w8.cell? ⟨wc.heap.size, 1, none⟩ = some (.string up.2) := cell_of ku 1 rfl
    have jr0 : w8.cell? ⟨r, 0, none⟩ = some (.string ⟨#[]⟩) := cell_of kr 0 rfl
    have jr1 : w8.cell? ⟨r, 1, none⟩ = some (.string ⟨#[]⟩) := cell_of kr 1 rfl
    have jrf0 := frozen_of kr 0
    have jrf1 := frozen_of kr 1
    have hbU : b ≠ wc.heap.size := by omega
    have hrU : r ≠ wc.heap.size := by omega
    have KB := Lib.hid kb; have KR := Lib.hid kr; have KN := Lib.hid kn
    have HR2 := Lib.hid hr2; have HM2 := Lib.hid hm2; have HN2 := Lib.hid hn2
    clear hr2 hm2 hn2 kb kr ku kn hread2 i0
    go_wp2_with fail
    have hq : Mod (· = r) (w8.setCell ⟨b, 0, none⟩ (.slice (some ⟨gl, 0, none⟩) 3 capl)) _ := Mod.setCell (S := (· = r)) (Mod.setCell (S := (· = r)) (Mod.refl _ _) (p := ⟨r, 0, none⟩) (by intro _; rfl) (.string up.1)) (p := ⟨r, 1, none⟩) (by intro _; rfl) (.string up.2)
    have h6 := HM2.out.size
    simp at h6
    have hgl : w6.heap.size + 1 ≤ gl := by have := HN2.out gl (by simp [ownL, Value.ownBlock]); simpa using this
    have hgr : wc.heap.size + 1 ≤ gr := by have := HN1.out gr (by simp [ownL, Value.ownBlock]); simpa using this
    have hgr6 : gr < w6.heap.size := own_lt HR1.out gr (by simp [ownL, Value.ownBlock])
    have hul : ∀ k ∈ ownL u', k < wc.heap.size := fun k hk => HQ1.out.lts k (by simp [nodeL, hk])
    obtain ⟨q1, q2, q3⟩ := node_items (xs' := xl) HQ1.out HQ2.out ((M16.out.trans M68.out).mono (fun _ _ x => x.elim)) (v' := .slice (some ⟨gl, 0, none⟩) 3 capl) (by rw [HX3.out]; exact HR2.out) (fun k hk => .inr (by simp [ownL, Value.ownBlock] at hk; omega))
    have hN2 : NodeAt w8 w6.heap.size (.slice (some ⟨gr, 0, none⟩) (m - 4) capr) xr (.slice none 0 0) [] :=
      ⟨KN.out, by have := own_mod' HR1.out M68.out (fun _ _ x => x); rw [show m - 4 = xr.length by rw [HR3.out]; omega] at this ⊢; exact this, World.ownsRow_nil _ _ _ _⟩
    have hbb : Mod (· = b) w8 (w8.setCell ⟨b, 0, none⟩ (.slice (some ⟨gl, 0, none⟩) 3 capl)) := Mod.setCell (S := (· = b)) (Mod.refl _ _) (by intro _; rfl) _
    have hn2l : ∀ k ∈ nodeL w6.heap.size (.slice (some ⟨gr, 0, none⟩) (m - 4) capr) (.slice none 0 0), wc.heap.size + 1 ≤ k ∧ k ≤ w6.heap.size := fun k hk => by
      simp [nodeL, ownL, Value.ownBlock] at hk
      omega
    have hn1l : ∀ k ∈ nodeL b (.slice (some ⟨gl, 0, none⟩) 3 capl) u', k < wc.heap.size ∨ w6.heap.size + 1 ≤ k := fun k hk => by
      simp only [nodeL, List.mem_cons, List.mem_append] at hk
      rcases hk with h | h | h
      · left; omega
      · right; simp [ownL, Value.ownBlock] at h; omega
      · left; exact hul k h
    have hrn : ¬ r ∈ nodeL b (.slice (some ⟨gl, 0, none⟩) 3 capl) u' := fun hk => by
      simp only [nodeL, List.mem_cons, List.mem_append] at hk
      rcases hk with h | h | h
      · exact hrb h
      · simp [ownL, Value.ownBlock] at h; omega
      · exact HQ5.out (by simp [nodeL, h])
    refine bodyPost_ret (v := .tuple #[.agg #[.string up.1, .string up.2], .pointer (some ⟨w6.heap.size, 0, none⟩)]) (by simp [results, Tryz.results90, go_sem, *]) rfl ⟨up, xl, xr, w6.heap.size, .slice (some ⟨gl, 0, none⟩) 3 capl, .slice (some ⟨gr, 0, none⟩) (m - 4) capr, u', .slice none 0 0, [], [], rfl, HXS.out, HX3.out, HR3.out, rfl, .inl rfl, q1.mod hq (fun k hk e => hrn (e ▸ hk)), (hN2.mod hbb (fun k hk e => ?_)).mod hq (fun k hk e => ?_), ?_, ?_⟩
    · have := hn2l k hk; omega
    · have := hn2l k hk; omega
    · refine List.nodup_append.2 ⟨q2, ?_, fun x hx y hy e => ?_⟩
      · simp [nodeL, ownL, Value.ownBlock]; omega
      · have h1 := hn1l x hx
        have h2 := hn2l y hy
        omega
    · have h9 := beside (HQ3.out.trans q3) hq HQ6.out
      refine ⟨h9.1, fun k hk => ?_⟩
      rcases List.mem_append.1 hk with hk | hk
      · exact h9.2 k hk
      · right
        have h1 := hn2l k hk
        have h2 := HQ3.out.1.size
        omega
end Go.Proofs.YtmagddchjidamaaGreatDoor
