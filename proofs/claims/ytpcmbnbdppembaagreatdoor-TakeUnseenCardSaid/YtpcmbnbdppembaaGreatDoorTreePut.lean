/- Put together out of: TreePut, TreePut2, TreePut3, TreePut4, TreePut5, TreePut6. -/
import Derived.Test.YtpcmbnbdppembaaGreatDoorTreeFind
import Derived.Deep.DeepCutAuto
/- (*shelf.node).put: an item that is not there, into a leaf. -/
namespace Go.Proofs.YtpcmbnbdppembaaGreatDoor
set_option linter.unusedSimpArgs false
set_option linter.unusedVariables false
open Go.RowKit Go.Shelf
attribute [local go_sem ↓] Go.wp_at_zero Go.wp_at_succ

/-- what put gives -/
def PutPost (w : World) (b d : Nat) (t : Tree) (L : List Nat) (it : Itm) (e : Ending) (w' : World) : Prop :=
  (∃ t' L', e = .returned (.tuple #[.agg #[.string ⟨#[]⟩, .string ⟨#[]⟩], .pointer none]) ∧ TreeP w' b t' L' ∧ L'.Nodup ∧ Turn L w w' L' ∧ t'.its = insS it t.its ∧ okT d t' ∧ t.xs.length ≤ t'.xs.length) ∨
  (∃ up c t1 t2 L1 L2, e = .returned (.tuple #[.agg #[.string up.1, .string up.2], .pointer (some ⟨c, 0, none⟩)]) ∧ TreeP w' b t1 L1 ∧ TreeP w' c t2 L2 ∧ (L1 ++ L2).Nodup ∧ Turn L w w' (L1 ++ L2) ∧
    t1.its ++ up :: t2.its = insS it t.its ∧ okT d t1 ∧ okT d t2 ∧ 3 ≤ t1.xs.length ∧ 3 ≤ t2.xs.length)

theorem ins_flat (x1 x2 : List Itm) (it : Itm) : ((x1 ++ x2).flatMap encIt).take (x1.length * 2) ++ (encIt it ++ ((x1 ++ x2).flatMap encIt).drop (x1.length * 2)) = (x1 ++ it :: x2).flatMap encIt := by
  rw [flat_take (k := 2) (fun _ => rfl), flat_drop (k := 2) (fun _ => rfl)]
  simp

theorem ownL_nodup (v : Value) : (ownL v).Nodup := by
  unfold ownL
  cases v.ownBlock <;> simp

/-- a node whose items have turned -/
theorem node_items {w w1 : World} {b : Nat} {v v' u : Value} {xs xs' : List Itm} {bs : List Nat} (h : NodeAt w b v xs u bs) (hnd : (nodeL b v u).Nodup) (hm : Mod (· ∈ ownL v) w w1) (hr : RowIt w1 v' xs'.length (xs'.flatMap encIt))
    (hnew : ∀ k ∈ ownL v', k ∈ ownL v ∨ w.heap.size ≤ k) :
    NodeAt (w1.setCell ⟨b, 0, none⟩ v') b v' xs' u bs ∧ (nodeL b v' u).Nodup ∧ Turn (nodeL b v u) w (w1.setCell ⟨b, 0, none⟩ v') (nodeL b v' u) := by
  have hlt := h.lts
  obtain ⟨h1, h2, h3⟩ := h
  have hself : Mod (· = b) w1 (w1.setCell ⟨b, 0, none⟩ v') := Mod.setCell (S := (· = b)) (Mod.refl _ _) (by intro _; rfl) _
  have hn := hnd
  simp only [nodeL, List.nodup_cons, List.mem_append, not_or, List.nodup_append] at hn
  obtain ⟨⟨q1, q2⟩, _, q3, q4⟩ := hn
  have hbv : b ∉ ownL v' := fun e => by
    rcases hnew b e with h | h
    · exact q1 h
    · have := hlt b (by simp [nodeL]); omega
  refine ⟨⟨?_, own_mod' hr hself (fun k hk e => hbv (e ▸ hk)), own_mod' (own_mod' h3 hm (fun k hk e => q4 k e k hk rfl)) hself (fun k hk e => q2 (e ▸ hk))⟩, ?_, ?_, ?_⟩
  · have hb1 : w1.heap[b]? = some (.cells #[v, u] 190 (0, 0)) := by rw [hm.block b (Array.getElem?_eq_some_iff.1 h1).1 q1]; exact h1
    have := heap_set hb1 0 v'
    simpa using this
  · simp only [nodeL, List.nodup_cons, List.mem_append, not_or, List.nodup_append]
    refine ⟨⟨hbv, q2⟩, ownL_nodup _, q3, fun a ha c hc e => ?_⟩
    subst e
    rcases hnew a ha with h | h
    · exact q4 a h a hc rfl
    · have := hlt a (by simp [nodeL, hc]); omega
  · exact (hm.mono (fun k _ hk => by simp [nodeL, hk])).then hself (fun k _ e => by simp [nodeL, e])
  · intro k hk
    simp only [nodeL, List.mem_cons, List.mem_append] at hk ⊢
    rcases hk with h | h | h
    · exact .inl (.inl h)
    · exact (hnew k h).imp (fun x => .inr (.inl x)) id
    · exact .inl (.inr (.inr h))

/-- a block beside the node's own is turned -/
theorem beside {D D' : List Nat} {w W W' : World} {q : Nat} (hT : Turn D w W D') (hm : Mod (· = q) W W') (hq : w.heap.size ≤ q) : Turn D w W' D' :=
  ⟨hT.1.then hm (fun k hk e => by omega), hT.2⟩

theorem two_new {w w3 : World} {p r : Array Value} {e1 e2 : TypeId} (h : Mod NoB ((w.alloc (.cells p e1)).alloc (.cells r e2)) w3) :
    w3.heap[w.heap.size]? = some (.cells p e1 (0, 0)) ∧ w3.heap[w.heap.size + 1]? = some (.cells r e2 (0, 0)) ∧ w.heap.size + 2 ≤ w3.heap.size ∧ Mod NoB w w3 := by
  have h1 : ((w.alloc (.cells p e1)).alloc (.cells r e2)).heap[w.heap.size]? = some (.cells p e1 (0, 0)) := by rw [Below.heap_alloc _ _ _ (by simp)]; exact heap_alloc_new w _
  have h2 : ((w.alloc (.cells p e1)).alloc (.cells r e2)).heap[w.heap.size + 1]? = some (.cells r e2 (0, 0)) := heap_two2 _ _ _
  have hs := h.size
  simp at hs
  refine ⟨?_, ?_, hs, Mod.trans (((Mod.refl _ _).alloc _).alloc _) h⟩
  · rw [h.block _ (by simp; omega) (fun x => x)]; exact h1
  · rw [h.block _ (by simp) (fun x => x)]; exact h2

theorem heap_keep {w W w4 : World} {q : Nat} {o : Obj} {S T : Nat → Prop} (h : w.heap[q]? = some o) (hM : Mod T w W) (hm : Mod S W w4) (hq : ¬ T q) (hs : ¬ S q) : w4.heap[q]? = some o := by
  have hl := (Array.getElem?_eq_some_iff.1 h).1
  rw [hm.block q (Nat.lt_of_lt_of_le hl hM.size) hs, hM.block q hl hq]
  exact h

theorem heap_keep2 {w W w4 : World} {q : Nat} {o : Obj} {S : Nat → Prop} (h : w.heap[q]? = some o) (hm : Mod S W w4) (hM : Mod NoB w W) (hs : ¬ S q) : w4.heap[q]? = some o :=
  heap_keep h hM hm (fun x => x) hs
theorem then2 {w w3 W w4 : World} {S : Nat → Prop} (h : Mod NoB w w3) (hm : Mod S W w4) (hM : Mod NoB w3 W) : Mod S w w4 :=
  ((h.trans hM).mono (fun _ _ x => x.elim)).then hm (fun _ _ x => x)
theorem c_new {w3 W : World} {c : Nat} {P : Prop} (h : P ∨ W.heap.size ≤ c) (hM : Mod NoB w3 W) : P ∨ w3.heap.size ≤ c :=
  h.imp id (fun h => Nat.le_trans hM.size h)

set_option maxRecDepth 100000 in
set_option maxHeartbeats 16000000 in
theorem nput_leaf {w : World} {b : Nat} {v u : Value} {x1 x2 : List Itm} (it : Itm) (h : NodeAt w b v (x1 ++ x2) u []) (hnd : (nodeL b v u).Nodup) (hpl : plc it.1 (x1 ++ x2) = (x1.length, false)) (hw : (x1 ++ x2).length + 1 ≤ 6)
    (hk : it.1.size ≤ 1000000) (hs : ∀ x ∈ x1 ++ x2, x.1.size ≤ 1000000) :
    Calls Tryz.prog 190 #[.pointer (some ⟨b, 0, none⟩), .agg #[.string it.1, .string it.2]] w fun e w' => e = .returned (.tuple #[.agg #[.string ⟨#[]⟩, .string ⟨#[]⟩], .pointer none]) ∧
      ∃ v', NodeAt w' b v' (x1 ++ it :: x2) u [] ∧ (nodeL b v' u).Nodup ∧ Turn (nodeL b v u) w w' (nodeL b v' u) := by
  have hlt := h.lts
  have hb : b < w.heap.size := hlt b (by simp [nodeL])
  have hplace := fun W (hm : Mod NoB w W) => place_any (h.mod hm (fun _ _ x => x)) it.1 (by omega) hk hs
  have hleaf := fun W (hm : Mod NoB w W) => leaf_node (h.mod hm (fun _ _ x => x))
  rw [hpl] at hplace
  dsimp only at hplace
  have hform := ownsRow_form h.2.1
  have hvs : ∃ a cap, v = .slice a (x1 ++ x2).length cap := by
    rcases hform with ⟨e, e0⟩ | ⟨g, cap, e⟩
    · exact ⟨none, 0, by rw [e, e0]⟩
    · exact ⟨_, cap, e⟩
  obtain ⟨av, capv, rfl⟩ := hvs
  have c0 : w.cell? ⟨b, 0, none⟩ = some (.slice av (x1 ++ x2).length capv) := cell_of h.1 0 rfl
  have f0 := frozen_of h.1 0
  have HW0 := Lib.hid (fun W (hm : Mod NoB w W) => h.mod hm (fun _ _ x => x))
  have H := Lib.hid h; have HND := Lib.hid hnd; have HPL := Lib.hid hplace; have HLF := Lib.hid hleaf; have HLT := Lib.hid hlt; have C0 := Lib.hid c0; have F0 := Lib.hid f0
  have hxl : x1.length ≤ (x1 ++ x2).length := by simp
  obtain ⟨n, hn⟩ : ∃ n, n = (x1 ++ x2).length := ⟨_, rfl⟩
  rw [← hn] at hw hxl C0 H HND HW0 HLT ⊢
  have hne : b ≠ w.heap.size := by omega
  have hne1 : b ≠ w.heap.size + 1 := by omega
  have HN := Lib.hid hn
  clear h hnd hplace hleaf hlt hform c0 f0 hs hpl hn
  go_enter Tryz.func190, Tryz.ntmps190
  go_wp2_with (first
    | (go_at_call 194; refine (HPL.out _ (by repeat (first | exact Mod.refl _ _ | refine Mod.alloc ?_ _ | refine Mod.drew ?_))).mono ?_; rintro e w2 ⟨rfl, hm2⟩; have HM2 := Lib.hid hm2; clear hm2)
    | (go_at_call 148; refine (HLF.out _ (Mod.trans (by repeat (first | exact Mod.refl _ _ | refine Mod.alloc ?_ _ | refine Mod.drew ?_)) HM2.out)).mono ?_; rintro e w3 ⟨rfl, rfl⟩))
  obtain ⟨b1, b2, b3, b4⟩ := two_new HM2.out
  have BP := Lib.hid b1; have BR := Lib.hid b2; have M3 := Lib.hid b4
  have BB : Hid (w3.heap[b]? = some (.cells #[.slice av n capv, u] 190 (0, 0))) := Lib.hid (HW0.out _ b4).1
  have HROW : Hid (∀ W, Mod NoB w W → RowIt W (.slice av n capv) n ((x1 ++ x2).flatMap encIt)) := Lib.hid (fun W hm => by have := (HW0.out W hm).2.1; rw [← HN.out] at this; exact this)
  have d0 : w3.cell? ⟨b, 0, none⟩ = some (.slice av n capv) := cell_of BB.out 0 rfl
  have p0 : w3.cell? ⟨w.heap.size, 0, none⟩ = some (.string it.1) := cell_of b1 0 rfl
  have p1 : w3.cell? ⟨w.heap.size, 1, none⟩ = some (.string it.2) := cell_of b1 1 rfl
  have hbo : b ∉ ownL (.slice av n capv) := fun e => by
    have := HND.out
    simp only [nodeL, List.nodup_cons, List.mem_append, not_or] at this
    exact this.1.1 e
  have hro : w.heap.size + 1 ∉ ownL (.slice av n capv) := fun e => by
    have := HLT.out (w.heap.size + 1) (by simp [nodeL, e])
    omega
  have hgo : w3.heap.size ∉ ownL (.slice av n capv) := fun e => by
    have := HLT.out w3.heap.size (by simp [nodeL, e])
    omega
  have HBO := Lib.hid hbo; have HRO := Lib.hid hro; have HGO := Lib.hid hgo; have B3 := Lib.hid b3
  have hb3 : b < w3.heap.size := by omega
  have hbg : b ≠ w3.heap.size := by omega
  clear b1 b2 b3 b4 hbo hro hgo
  go_region_law ((go_simp; go_at_call 209; go_loud (refine (insIt (v := .slice av n capv) (n := n) (i := x1.length) (g := w3.heap.size) (news := encIt it) (HROW.out _ (M3.out.trans (by repeat (first | exact Mod.refl _ _ | refine Mod.alloc ?_ _ | refine Mod.drew ?_)))) (flat_one (fun _ _ hu => oneIt hu)) hxl (by omega) (by exact heap_alloc_new _ _) rfl (fun _ hu => oneIt hu) HGO.out).mono ?_; rintro e w4 ⟨c, cap, rfl, hr, hm, hc⟩; have kb := heap_keep2 BB.out hm (by repeat (first | exact Mod.refl _ _ | refine Mod.alloc ?_ _ | refine Mod.drew ?_)) HBO.out; have kr := heap_keep2 BR.out hm (by repeat (first | exact Mod.refl _ _ | refine Mod.alloc ?_ _ | refine Mod.drew ?_)) HRO.out; have k0 : w4.cell? ⟨b, 0, none⟩ = some (.slice av n capv) := cell_of kb 0 rfl; have kf := frozen_of kb 0; have r0 : w4.cell? ⟨w.heap.size + 1, 0, none⟩ = some (.string ⟨#[]⟩) := cell_of kr 0 rfl; have r1 : w4.cell? ⟨w.heap.size + 1, 1, none⟩ = some (.string ⟨#[]⟩) := cell_of kr 1 rfl; have rf0 := frozen_of kr 0; have rf1 := frozen_of kr 1; have HR := Lib.hid hr; have HM := Lib.hid (then2 M3.out hm (by repeat (first | exact Mod.refl _ _ | refine Mod.alloc ?_ _ | refine Mod.drew ?_))); have HC := Lib.hid (c_new (w3 := w3) hc (by repeat (first | exact Mod.refl _ _ | refine Mod.alloc ?_ _ | refine Mod.drew ?_))); clear hr hm hc kb kr)))
  all_goals
    go_wp2_with fail
    refine bodyPost_ret (v := .tuple #[.agg #[.string ⟨#[]⟩, .string ⟨#[]⟩], .pointer none]) (by simp [results, Tryz.results190, go_sem, *]) rfl ⟨rfl, .slice (some ⟨c, 0, none⟩) (n + 1) cap, ?_⟩
    have hcl : ∀ k ∈ ownL (.slice (some ⟨c, 0, none⟩) (n + 1) cap), k ∈ ownL (.slice av n capv) ∨ w3.heap.size ≤ k := fun k hk => by
      simp [ownL, Value.ownBlock] at hk
      rw [hk]
      exact HC.out
    obtain ⟨q1, q2, q3⟩ := node_items (xs' := x1 ++ it :: x2) H.out HND.out HM.out (v' := .slice (some ⟨c, 0, none⟩) (n + 1) cap) (by have := HR.out; rw [ins_flat] at this; have e : (x1 ++ it :: x2).length = n + 1 := (by rw [HN.out]; simp; omega); rw [e]; exact this) (fun k hk => (hcl k hk).imp id (fun h => by have := B3.out; omega))
    have hq : Mod (· = w.heap.size + 1) (w4.setCell ⟨b, 0, none⟩ (.slice (some ⟨c, 0, none⟩) (n + 1) cap)) _ := Mod.setCell (S := (· = w.heap.size + 1)) (Mod.setCell (S := (· = w.heap.size + 1)) (Mod.refl _ _) (p := ⟨w.heap.size + 1, 0, none⟩) (by intro _; rfl) (.string ⟨#[]⟩)) (p := ⟨w.heap.size + 1, 1, none⟩) (by intro _; rfl) (.string ⟨#[]⟩)
    refine ⟨q1.mod hq (fun k hk e => ?_), q2, beside q3 hq (Nat.le_succ _)⟩
    subst e
    simp only [nodeL, List.mem_cons, List.mem_append] at hk
    rcases hk with h | h | h
    · omega
    · rcases hcl _ h with h | h
      · exact HRO.out h
      · have := B3.out; omega
    · have := HLT.out _ (show w.heap.size + 1 ∈ nodeL b (.slice av n capv) u by simp [nodeL, h]); omega
end Go.Proofs.YtpcmbnbdppembaaGreatDoor

/- (*shelf.node).put: an item that is not there, into a leaf that is full. -/
namespace Go.Proofs.YtpcmbnbdppembaaGreatDoor
set_option linter.unusedSimpArgs false
set_option linter.unusedVariables false
open Go.RowKit Go.Shelf
attribute [local go_sem ↓] Go.wp_at_zero Go.wp_at_succ

/-- what stands behind the insertion -/
def Cut7 (w : World) (b : Nat) (v u : Value) (xs : List Itm) (bs : List Nat) (r : Nat) (W : World) : Prop :=
  ∃ c cap u', NodeAt W b (.slice (some ⟨c, 0, none⟩) xs.length cap) xs u' bs ∧ (nodeL b (.slice (some ⟨c, 0, none⟩) xs.length cap) u').Nodup ∧ Turn (nodeL b v u) w W (nodeL b (.slice (some ⟨c, 0, none⟩) xs.length cap) u') ∧
    W.heap[r]? = some (.cells #[.string ⟨#[]⟩, .string ⟨#[]⟩] 73 (0, 0)) ∧ r ∉ nodeL b (.slice (some ⟨c, 0, none⟩) xs.length cap) u' ∧ w.heap.size ≤ r

theorem cut7_of {w w3 w4 : World} {b c cap n : Nat} {v u : Value} {xs xs' : List Itm} {bs : List Nat} (H : NodeAt w b v xs u bs) (HND : (nodeL b v u).Nodup) (HM : Mod (· ∈ ownL v) w w4) (hr : RowIt w4 (.slice (some ⟨c, 0, none⟩) n cap) n (xs'.flatMap encIt)) (hn : xs'.length = n)
    (hc : c ∈ ownL v ∨ w3.heap.size ≤ c) (hB3 : w.heap.size + 2 ≤ w3.heap.size) (hk : w4.heap[w.heap.size + 1]? = some (.cells #[.string ⟨#[]⟩, .string ⟨#[]⟩] 73 (0, 0))) :
    Cut7 w b v u xs' bs (w.heap.size + 1) (w4.setCell ⟨b, 0, none⟩ (.slice (some ⟨c, 0, none⟩) n cap)) := by
  subst hn
  have hcl : ∀ k ∈ ownL (.slice (some ⟨c, 0, none⟩) xs'.length cap), k ∈ ownL v ∨ w3.heap.size ≤ k := fun k hk => by
    simp [ownL, Value.ownBlock] at hk
    rw [hk]
    exact hc
  have hlt := H.lts
  obtain ⟨q1, q2, q3⟩ := node_items H HND HM hr (fun k hk => (hcl k hk).imp id (fun h => by omega))
  refine ⟨c, cap, u, q1, q2, q3, ?_, ?_, Nat.le_succ _⟩
  · rw [heap_set_other (by have := hlt b (by simp [nodeL]); omega)]
    exact hk
  · intro e
    simp only [nodeL, List.mem_cons, List.mem_append] at e
    rcases e with h | h | h
    · have := hlt b (by simp [nodeL]); omega
    · rcases hcl _ h with h | h
      · have := hlt (w.heap.size + 1) (by simp [nodeL, h]); omega
      · omega
    · have := hlt (w.heap.size + 1) (by simp [nodeL, h]); omega

/-- what put gives where the node is too wide then -/
def SplitPost (w : World) (b : Nat) (v u : Value) (it : Itm) (xs : List Itm) (bs : List Nat) (e : Ending) (w' : World) : Prop :=
  ∃ up xl xr c v1 v2 u1 u2 bl br, e = .returned (.tuple #[.agg #[.string up.1, .string up.2], .pointer (some ⟨c, 0, none⟩)]) ∧ xs = xl ++ up :: xr ∧ xl.length = 3 ∧ xr.length = 3 ∧ bs = bl ++ br ∧ (bs = [] ∨ bl.length = 4) ∧
    NodeAt w' b v1 xl u1 bl ∧ NodeAt w' c v2 xr u2 br ∧ (nodeL b v1 u1 ++ nodeL c v2 u2).Nodup ∧ Turn (nodeL b v u) w w' (nodeL b v1 u1 ++ nodeL c v2 u2)

set_option maxRecDepth 100000 in
set_option maxHeartbeats 16000000 in
theorem nput_leaf7 {w : World} {b : Nat} {v u : Value} {x1 x2 : List Itm} (it : Itm) (h : NodeAt w b v (x1 ++ x2) u []) (hnd : (nodeL b v u).Nodup) (hpl : plc it.1 (x1 ++ x2) = (x1.length, false)) (hw : (x1 ++ x2).length ≤ 6) (hw6 : 6 ≤ (x1 ++ x2).length)
    (hk : it.1.size ≤ 1000000) (hs : ∀ x ∈ x1 ++ x2, x.1.size ≤ 1000000) :
    Calls Tryz.prog 190 #[.pointer (some ⟨b, 0, none⟩), .agg #[.string it.1, .string it.2]] w (SplitPost w b v u it (x1 ++ it :: x2) []) := by
  have hlt := h.lts
  have hb : b < w.heap.size := hlt b (by simp [nodeL])
  have hplace := fun W (hm : Mod NoB w W) => place_any (h.mod hm (fun _ _ x => x)) it.1 (by omega) hk hs
  have hleaf := fun W (hm : Mod NoB w W) => leaf_node (h.mod hm (fun _ _ x => x))
  rw [hpl] at hplace
  dsimp only at hplace
  have hform := ownsRow_form h.2.1
  have hvs : ∃ a cap, v = .slice a (x1 ++ x2).length cap := by
    rcases hform with ⟨e, e0⟩ | ⟨g, cap, e⟩
    · exact ⟨none, 0, by rw [e, e0]⟩
    · exact ⟨_, cap, e⟩
  obtain ⟨av, capv, rfl⟩ := hvs
  have c0 : w.cell? ⟨b, 0, none⟩ = some (.slice av (x1 ++ x2).length capv) := cell_of h.1 0 rfl
  have f0 := frozen_of h.1 0
  have HW0 := Lib.hid (fun W (hm : Mod NoB w W) => h.mod hm (fun _ _ x => x))
  have H := Lib.hid h; have HND := Lib.hid hnd; have HPL := Lib.hid hplace; have HLF := Lib.hid hleaf; have HLT := Lib.hid hlt; have C0 := Lib.hid c0; have F0 := Lib.hid f0
  have hxl : x1.length ≤ (x1 ++ x2).length := by simp
  obtain ⟨n, hn⟩ : ∃ n, n = (x1 ++ x2).length := ⟨_, rfl⟩
  rw [← hn] at hw hw6 hxl C0 H HND HW0 HLT ⊢
  have hne : b ≠ w.heap.size := by omega
  have hne1 : b ≠ w.heap.size + 1 := by omega
  have HN := Lib.hid hn
  clear h hnd hplace hleaf hlt hform c0 f0 hs hpl hn
  go_enter Tryz.func190, Tryz.ntmps190
  go_wp2_with (first
    | (go_at_call 194; refine (HPL.out _ (by repeat (first | exact Mod.refl _ _ | refine Mod.alloc ?_ _ | refine Mod.drew ?_))).mono ?_; rintro e w2 ⟨rfl, hm2⟩; have HM2 := Lib.hid hm2; clear hm2)
    | (go_at_call 148; refine (HLF.out _ (Mod.trans (by repeat (first | exact Mod.refl _ _ | refine Mod.alloc ?_ _ | refine Mod.drew ?_)) HM2.out)).mono ?_; rintro e w3 ⟨rfl, rfl⟩))
  obtain ⟨b1, b2, b3, b4⟩ := two_new HM2.out
  have BP := Lib.hid b1; have BR := Lib.hid b2; have M3 := Lib.hid b4
  have BB : Hid (w3.heap[b]? = some (.cells #[.slice av n capv, u] 190 (0, 0))) := Lib.hid (HW0.out _ b4).1
  have HROW : Hid (∀ W, Mod NoB w W → RowIt W (.slice av n capv) n ((x1 ++ x2).flatMap encIt)) := Lib.hid (fun W hm => by have := (HW0.out W hm).2.1; rw [← HN.out] at this; exact this)
  have d0 : w3.cell? ⟨b, 0, none⟩ = some (.slice av n capv) := cell_of BB.out 0 rfl
  have p0 : w3.cell? ⟨w.heap.size, 0, none⟩ = some (.string it.1) := cell_of b1 0 rfl
  have p1 : w3.cell? ⟨w.heap.size, 1, none⟩ = some (.string it.2) := cell_of b1 1 rfl
  have hbo : b ∉ ownL (.slice av n capv) := fun e => by
    have := HND.out
    simp only [nodeL, List.nodup_cons, List.mem_append, not_or] at this
    exact this.1.1 e
  have hro : w.heap.size + 1 ∉ ownL (.slice av n capv) := fun e => by
    have := HLT.out (w.heap.size + 1) (by simp [nodeL, e])
    omega
  have hgo : w3.heap.size ∉ ownL (.slice av n capv) := fun e => by
    have := HLT.out w3.heap.size (by simp [nodeL, e])
    omega
  have HBO := Lib.hid hbo; have HRO := Lib.hid hro; have HGO := Lib.hid hgo; have B3 := Lib.hid b3
  have hb3 : b < w3.heap.size := by omega
  have hbg : b ≠ w3.heap.size := by omega
  clear b1 b2 b3 b4 hbo hro hgo
  go_cut [] (fun wx => Cut7 w b (.slice av n capv) u (x1 ++ it :: x2) [] (w.heap.size + 1) wx)
  case first =>
    go_region_law ((go_simp; go_at_call 209; go_loud (refine (insIt (v := .slice av n capv) (n := n) (i := x1.length) (g := w3.heap.size) (news := encIt it) (HROW.out _ (M3.out.trans (by repeat (first | exact Mod.refl _ _ | refine Mod.alloc ?_ _ | refine Mod.drew ?_)))) (flat_one (fun _ _ hu => oneIt hu)) hxl (by omega) (by exact heap_alloc_new _ _) rfl (fun _ hu => oneIt hu) HGO.out).mono ?_; rintro e w4 ⟨c, cap, rfl, hr, hm, hc⟩; have kb := heap_keep2 BB.out hm (by repeat (first | exact Mod.refl _ _ | refine Mod.alloc ?_ _ | refine Mod.drew ?_)) HBO.out; have kr := heap_keep2 BR.out hm (by repeat (first | exact Mod.refl _ _ | refine Mod.alloc ?_ _ | refine Mod.drew ?_)) HRO.out; have k0 : w4.cell? ⟨b, 0, none⟩ = some (.slice av n capv) := cell_of kb 0 rfl; have kf := frozen_of kb 0; have r0 : w4.cell? ⟨w.heap.size + 1, 0, none⟩ = some (.string ⟨#[]⟩) := cell_of kr 0 rfl; have r1 : w4.cell? ⟨w.heap.size + 1, 1, none⟩ = some (.string ⟨#[]⟩) := cell_of kr 1 rfl; have rf0 := frozen_of kr 0; have rf1 := frozen_of kr 1; have HR := Lib.hid hr; have KR := Lib.hid kr; have HM34 := Lib.hid (Nat.le_trans (show w3.heap.size ≤ _ from (Mod.size (S := NoB) (by repeat (first | exact Mod.refl _ _ | refine Mod.alloc ?_ _ | refine Mod.drew ?_)))) hm.size); have HM := Lib.hid (then2 M3.out hm (by repeat (first | exact Mod.refl _ _ | refine Mod.alloc ?_ _ | refine Mod.drew ?_))); have HC := Lib.hid (c_new (w3 := w3) hc (by repeat (first | exact Mod.refl _ _ | refine Mod.alloc ?_ _ | refine Mod.drew ?_))); clear hr hm hc kb kr)))
    all_goals
      go_wp2_with fail
      go_meet
      exact cut7_of H.out HND.out HM.out (by have := HR.out; rw [ins_flat] at this; exact this) (by rw [HN.out]; simp; omega) HC.out B3.out KR.out
  case rest =>
    obtain ⟨c, cap, u', q1, q2, q3, q4, q5, q6⟩ := hcut
    obtain ⟨r, hr⟩ : ∃ r, r = w.heap.size + 1 := ⟨_, rfl⟩
    rw [← hr] at q4 q5 q6 ⊢
    clear HPL F0 HROW BP BR BB d0 p0 p1 HBO HRO HGO hb3 hbg hne hne1 HM2 C0 HW0
    obtain ⟨m, hm⟩ : ∃ m, m = (x1 ++ it :: x2).length := ⟨_, rfl⟩
    have hm7 : 7 ≤ m ∧ m ≤ 7 := by rw [hm]; have := HN.out; simp at this ⊢; omega
    obtain ⟨hm7a, hm7b⟩ := hm7
    obtain ⟨xl, up, xr, hxs, hxl3, hxr3⟩ : ∃ xl up xr, x1 ++ it :: x2 = xl ++ up :: xr ∧ xl.length = 3 ∧ xr.length = 3 := by
      refine ⟨(x1 ++ it :: x2).take 3, (x1 ++ it :: x2)[3]'(by omega), (x1 ++ it :: x2).drop 4, ?_, by rw [List.length_take]; omega, by rw [List.length_drop]; omega⟩
      rw [List.getElem_cons_drop, List.take_append_drop]
    have hform := ownsRow_form q1.2.2
    rw [← hm] at q1 q2 q3 q5
    obtain ⟨y0, cur, y1, y2, y3, y4, y5⟩ := ownsRow_block q1.2.1
    have hcap : m ≤ cap := by rw [hm]; exact y2
    have hcapm : cap ≤ 9223372036854775807 := by unfold maxLen at y3; omega
    have hc4 : ¬ cap = 4 := by omega
    have hc3 : ¬ cap = 3 := by omega
    have e0 : wc.cell? ⟨b, 0, none⟩ = some (.slice (some ⟨c, 0, none⟩) m cap) := cell_of q1.1 0 rfl
    have ef := frozen_of q1.1 0
    have cellAt : ∀ j y, (encIt up)[j]? = some y → wc.cell? ⟨c, 6 + j, none⟩ = some y := by
      intro j y hy
      have := q1.2.1.cells (g := c) rfl (xl.length * 2 + j) y (flat_cell (k := 2) (enc := encIt) (fun _ => rfl) _ xl.length up (by rw [hxs]; simp) j y hy)
      rw [hxl3] at this
      rwa [addr_lit, Nat.zero_add] at this
    have u0 : wc.cell? ⟨c, 6, none⟩ = some (.string up.1) := cellAt 0 _ rfl
    have u1 : wc.cell? ⟨c, 7, none⟩ = some (.string up.2) := cellAt 1 _ rfl
    have hbw : b < wc.heap.size := (Array.getElem?_eq_some_iff.1 q1.1).1
    have hrw : r < wc.heap.size := (Array.getElem?_eq_some_iff.1 q4).1
    have hrb : r ≠ b := fun e => q5 (by simp [nodeL, e])
    have HXS := Lib.hid hxs; have HX3 := Lib.hid hxl3; have HR3 := Lib.hid hxr3; have HMM := Lib.hid hm
    have HQ1 := Lib.hid q1; have HQ2 := Lib.hid q2; have HQ3 := Lib.hid q3; have HQ4 := Lib.hid q4; have HQ5 := Lib.hid q5; have HQ6 := Lib.hid q6; have HF := Lib.hid hform
    clear q1 q2 q3 q4 q5 q6 hxs hxl3 hxr3 y0 y1 y2 y3 y4 y5 cellAt hm hr hform
    go_wp2_with fail
    have hread1 : ∀ W, Mod NoB wc W → Read W (.slice (some ⟨c, 8, none⟩) (m - 4) (cap - 4)) (m - 4) (xr.flatMap encIt) := fun W hm => by
      refine .inr ⟨_, _, rfl, fun j y hy => ?_⟩
      have h0 : ((x1 ++ it :: x2).flatMap encIt)[8 + j]? = some y := by
        rw [HXS.out, show xl ++ up :: xr = (xl ++ [up]) ++ xr by simp, List.flatMap_append, List.getElem?_append_right (by rw [flat_length (k := 2) (fun _ => rfl)]; simp [HX3.out]), flat_length (k := 2) (fun _ => rfl)]
        simp only [List.length_append, HX3.out, List.length_cons, List.length_nil]
        rw [show 8 + j - (3 + (0 + 1)) * 2 = j by omega]
        exact hy
      have := hm.cellS (HQ1.out.2.1.cells (g := c) rfl (8 + j) y h0)
      rw [addr_lit] at this ⊢
      simpa using this
    refine (cloneIt (cs := xr.flatMap encIt) (hread1 _ ((Mod.refl _ _).alloc _)) (by rw [flat_length (k := 2) (fun _ => rfl), HR3.out, show m - 4 = 3 by omega]) (flat_one (fun _ _ hu => oneIt hu)) (by omega)).mono ?_
    rintro e w6 ⟨vr, rfl, hr1, hm1, hn1⟩
    rcases ownsRow_form hr1 with ⟨_, h0⟩ | ⟨gr, capr, rfl⟩
    · omega
    have hUw : wc.heap.size < w6.heap.size := by have := hm1.size; simp at this; omega
    have i0 : w6.cell? ⟨b, 0, none⟩ = some (.slice (some ⟨c, 0, none⟩) m cap) := (((Mod.refl NoB wc).alloc _).trans hm1).cellS e0
    have iu : w6.heap[wc.heap.size]? = some (.cells #[.string up.1, .string up.2] 73 (0, 0)) := heap_keep (heap_alloc_new wc _) (Mod.refl NoB _) hm1 (fun x => x) (fun x => x)
    have hb6 : b < w6.heap.size := by omega
    have hrr6 : r < w6.heap.size := by omega
    have M16 := Lib.hid (((Mod.refl NoB wc).alloc (.cells #[.string up.1, .string up.2] 73)).trans hm1)
    have HR1 := Lib.hid hr1; have HN1 := Lib.hid hn1; have IU := Lib.hid iu
    clear hr1 hm1 hn1 hread1 e0 ef u0 u1 iu
    go_wp2_with fail
    refine (leaf_node (HQ1.out.mod (M16.out.trans ((Mod.refl NoB w6).alloc _)) (fun _ _ x => x))).mono ?_
    rintro e w7 ⟨rfl, hw7⟩
    rw [hw7]
    clear hw7
    go_wp2_with fail
    have hread2 : ∀ W, Mod NoB w6 W → Read W (.slice (some ⟨c, 0, none⟩) 3 cap) 3 (xl.flatMap encIt) := fun W hm => by
      refine .inr ⟨_, _, rfl, fun j y hy => ?_⟩
      have h0 : ((x1 ++ it :: x2).flatMap encIt)[j]? = some y := by
        rw [HXS.out, List.flatMap_append, List.getElem?_append_left (List.getElem?_eq_some_iff.1 hy).1]
        exact hy
      exact (M16.out.trans hm).cellS (HQ1.out.2.1.cells (g := c) rfl j y h0)
    refine (cloneIt (cs := xl.flatMap encIt) (hread2 _ ((Mod.refl _ _).alloc _)) (by rw [flat_length (k := 2) (fun _ => rfl), HX3.out]) (flat_one (fun _ _ hu => oneIt hu)) (by omega)).mono ?_
    rintro e w8 ⟨vl, rfl, hr2, hm2, hn2⟩
    rcases ownsRow_form hr2 with ⟨_, h0⟩ | ⟨gl, capl, rfl⟩
    · omega
    have M68 := Lib.hid (((Mod.refl NoB w6).alloc (.cells #[.slice (some ⟨gr, 0, none⟩) (m - 4) capr, .slice none 0 0] 190)).trans hm2)
    have kb := heap_keep HQ1.out.1 M16.out M68.out (fun x => x) (fun x => x)
    have kr := heap_keep HQ4.out M16.out M68.out (fun x => x) (fun x => x)
    have ku := heap_keep IU.out (Mod.refl NoB _) M68.out (fun x => x) (fun x => x)
    have kn := heap_keep (heap_alloc_new w6 (.cells #[.slice (some ⟨gr, 0, none⟩) (m - 4) capr, .slice none 0 0] 190)) (Mod.refl NoB _) hm2 (fun x => x) (fun x => x)
    have j0 : w8.cell? ⟨b, 0, none⟩ = some (.slice (some ⟨c, 0, none⟩) m cap) := cell_of kb 0 rfl
    have jf := frozen_of kb 0
    have ju0 : w8.cell? ⟨wc.heap.size, 0, none⟩ = some (.string up.1) := cell_of ku 0 rfl
    have ju1 : w8.cell? ⟨wc.heap.size, 1, none⟩ = some (.string up.2) := cell_of ku 1 rfl
    have jr0 : w8.cell? ⟨r, 0, none⟩ = some (.string ⟨#[]⟩) := cell_of kr 0 rfl
    have jr1 : w8.cell? ⟨r, 1, none⟩ = some (.string ⟨#[]⟩) := cell_of kr 1 rfl
    have jrf0 := frozen_of kr 0
    have jrf1 := frozen_of kr 1
    have hbU : b ≠ wc.heap.size := by omega
    have hrU : r ≠ wc.heap.size := by omega
    have KB := Lib.hid kb; have KR := Lib.hid kr; have KN := Lib.hid kn
    have HR2 := Lib.hid hr2; have HM2 := Lib.hid hm2; have HN2 := Lib.hid hn2
    clear hr2 hm2 hn2 kb kr ku kn hread2 i0
    go_wp2_with fail
    have hq : Mod (· = r) (w8.setCell ⟨b, 0, none⟩ (.slice (some ⟨gl, 0, none⟩) 3 capl)) _ := Mod.setCell (S := (· = r)) (Mod.setCell (S := (· = r)) (Mod.refl _ _) (p := ⟨r, 0, none⟩) (by intro _; rfl) (.string up.1)) (p := ⟨r, 1, none⟩) (by intro _; rfl) (.string up.2)
    have h6 := HM2.out.size
    simp at h6
    have hgl : w6.heap.size + 1 ≤ gl := by have := HN2.out gl (by simp [ownL, Value.ownBlock]); simpa using this
    have hgr : wc.heap.size + 1 ≤ gr := by have := HN1.out gr (by simp [ownL, Value.ownBlock]); simpa using this
    have hgr6 : gr < w6.heap.size := own_lt HR1.out gr (by simp [ownL, Value.ownBlock])
    have hul : ∀ k ∈ ownL u', k < wc.heap.size := fun k hk => HQ1.out.lts k (by simp [nodeL, hk])
    obtain ⟨q1, q2, q3⟩ := node_items (xs' := xl) HQ1.out HQ2.out ((M16.out.trans M68.out).mono (fun _ _ x => x.elim)) (v' := .slice (some ⟨gl, 0, none⟩) 3 capl) (by rw [HX3.out]; exact HR2.out) (fun k hk => .inr (by simp [ownL, Value.ownBlock] at hk; omega))
    have hN2 : NodeAt w8 w6.heap.size (.slice (some ⟨gr, 0, none⟩) (m - 4) capr) xr (.slice none 0 0) [] :=
      ⟨KN.out, by have := own_mod' HR1.out M68.out (fun _ _ x => x); rw [show m - 4 = xr.length by rw [HR3.out]; omega] at this ⊢; exact this, World.ownsRow_nil _ _ _ _⟩
    have hbb : Mod (· = b) w8 (w8.setCell ⟨b, 0, none⟩ (.slice (some ⟨gl, 0, none⟩) 3 capl)) := Mod.setCell (S := (· = b)) (Mod.refl _ _) (by intro _; rfl) _
    have hn2l : ∀ k ∈ nodeL w6.heap.size (.slice (some ⟨gr, 0, none⟩) (m - 4) capr) (.slice none 0 0), wc.heap.size + 1 ≤ k ∧ k ≤ w6.heap.size := fun k hk => by
      simp [nodeL, ownL, Value.ownBlock] at hk
      omega
    have hn1l : ∀ k ∈ nodeL b (.slice (some ⟨gl, 0, none⟩) 3 capl) u', k < wc.heap.size ∨ w6.heap.size + 1 ≤ k := fun k hk => by
      simp only [nodeL, List.mem_cons, List.mem_append] at hk
      rcases hk with h | h | h
      · left; omega
      · right; simp [ownL, Value.ownBlock] at h; omega
      · left; exact hul k h
    have hrn : ¬ r ∈ nodeL b (.slice (some ⟨gl, 0, none⟩) 3 capl) u' := fun hk => by
      simp only [nodeL, List.mem_cons, List.mem_append] at hk
      rcases hk with h | h | h
      · exact hrb h
      · simp [ownL, Value.ownBlock] at h; omega
      · exact HQ5.out (by simp [nodeL, h])
    refine bodyPost_ret (v := .tuple #[.agg #[.string up.1, .string up.2], .pointer (some ⟨w6.heap.size, 0, none⟩)]) (by simp [results, Tryz.results190, go_sem, *]) rfl ⟨up, xl, xr, w6.heap.size, .slice (some ⟨gl, 0, none⟩) 3 capl, .slice (some ⟨gr, 0, none⟩) (m - 4) capr, u', .slice none 0 0, [], [], rfl, HXS.out, HX3.out, HR3.out, rfl, .inl rfl, q1.mod hq (fun k hk e => hrn (e ▸ hk)), (hN2.mod hbb (fun k hk e => ?_)).mod hq (fun k hk e => ?_), ?_, ?_⟩
    · have := hn2l k hk; omega
    · have := hn2l k hk; omega
    · refine List.nodup_append.2 ⟨q2, ?_, fun x hx y hy e => ?_⟩
      · simp [nodeL, ownL, Value.ownBlock]; omega
      · have h1 := hn1l x hx
        have h2 := hn2l y hy
        omega
    · have h9 := beside (HQ3.out.trans q3) hq HQ6.out
      refine ⟨h9.1, fun k hk => ?_⟩
      rcases List.mem_append.1 hk with hk | hk
      · exact h9.2 k hk
      · right
        have h1 := hn2l k hk
        have h2 := HQ3.out.1.size
        omega
end Go.Proofs.YtpcmbnbdppembaaGreatDoor

/- (*shelf.node).put, whole: what it gives (PutR); of a leaf. -/
namespace Go.Proofs.YtpcmbnbdppembaaGreatDoor
set_option linter.unusedSimpArgs false
set_option linter.unusedVariables false
open Go.RowKit Go.Shelf

/-- what put makes of a tree: LX: the blocks of what came of it -/
def PutR (w : World) (b d : Nat) (t : Tree) (L : List Nat) (it : Itm) (q : Option Addr) (up : Itm) (LX : List Nat) (w' : World) : Prop :=
  Turn L w w' LX ∧ LX.Nodup ∧
  ((q = none ∧ ∃ t', TreeP w' b t' LX ∧ t'.its = insS it t.its ∧ okT d t' ∧ t.xs.length ≤ t'.xs.length) ∨
   ∃ c t1 t2 L1 L2, q = some ⟨c, 0, none⟩ ∧ TreeP w' b t1 L1 ∧ TreeP w' c t2 L2 ∧ LX.Perm (L1 ++ L2) ∧ t1.its ++ up :: t2.its = insS it t.its ∧ okT d t1 ∧ okT d t2 ∧ 3 ≤ t1.xs.length ∧ 3 ≤ t2.xs.length)

def PutE (w : World) (b d : Nat) (t : Tree) (L : List Nat) (it : Itm) (e : Ending) (w' : World) : Prop :=
  ∃ up q LX, e = .returned (.tuple #[.agg #[.string up.1, .string up.2], .pointer q]) ∧ PutR w b d t L it q up LX w'

/-- the contract of put at a depth -/
def NPutOK (d : Nat) : Prop := ∀ (w : World) (b : Nat) (t : Tree) (L : List Nat) (it : Itm), TreeP w b t L → okT d t → L.Nodup → Rising t.its → (∀ x ∈ t.its, x.1.size ≤ 1000000) → it.1.size ≤ 1000000 → getS it.1 t.its = none →
  Calls Tryz.prog 190 #[.pointer (some ⟨b, 0, none⟩), .agg #[.string it.1, .string it.2]] w (PutE w b d t L it)

theorem insS_leaf {x1 x2 : List Itm} {it : Itm} (hl : AllLt x1 it.1) (hg : AllGt x2 it.1) : insS it (x1 ++ x2) = x1 ++ it :: x2 := by
  have := insS_mid (x := it) (A := x1) (C := []) (B := x2) hl hg
  simpa [insS_nil] using this

theorem plc_none {k : ByteArray} {xs : List Itm} (hr : Rising xs) (hn : getS k xs = none) : ∃ x1 x2, xs = x1 ++ x2 ∧ plc k xs = (x1.length, false) ∧ AllLt x1 k ∧ AllGt x2 k := by
  rcases plc_spec (k := k) hr with ⟨x1, v, x2, e1, e2, e3, e4⟩ | h
  · exfalso
    have := get_none_any hn (k, v) (by rw [e1]; simp)
    exact this rfl
  · exact h

theorem put_leaf_ok : NPutOK 0 := by
  intro w b t L it ht ho hn hr hs hk hg
  obtain ⟨xs, ts⟩ := t
  unfold okT at ho
  obtain ⟨rfl, hw⟩ := ho
  rw [its_leaf] at hr hs hg
  obtain ⟨v, u, bs, Ls, h1, h2, hp⟩ := ht.open
  have hbs : bs = [] := List.eq_nil_of_length_eq_zero h2.len
  subst hbs
  unfold TreesP at h2
  subst h2
  rw [List.append_nil] at hp
  obtain ⟨x1, x2, rfl, e2, e3, e4⟩ := plc_none hr hg
  have hnn := (hp.nodup_iff).1 hn
  by_cases h6 : (x1 ++ x2).length + 1 ≤ 6
  · refine (nput_leaf it h1 hnn e2 h6 hk hs).mono ?_
    rintro e w' ⟨rfl, v', q1, q2, q3⟩
    refine ⟨(⟨#[]⟩, ⟨#[]⟩), none, nodeL b v' u, rfl, q3.perm hp.symm (List.Perm.refl _), q2, .inl ⟨rfl, .mk (x1 ++ it :: x2) [], ?_, ?_, ?_, ?_⟩⟩
    · have := treeP_of q1 (TreesP.nil w')
      simpa using this
    · rw [its_leaf, its_leaf, insS_leaf e3 e4]
    · unfold okT
      refine ⟨rfl, ?_⟩
      simp at h6 ⊢
      omega
    · simp
  · refine (nput_leaf7 it h1 hnn e2 hw (by omega) hk hs).mono ?_
    rintro e w' ⟨up, xl, xr, c, v1, v2, u1, u2, bl, br, rfl, hx, hl3, hr3, hb, _, q1, q2, q3, q4⟩
    obtain ⟨rfl, rfl⟩ := List.append_eq_nil_iff.1 hb.symm
    refine ⟨up, some ⟨c, 0, none⟩, _, rfl, q4.perm hp.symm (List.Perm.refl _), q3, .inr ⟨c, .mk xl [], .mk xr [], _, _, rfl, ?_, ?_, List.Perm.refl _, ?_, ?_, ?_, ?_, ?_⟩⟩
    · have := treeP_of q1 (TreesP.nil w')
      simpa using this
    · have := treeP_of q2 (TreesP.nil w')
      simpa using this
    · rw [its_leaf, its_leaf, its_leaf, insS_leaf e3 e4, hx]
    · unfold okT; exact ⟨rfl, by omega⟩
    · unfold okT; exact ⟨rfl, by omega⟩
    · simp [hl3]
    · simp [hr3]
end Go.Proofs.YtpcmbnbdppembaaGreatDoor

/- (*shelf.node).put of a node that is no leaf: up to what the child gives. -/
namespace Go.Proofs.YtpcmbnbdppembaaGreatDoor
set_option linter.unusedSimpArgs false
set_option linter.unusedVariables false
open Go.RowKit Go.Shelf
attribute [local go_sem ↓] Go.wp_at_zero Go.wp_at_succ

/-- what stands behind the child's put: s8: where the item lies that goes up, s9: the node behind the child -/
def Cut4 (w : World) (b : Nat) (v u : Value) (xs : List Itm) (bs : List Nat) (c d : Nat) (tc : Tree) (Lc : List Nat) (it : Itm) (r : Nat) (s8 s9 : Value) (W : World) : Prop :=
  ∃ up q LX U, s8 = .pointer (some ⟨U, 0, none⟩) ∧ s9 = .pointer q ∧ PutR w c d tc Lc it q up LX W ∧ NodeAt W b v xs u bs ∧ W.heap[r]? = some (.cells #[.string ⟨#[]⟩, .string ⟨#[]⟩] 73 (0, 0)) ∧
    W.heap[U]? = some (.cells #[.string up.1, .string up.2] 73 (0, 0)) ∧ r ∉ LX ∧ w.heap.size ≤ r ∧ (∀ k ∈ LX, k ∉ nodeL b v u)

theorem PutR.mod {w w' w2 : World} {b d : Nat} {t : Tree} {L LX : List Nat} {it up : Itm} {q : Option Addr} (h : PutR w b d t L it q up LX w') (hm : Mod NoB w' w2) : PutR w b d t L it q up LX w2 := by
  obtain ⟨h1, h2, h3⟩ := h
  refine ⟨⟨h1.1.then hm (fun _ _ x => x.elim), h1.2⟩, h2, ?_⟩
  rcases h3 with ⟨a1, t', a2, a3⟩ | ⟨c, t1, t2, L1, L2, a1, a2, a3, a4⟩
  · exact .inl ⟨a1, t', a2.mod hm (fun _ _ x => x), a3⟩
  · exact .inr ⟨c, t1, t2, L1, L2, a1, a2.mod hm (fun _ _ x => x), a3.mod hm (fun _ _ x => x), a4⟩
theorem PutR.from {w0 w w' : World} {b d : Nat} {t : Tree} {L LX : List Nat} {it up : Itm} {q : Option Addr} (h : PutR w b d t L it q up LX w') (hm : Mod NoB w0 w) : PutR w0 b d t L it q up LX w' := by
  obtain ⟨h1, h2, h3⟩ := h
  refine ⟨⟨(hm.mono (fun _ _ x => x.elim)).then h1.1 (fun _ _ x => x), fun k hk => (h1.2 k hk).imp id (fun x => Nat.le_trans hm.size x)⟩, h2, h3⟩

theorem cut4_of {w w3 W w4 : World} {b c d r U : Nat} {v u : Value} {xs : List Itm} {bs : List Nat} {tc : Tree} {Lc LX : List Nat} {it up : Itm} {q : Option Addr}
    (hN : NodeAt w b v xs u bs) (hd : ∀ k ∈ Lc, k ∉ nodeL b v u) (M3 : Mod NoB w w3) (hr : w3.heap[r]? = some (.cells #[.string ⟨#[]⟩, .string ⟨#[]⟩] 73 (0, 0))) (hr1 : w.heap.size ≤ r) (hLc : ∀ k ∈ Lc, k < w.heap.size)
    (hP : PutR W c d tc Lc it q up LX w4) (hM : Mod NoB w3 W) (hU : U = w4.heap.size) :
    Cut4 w b v u xs bs c d tc Lc it r (.pointer (some ⟨U, 0, none⟩)) (.pointer q) (w4.alloc (.cells #[.string up.1, .string up.2] 73)) := by
  have hT := hP.1
  have hlt := hN.lts
  have hr3 : r < w3.heap.size := (Array.getElem?_eq_some_iff.1 hr).1
  have hrL : r ∉ Lc := fun e => by have := hLc r e; omega
  have ha : Mod NoB w4 (w4.alloc (.cells #[.string up.1, .string up.2] 73)) := (Mod.refl _ _).alloc _
  refine ⟨up, q, LX, U, rfl, rfl, (hP.from (M3.trans hM)).mod ha, ((hN.mod (M3.trans hM) (fun _ _ x => x)).mod hT.1 (fun k hk hc => hd k hc hk)).mod ha (fun _ _ x => x), ?_, by rw [hU]; exact heap_alloc_new w4 _, fun e => ?_, hr1, fun k hk e => ?_⟩
  · exact heap_keep (heap_keep hr hM hT.1 (fun x => x) hrL) (Mod.refl NoB _) ha (fun x => x) (fun x => x)
  · rcases hT.2 r e with h | h
    · exact hrL h
    · have := hM.size; omega
  · rcases hT.2 k hk with h | h
    · exact hd k h e
    · have := hlt k e
      have := (M3.trans hM).size
      omega

theorem TreeP.of_other {w w2 : World} {b U : Nat} {t : Tree} {L : List Nat} (h : TreeP w b t L) (hm : Mod (· = U) w w2) (hU : U ∉ L) : TreeP w2 b t L := h.mod hm (fun k hk e => hU (e ▸ hk))

theorem PutR.other {w w' w2 : World} {b d U : Nat} {t : Tree} {L LX : List Nat} {it up : Itm} {q : Option Addr} (h : PutR w b d t L it q up LX w') (hm : Mod (· = U) w' w2) (hU : U ∉ LX) (hw : w.heap.size ≤ U) : PutR w b d t L it q up LX w2 := by
  obtain ⟨h1, h2, h3⟩ := h
  refine ⟨beside h1 hm hw, h2, ?_⟩
  rcases h3 with ⟨a1, t', a2, a3⟩ | ⟨c, t1, t2, L1, L2, a1, a2, a3, a4, a5⟩
  · exact .inl ⟨a1, t', a2.of_other hm hU, a3⟩
  · exact .inr ⟨c, t1, t2, L1, L2, a1, a2.of_other hm (fun e => hU (a4.mem_iff.2 (List.mem_append_left _ e))), a3.of_other hm (fun e => hU (a4.mem_iff.2 (List.mem_append_right _ e))), a4, a5⟩

theorem cut4_of2 {w w3 W w4 : World} {b c d r U : Nat} {v u : Value} {xs : List Itm} {bs : List Nat} {tc : Tree} {Lc LX : List Nat} {it up : Itm} {q : Option Addr}
    (hN : NodeAt w b v xs u bs) (hd : ∀ k ∈ Lc, k ∉ nodeL b v u) (M3 : Mod NoB w w3) (hr : w3.heap[r]? = some (.cells #[.string ⟨#[]⟩, .string ⟨#[]⟩] 73 (0, 0))) (hr1 : w.heap.size ≤ r) (hLc : ∀ k ∈ Lc, k < w.heap.size)
    (hP : PutR W c d tc Lc it q up LX w4) (hM : Mod NoB w3 W) (hU : U = w3.heap.size) (hUW : w3.heap.size + 1 ≤ W.heap.size) (hk : w4.heap[U]? = some (.cells #[.string ⟨#[]⟩, .string ⟨#[]⟩] 73 (0, 0))) :
    Cut4 w b v u xs bs c d tc Lc it r (.pointer (some ⟨U, 0, none⟩)) (.pointer q) ((w4.setCell ⟨U, 0, none⟩ (.string up.1)).setCell ⟨U, 1, none⟩ (.string up.2)) := by
  have hT := hP.1
  have hlt := hN.lts
  have hr3 : r < w3.heap.size := (Array.getElem?_eq_some_iff.1 hr).1
  have hrL : r ∉ Lc := fun e => by have := hLc r e; omega
  have hm : Mod (· = U) w4 ((w4.setCell ⟨U, 0, none⟩ (.string up.1)).setCell ⟨U, 1, none⟩ (.string up.2)) := Mod.setCell (S := (· = U)) (Mod.setCell (S := (· = U)) (Mod.refl _ _) (p := ⟨U, 0, none⟩) (by intro _; rfl) _) (p := ⟨U, 1, none⟩) (by intro _; rfl) _
  have hs3 := M3.size
  have hUX : U ∉ LX := fun e => by
    rcases hT.2 U e with h | h
    · have := hLc U h; omega
    · omega
  have hUn : ∀ k ∈ nodeL b v u, ¬ k = U := fun k hk e => by have := hlt k hk; omega
  refine ⟨up, q, LX, U, rfl, rfl, (hP.from (M3.trans hM)).other hm hUX (by omega), ((hN.mod (M3.trans hM) (fun _ _ x => x)).mod hT.1 (fun k hk hc => hd k hc hk)).mod hm hUn, ?_, ?_, fun e => ?_, hr1, fun k hk e => ?_⟩
  · exact heap_keep (heap_keep hr hM hT.1 (fun x => x) hrL) (Mod.refl NoB _) hm (fun x => x) (by omega)
  · have := heap_set (heap_set hk 0 (.string up.1)) 1 (.string up.2)
    simpa using this
  · rcases hT.2 r e with h | h
    · exact hrL h
    · have := hM.size; omega
  · rcases hT.2 k hk with h | h
    · exact hd k h e
    · have := hlt k e
      have := (M3.trans hM).size
      omega

/-- what stands behind the insertions into a node's rows -/
def Cut8 (w : World) (b : Nat) (v u : Value) (xs : List Itm) (bs : List Nat) (r : Nat) (W : World) : Prop :=
  ∃ c cap u', NodeAt W b (.slice (some ⟨c, 0, none⟩) xs.length cap) xs u' bs ∧ (nodeL b (.slice (some ⟨c, 0, none⟩) xs.length cap) u').Nodup ∧ Turn (nodeL b v u) w W (nodeL b (.slice (some ⟨c, 0, none⟩) xs.length cap) u') ∧
    W.heap[r]? = some (.cells #[.string ⟨#[]⟩, .string ⟨#[]⟩] 73 (0, 0)) ∧ r ∉ nodeL b (.slice (some ⟨c, 0, none⟩) xs.length cap) u'

theorem cut8_items {w w4 : World} {b c cap n r : Nat} {v u : Value} {xs xs' : List Itm} {bs : List Nat} (H : NodeAt w b v xs u bs) (HND : (nodeL b v u).Nodup) (HM : Mod (· ∈ ownL v) w w4) (hr : RowIt w4 (.slice (some ⟨c, 0, none⟩) n cap) n (xs'.flatMap encIt)) (hn : xs'.length = n)
    (hc : c ∈ ownL v ∨ w.heap.size ≤ c) (hrn : r ∉ nodeL b v u) (hrw : r < w.heap.size) (hk : w4.heap[r]? = some (.cells #[.string ⟨#[]⟩, .string ⟨#[]⟩] 73 (0, 0))) :
    ∃ cap', cap' = cap ∧ NodeAt (w4.setCell ⟨b, 0, none⟩ (.slice (some ⟨c, 0, none⟩) n cap)) b (.slice (some ⟨c, 0, none⟩) n cap) xs' u bs ∧ (nodeL b (.slice (some ⟨c, 0, none⟩) n cap) u).Nodup ∧
      Turn (nodeL b v u) w (w4.setCell ⟨b, 0, none⟩ (.slice (some ⟨c, 0, none⟩) n cap)) (nodeL b (.slice (some ⟨c, 0, none⟩) n cap) u) ∧
      (w4.setCell ⟨b, 0, none⟩ (.slice (some ⟨c, 0, none⟩) n cap)).heap[r]? = some (.cells #[.string ⟨#[]⟩, .string ⟨#[]⟩] 73 (0, 0)) ∧ r ∉ nodeL b (.slice (some ⟨c, 0, none⟩) n cap) u := by
  have hcl : ∀ k ∈ ownL (.slice (some ⟨c, 0, none⟩) n cap), k ∈ ownL v ∨ w.heap.size ≤ k := fun k hk => by
    simp [ownL, Value.ownBlock] at hk
    rw [hk]
    exact hc
  obtain ⟨q1, q2, q3⟩ := node_items H HND HM (by rw [hn]; exact hr) hcl
  refine ⟨cap, rfl, q1, q2, q3, ?_, ?_⟩
  · rw [heap_set_other (fun e => hrn (by simp [nodeL, e]))]
    exact hk
  · intro e
    simp only [nodeL, List.mem_cons, List.mem_append] at e
    rcases e with h | h | h
    · exact hrn (by simp [nodeL, h])
    · rcases hcl _ h with h | h
      · exact hrn (by simp [nodeL, h])
      · omega
    · exact hrn (by simp [nodeL, h])

/-- a node whose children have turned -/
theorem node_below {w w1 : World} {b : Nat} {v u u' : Value} {xs : List Itm} {bs bs' : List Nat} (h : NodeAt w b v xs u bs) (hnd : (nodeL b v u).Nodup) (hm : Mod (· ∈ ownL u) w w1) (hr : RowNd w1 u' bs'.length (bs'.flatMap encNd))
    (hnew : ∀ k ∈ ownL u', k ∈ ownL u ∨ w.heap.size ≤ k) :
    NodeAt (w1.setCell ⟨b, 1, none⟩ u') b v xs u' bs' ∧ (nodeL b v u').Nodup ∧ Turn (nodeL b v u) w (w1.setCell ⟨b, 1, none⟩ u') (nodeL b v u') := by
  have hlt := h.lts
  obtain ⟨h1, h2, h3⟩ := h
  have hself : Mod (· = b) w1 (w1.setCell ⟨b, 1, none⟩ u') := Mod.setCell (S := (· = b)) (Mod.refl _ _) (by intro _; rfl) _
  have hn := hnd
  simp only [nodeL, List.nodup_cons, List.mem_append, not_or, List.nodup_append] at hn
  obtain ⟨⟨q1, q2⟩, q0, q3, q4⟩ := hn
  have hbu : b ∉ ownL u' := fun e => by
    rcases hnew b e with h | h
    · exact q2 h
    · have := hlt b (by simp [nodeL]); omega
  refine ⟨⟨?_, own_mod' (own_mod' h2 hm (fun k hk e => q4 k hk k e rfl)) hself (fun k hk e => q1 (e ▸ hk)), own_mod' hr hself (fun k hk e => hbu (e ▸ hk))⟩, ?_, ?_, ?_⟩
  · have hb1 : w1.heap[b]? = some (.cells #[v, u] 190 (0, 0)) := by rw [hm.block b (Array.getElem?_eq_some_iff.1 h1).1 q2]; exact h1
    have := heap_set hb1 1 u'
    simpa using this
  · simp only [nodeL, List.nodup_cons, List.mem_append, not_or, List.nodup_append]
    refine ⟨⟨q1, hbu⟩, q0, ownL_nodup _, fun a ha c hc e => ?_⟩
    subst e
    rcases hnew a hc with h | h
    · exact q4 a ha a h rfl
    · have := hlt a (by simp [nodeL, ha]); omega
  · exact (hm.mono (fun k _ hk => by simp [nodeL, hk])).then hself (fun k _ e => by simp [nodeL, e])
  · intro k hk
    simp only [nodeL, List.mem_cons, List.mem_append] at hk ⊢
    rcases hk with h | h | h
    · exact .inl (.inl h)
    · exact .inl (.inr (.inl h))
    · exact (hnew k h).imp (fun x => .inr (.inr x)) id

theorem ins_flatNd (b1 b2 : List Nat) (c : Nat) : ((b1 ++ b2).flatMap encNd).take (b1.length * 1) ++ (encNd c ++ ((b1 ++ b2).flatMap encNd).drop (b1.length * 1)) = (b1 ++ c :: b2).flatMap encNd := by
  rw [flat_take (k := 1) (fun _ => rfl), flat_drop (k := 1) (fun _ => rfl)]
  simp
theorem oneNd {x : Nat} {u : Value} (hu : u ∈ encNd x) : u.oneCell' = true := by
  simp only [encNd, List.mem_cons, List.not_mem_nil, or_false] at hu
  subst hu
  rfl
end Go.Proofs.YtpcmbnbdppembaaGreatDoor

/- (*shelf.node).put of a node that is no leaf. -/
namespace Go.Proofs.YtpcmbnbdppembaaGreatDoor
set_option linter.unusedSimpArgs false
set_option linter.unusedVariables false
open Go.RowKit Go.Shelf
attribute [local go_sem ↓] Go.wp_at_zero Go.wp_at_succ

/-- what put gives of a node that is no leaf -/
def InPost (w : World) (b : Nat) (v u : Value) (x1 x2 : List Itm) (bA : List Nat) (c : Nat) (bB : List Nat) (d : Nat) (tc : Tree) (Lc : List Nat) (it : Itm) (e : Ending) (w' : World) : Prop :=
  ∃ up q LX w4 r, PutR w c d tc Lc it q up LX w4 ∧ NodeAt w4 b v (x1 ++ x2) u (bA ++ c :: bB) ∧ r ∉ LX ∧ w.heap.size ≤ r ∧ (∀ k ∈ LX, k ∉ nodeL b v u) ∧ Mod (fun k => k ∈ nodeL b v u ∨ k = r) w4 w' ∧
    ((q = none ∧ e = .returned (.tuple #[.agg #[.string ⟨#[]⟩, .string ⟨#[]⟩], .pointer none]) ∧ NodeAt w' b v (x1 ++ x2) u (bA ++ c :: bB)) ∨
     (∃ c2 v' u', q = some ⟨c2, 0, none⟩ ∧ e = .returned (.tuple #[.agg #[.string ⟨#[]⟩, .string ⟨#[]⟩], .pointer none]) ∧ (x1 ++ up :: x2).length ≤ 6 ∧ NodeAt w' b v' (x1 ++ up :: x2) u' (bA ++ c :: c2 :: bB) ∧ (nodeL b v' u').Nodup ∧ ∀ k ∈ nodeL b v' u', k ∈ nodeL b v u ∨ w4.heap.size ≤ k) ∨
     (∃ c2 up2 xl xr C v1 v2 u1 u2 bl br, q = some ⟨c2, 0, none⟩ ∧ e = .returned (.tuple #[.agg #[.string up2.1, .string up2.2], .pointer (some ⟨C, 0, none⟩)]) ∧ x1 ++ up :: x2 = xl ++ up2 :: xr ∧ xl.length = 3 ∧ xr.length = 3 ∧ bA ++ c :: c2 :: bB = bl ++ br ∧ bl.length = 4 ∧
       NodeAt w' b v1 xl u1 bl ∧ NodeAt w' C v2 xr u2 br ∧ (nodeL b v1 u1 ++ nodeL C v2 u2).Nodup ∧ ∀ k ∈ nodeL b v1 u1 ++ nodeL C v2 u2, k ∈ nodeL b v u ∨ w4.heap.size ≤ k))

set_option maxRecDepth 100000 in
set_option maxHeartbeats 16000000 in
theorem nput_in {w : World} {b c d : Nat} {v u : Value} {x1 x2 : List Itm} {bs bA bB : List Nat} {tc : Tree} {Lc : List Nat} (it : Itm) (h : NodeAt w b v (x1 ++ x2) u bs) (hnd : (nodeL b v u).Nodup) (hpl : plc it.1 (x1 ++ x2) = (x1.length, false)) (hw : (x1 ++ x2).length ≤ 6)
    (hk : it.1.size ≤ 1000000) (hs : ∀ x ∈ x1 ++ x2, x.1.size ≤ 1000000) (hbl : bs.length = (x1 ++ x2).length + 1) (hbs : bs = bA ++ c :: bB) (hbA : bA.length = x1.length) (hd : ∀ k ∈ Lc, k ∉ nodeL b v u) (hLc : ∀ k ∈ Lc, k < w.heap.size)
    (hput : ∀ W, Mod NoB w W → Calls Tryz.prog 190 #[.pointer (some ⟨c, 0, none⟩), .agg #[.string it.1, .string it.2]] W (PutE W c d tc Lc it)) :
    Calls Tryz.prog 190 #[.pointer (some ⟨b, 0, none⟩), .agg #[.string it.1, .string it.2]] w (InPost w b v u x1 x2 bA c bB d tc Lc it) := by
  have hbc : bs[x1.length]? = some c := by rw [hbs, ← hbA]; simp
  have hlt := h.lts
  have hb : b < w.heap.size := hlt b (by simp [nodeL])
  have hplace := fun W (hm : Mod NoB w W) => place_any (h.mod hm (fun _ _ x => x)) it.1 (by omega) hk hs
  have hleaf := fun W (hm : Mod NoB w W) => leaf_node (h.mod hm (fun _ _ x => x))
  have hbn : decide (bs.length = 0) = false := by rw [hbl]; simp
  rw [hpl] at hplace
  dsimp only at hplace
  simp only [hbn] at hleaf
  rcases ownsRow_form h.2.2 with ⟨_, h0⟩ | ⟨gu, cu, rfl⟩
  · omega
  have hcells := h.2.2.cells (g := gu) rfl x1.length (.pointer (some ⟨c, 0, none⟩)) (by simpa using flat_cell (k := 1) (enc := encNd) (fun _ => rfl) _ x1.length c hbc 0 _ rfl)
  rw [addr_lit, Nat.zero_add] at hcells
  have c1 : w.cell? ⟨b, 1, none⟩ = some (.slice (some ⟨gu, 0, none⟩) bs.length cu) := cell_of h.1 1 rfl
  obtain ⟨n, hn⟩ : ∃ n, n = bs.length := ⟨_, rfl⟩
  have hxn : x1.length < n := by rw [hn, hbl]; simp; omega
  have hn9 : n ≤ 9223372036854775807 := by rw [hn, hbl]; omega
  have hvs : ∃ a cap, v = .slice a (x1 ++ x2).length cap := by
    rcases ownsRow_form h.2.1 with ⟨e, e0⟩ | ⟨g, cap, e⟩
    · exact ⟨none, 0, by rw [e, e0]⟩
    · exact ⟨_, cap, e⟩
  obtain ⟨av, capv, rfl⟩ := hvs
  obtain ⟨m, hm⟩ : ∃ m, m = (x1 ++ x2).length := ⟨_, rfl⟩
  have hxm : x1.length ≤ m := by rw [hm]; simp
  rw [← hn] at c1 h hnd hd hlt ⊢
  rw [← hm] at hw h hnd hd hlt ⊢
  have H := Lib.hid h; have HND := Lib.hid hnd; have HPL := Lib.hid hplace; have HLF := Lib.hid hleaf; have HLT := Lib.hid hlt; have HPUT := Lib.hid hput; have HD := Lib.hid hd; have HLC := Lib.hid hLc; have HN := Lib.hid hn; have HBL := Lib.hid hbl; have HM := Lib.hid hm; have HBC := Lib.hid hbc; have HBS := Lib.hid hbs; have HBA := Lib.hid hbA
  have C1 := Lib.hid c1; have CC := Lib.hid hcells
  have hne : b ≠ w.heap.size := by omega
  have hne1 : b ≠ w.heap.size + 1 := by omega
  clear h hnd hplace hleaf hlt hput hd hLc hs hpl hn hbl hbc hbs hbA c1 hcells hbn hm
  go_enter Tryz.func190, Tryz.ntmps190
  go_wp2_with (first
    | (go_at_call 194; refine (HPL.out _ (by repeat (first | exact Mod.refl _ _ | refine Mod.alloc ?_ _ | refine Mod.drew ?_))).mono ?_; rintro e w2 ⟨rfl, hm2⟩; have HM2 := Lib.hid hm2; clear hm2)
    | (go_at_call 148; refine (HLF.out _ (Mod.trans (by repeat (first | exact Mod.refl _ _ | refine Mod.alloc ?_ _ | refine Mod.drew ?_)) HM2.out)).mono ?_; rintro e w3 ⟨rfl, rfl⟩))
  obtain ⟨b1, b2, b3, b4⟩ := two_new HM2.out
  have BR := Lib.hid b2; have M3 := Lib.hid b4; have B3 := Lib.hid b3
  have d1 : w3.cell? ⟨b, 1, none⟩ = some (.slice (some ⟨gu, 0, none⟩) n cu) := b4.cellS C1.out
  have dc : w3.cell? ⟨gu, x1.length, none⟩ = some (.pointer (some ⟨c, 0, none⟩)) := b4.cellS CC.out
  have p0 : w3.cell? ⟨w.heap.size, 0, none⟩ = some (.string it.1) := cell_of b1 0 rfl
  have p1 : w3.cell? ⟨w.heap.size, 1, none⟩ = some (.string it.2) := cell_of b1 1 rfl
  have hnU : ¬ w3.heap.size < w.heap.size := by omega
  have hne3 : w.heap.size ≠ w3.heap.size := by omega
  have hbn3 : b ≠ w3.heap.size := by omega
  have hgn3 : gu ≠ w3.heap.size := by have := HLT.out gu (by simp [nodeL, ownL, Value.ownBlock]); omega
  have d1a : ∀ o, (w3.alloc o).cell? ⟨b, 1, none⟩ = some (.slice (some ⟨gu, 0, none⟩) n cu) := fun o => ((Mod.refl NoB w3).alloc o).cellS d1
  have dca : ∀ o, (w3.alloc o).cell? ⟨gu, x1.length, none⟩ = some (.pointer (some ⟨c, 0, none⟩)) := fun o => ((Mod.refl NoB w3).alloc o).cellS dc
  have p0a : ∀ o, (w3.alloc o).cell? ⟨w.heap.size, 0, none⟩ = some (.string it.1) := fun o => ((Mod.refl NoB w3).alloc o).cellS p0
  have p1a : ∀ o, (w3.alloc o).cell? ⟨w.heap.size, 1, none⟩ = some (.string it.2) := fun o => ((Mod.refl NoB w3).alloc o).cellS p1
  clear b1 b2 b3 b4
  go_cut [8, 9] (fun s8 s9 wx => Cut4 w b (.slice av m capv) (.slice (some ⟨gu, 0, none⟩) n cu) (x1 ++ x2) bs c d tc Lc it (w.heap.size + 1) s8 s9 wx)
  case first =>
    go_region_law ((go_simp; go_at_call 190; go_loud (refine (HPUT.out _ (M3.out.trans (by repeat (first | exact Mod.refl _ _ | refine Mod.alloc ?_ _ | refine Mod.drew ?_)))).mono ?_; rintro e w4 ⟨up, q, LX, rfl, hP⟩; (try (have ku : w4.heap[w3.heap.size]? = some (.cells #[.string ⟨#[]⟩, .string ⟨#[]⟩] 73 (0, 0)) := heap_keep2 (w := w3.alloc (.cells #[.string ⟨#[]⟩, .string ⟨#[]⟩] 73)) (heap_alloc_new w3 _) hP.1.1 (Mod.refl NoB _) (fun e => absurd (HLC.out _ e) hnU); have ku0 : w4.cell? ⟨w3.heap.size, 0, none⟩ = some (.string ⟨#[]⟩) := cell_of ku 0 rfl; have ku1 : w4.cell? ⟨w3.heap.size, 1, none⟩ = some (.string ⟨#[]⟩) := cell_of ku 1 rfl; have kuf0 := frozen_of ku 0; have kuf1 := frozen_of ku 1; have KU := Lib.hid ku; clear ku)); (try (have ku : w4.heap[w3.heap.size]? = some (.cells #[.string ⟨#[]⟩, .string ⟨#[]⟩] 73 (0, 0)) := heap_keep2 (w := w3.alloc (.cells #[.string ⟨#[]⟩, .string ⟨#[]⟩] 73)) (heap_alloc_new w3 _) hP.1.1 ((Mod.refl NoB _).drew) (fun e => absurd (HLC.out _ e) hnU); have ku0 : w4.cell? ⟨w3.heap.size, 0, none⟩ = some (.string ⟨#[]⟩) := cell_of ku 0 rfl; have ku1 : w4.cell? ⟨w3.heap.size, 1, none⟩ = some (.string ⟨#[]⟩) := cell_of ku 1 rfl; have kuf0 := frozen_of ku 0; have kuf1 := frozen_of ku 1; have KU := Lib.hid ku; clear ku)); (try (have ku : w4.heap[w3.heap.size]? = some (.cells #[.string ⟨#[]⟩, .string ⟨#[]⟩] 73 (0, 0)) := heap_keep2 (w := w3.alloc (.cells #[.string ⟨#[]⟩, .string ⟨#[]⟩] 73)) (heap_alloc_new w3 _) hP.1.1 ((Mod.refl NoB _).drew.drew) (fun e => absurd (HLC.out _ e) hnU); have ku0 : w4.cell? ⟨w3.heap.size, 0, none⟩ = some (.string ⟨#[]⟩) := cell_of ku 0 rfl; have ku1 : w4.cell? ⟨w3.heap.size, 1, none⟩ = some (.string ⟨#[]⟩) := cell_of ku 1 rfl; have kuf0 := frozen_of ku 0; have kuf1 := frozen_of ku 1; have KU := Lib.hid ku; clear ku)); have HP := Lib.hid hP; clear hP)))
    all_goals
      go_wp2_with fail
      go_meet
      first
        | exact cut4_of H.out HD.out M3.out BR.out (Nat.le_succ _) HLC.out HP.out (by repeat (first | exact Mod.refl _ _ | refine Mod.alloc ?_ _ | refine Mod.drew ?_)) rfl
        | exact cut4_of2 H.out HD.out M3.out BR.out (Nat.le_succ _) HLC.out HP.out (by repeat (first | exact Mod.refl _ _ | refine Mod.alloc ?_ _ | refine Mod.drew ?_)) rfl (by simp) KU.out
  case rest =>
    obtain ⟨W4, rfl⟩ : ∃ W4 : World, W4 = wc := ⟨_, rfl⟩
    obtain ⟨up, q, LX, U, rfl, rfl, hP, hN, hR, hU, r1, r2, r3⟩ := hcut
    obtain ⟨r, hr⟩ : ∃ r, r = w.heap.size + 1 := ⟨_, rfl⟩
    rw [← hr] at hR r1 r2 ⊢
    clear HPL HLF d1 dc p0 p1 d1a dca p0a p1a hne hne1 hne3 hbn3 hgn3 hnU HM2 BR M3 B3 C1 CC HPUT hr
    have hrw : r < W4.heap.size := (Array.getElem?_eq_some_iff.1 hR).1
    have hUw : U < W4.heap.size := (Array.getElem?_eq_some_iff.1 hU).1
    have hbw : b < W4.heap.size := hN.lts b (by simp [nodeL])
    have hrn : r ∉ nodeL b (.slice av m capv) (.slice (some ⟨gu, 0, none⟩) n cu) := fun e => by have := HLT.out r e; omega
    have hrb : r ≠ b := fun e => hrn (by simp [nodeL, e])
    have z0 : W4.cell? ⟨r, 0, none⟩ = some (.string ⟨#[]⟩) := cell_of hR 0 rfl
    have z1 : W4.cell? ⟨r, 1, none⟩ = some (.string ⟨#[]⟩) := cell_of hR 1 rfl
    have zf0 := frozen_of hR 0
    have zf1 := frozen_of hR 1
    have c0 : W4.cell? ⟨b, 0, none⟩ = some (.slice av m capv) := cell_of hN.1 0 rfl
    have f0 := frozen_of hN.1 0
    have c1 : W4.cell? ⟨b, 1, none⟩ = some (.slice (some ⟨gu, 0, none⟩) n cu) := cell_of hN.1 1 rfl
    have f1 := frozen_of hN.1 1
    have HP := Lib.hid hP; have HN4 := Lib.hid hN; have HRR := Lib.hid hR; have HUU := Lib.hid hU; have R1 := Lib.hid r1; have R2 := Lib.hid r2; have R3 := Lib.hid r3; have RN := Lib.hid hrn
    clear hP hN hR hU r1 r2 r3 hrn
    rcases HP.out.2.2 with ⟨hq, hrest⟩ | ⟨c2, t1, t2, L1, L2, hq, hrest⟩
    · subst hq
      clear hrest
      go_wp2_with fail
      have hmr : Mod (· = r) W4 _ := Mod.setCell (S := (· = r)) (Mod.setCell (S := (· = r)) (Mod.refl _ W4) (p := ⟨r, 0, none⟩) (by intro _; rfl) (.string ⟨#[]⟩)) (p := ⟨r, 1, none⟩) (by intro _; rfl) (.string ⟨#[]⟩)
      refine bodyPost_ret (v := .tuple #[.agg #[.string ⟨#[]⟩, .string ⟨#[]⟩], .pointer none]) (by simp [results, Tryz.results190, go_sem, *]) rfl ⟨up, none, LX, W4, r, HP.out, ?_, R1.out, R2.out, R3.out, hmr.mono (fun _ _ e => .inr e), .inl ⟨rfl, rfl, ?_⟩⟩
      · rw [← HBS.out]; exact HN4.out
      · rw [← HBS.out]; exact HN4.out.mod hmr (fun k hk e => RN.out (e ▸ hk))
    · subst hq
      clear hrest
      have u0 : W4.cell? ⟨U, 0, none⟩ = some (.string up.1) := cell_of HUU.out 0 rfl
      have u1 : W4.cell? ⟨U, 1, none⟩ = some (.string up.2) := cell_of HUU.out 1 rfl
      have c0a : ∀ o, (W4.alloc o).cell? ⟨b, 0, none⟩ = some (.slice av m capv) := fun o => ((Mod.refl NoB W4).alloc o).cellS c0
      have hbg : b ≠ W4.heap.size := by omega
      have hbo : b ∉ ownL (.slice av m capv) := fun e => by
        have := HND.out
        simp only [nodeL, List.nodup_cons, List.mem_append, not_or] at this
        exact this.1.1 e
      have hro : r ∉ ownL (.slice av m capv) := fun e => RN.out (by simp [nodeL, e])
      have hgo : W4.heap.size ∉ ownL (.slice av m capv) := fun e => by
        have := HN4.out.lts W4.heap.size (by simp [nodeL, e])
        omega
      have HROW : Hid (∀ W, Mod NoB W4 W → RowIt W (.slice av m capv) m ((x1 ++ x2).flatMap encIt)) := Lib.hid (fun W hm => by have := (HN4.out.mod hm (fun _ _ x => x)).2.1; rw [← HM.out] at this; exact this)
      have HBO := Lib.hid hbo; have HRO := Lib.hid hro; have HGO := Lib.hid hgo
      have BB : Hid (W4.heap[b]? = some (.cells #[.slice av m capv, .slice (some ⟨gu, 0, none⟩) n cu] 190 (0, 0))) := Lib.hid HN4.out.1
      clear hbo hro hgo c1 f1 z0 z1 zf0 zf1
      go_wp2_with fail
      go_cut [] (fun wx => ∃ c' cap', NodeAt wx b (.slice (some ⟨c', 0, none⟩) (m + 1) cap') (x1 ++ up :: x2) (.slice (some ⟨gu, 0, none⟩) n cu) bs ∧ (nodeL b (.slice (some ⟨c', 0, none⟩) (m + 1) cap') (.slice (some ⟨gu, 0, none⟩) n cu)).Nodup ∧
        Turn (nodeL b (.slice av m capv) (.slice (some ⟨gu, 0, none⟩) n cu)) W4 wx (nodeL b (.slice (some ⟨c', 0, none⟩) (m + 1) cap') (.slice (some ⟨gu, 0, none⟩) n cu)) ∧
        wx.heap[r]? = some (.cells #[.string ⟨#[]⟩, .string ⟨#[]⟩] 73 (0, 0)) ∧ r ∉ nodeL b (.slice (some ⟨c', 0, none⟩) (m + 1) cap') (.slice (some ⟨gu, 0, none⟩) n cu))
      case first =>
        go_region_law ((go_simp; go_at_call 209; go_loud (refine (insIt (v := .slice av m capv) (n := m) (i := x1.length) (g := W4.heap.size) (news := encIt up) (HROW.out _ (by repeat (first | exact Mod.refl _ _ | refine Mod.alloc ?_ _ | refine Mod.drew ?_))) (flat_one (fun _ _ hu => oneIt hu)) hxm (by omega) (by exact heap_alloc_new _ _) rfl (fun _ hu => oneIt hu) HGO.out).mono ?_; rintro e w4 ⟨c', cap', rfl, hr, hm, hc⟩; have kb := heap_keep2 BB.out hm (by repeat (first | exact Mod.refl _ _ | refine Mod.alloc ?_ _ | refine Mod.drew ?_)) HBO.out; have kr := heap_keep2 HRR.out hm (by repeat (first | exact Mod.refl _ _ | refine Mod.alloc ?_ _ | refine Mod.drew ?_)) HRO.out; have k0 : w4.cell? ⟨b, 0, none⟩ = some (.slice av m capv) := cell_of kb 0 rfl; have kf := frozen_of kb 0; have KR := Lib.hid kr; have HR := Lib.hid hr; have HMW := Lib.hid (then2 (Mod.refl NoB W4) hm (by repeat (first | exact Mod.refl _ _ | refine Mod.alloc ?_ _ | refine Mod.drew ?_))); have HC := Lib.hid (c_new (w3 := W4) hc (by repeat (first | exact Mod.refl _ _ | refine Mod.alloc ?_ _ | refine Mod.drew ?_))); clear hr hm hc kb kr)))
        all_goals
          go_wp2_with fail
          go_meet
          obtain ⟨cap2, rfl, q⟩ := cut8_items (xs' := x1 ++ up :: x2) HN4.out HND.out HMW.out (by have := HR.out; rw [ins_flat] at this; exact this) (by rw [HM.out]; simp; omega) HC.out RN.out hrw KR.out
          exact ⟨c', _, q⟩
      case rest =>
        obtain ⟨c', cap', q1, q2, q3, q4, q5⟩ := hcut
        obtain ⟨W7, rfl⟩ : ∃ W7 : World, W7 = wc := ⟨_, rfl⟩
        have c1 : W7.cell? ⟨b, 1, none⟩ = some (.slice (some ⟨gu, 0, none⟩) n cu) := cell_of q1.1 1 rfl
        have hgu : gu ≠ b := fun e => by
          have := q2
          simp only [nodeL, List.nodup_cons, List.mem_append, not_or] at this
          exact this.1.2 (by simp [ownL, Value.ownBlock, e])
        have hru : r ≠ gu := fun e => q5 (by simp [nodeL, ownL, Value.ownBlock, e])
        have hgw : gu < W7.heap.size := q1.lts gu (by simp [nodeL, ownL, Value.ownBlock])
        have hbw7 : b < W7.heap.size := q1.lts b (by simp [nodeL])
        have hrw7 : r < W7.heap.size := (Array.getElem?_eq_some_iff.1 q4).1
        have hins := fun (W : World) (hm : Mod NoB W7 W) (hg : W.heap[W7.heap.size]? = some (.cells #[.pointer (some ⟨c2, 0, none⟩)] 185 (0, 0))) =>
          insNd (v := .slice (some ⟨gu, 0, none⟩) n cu) (i := x1.length + 1) (g := W7.heap.size) (news := encNd c2) (by have := (q1.mod hm (fun _ _ x => x)).2.2; rw [← HN.out] at this; exact this) (flat_one (fun _ _ hu => oneNd hu)) (by omega) (by have := HBL.out; have := HN.out; have := HM.out; omega) hg rfl (fun _ hu => oneNd hu) (by simp [ownL, Value.ownBlock]; omega)
        have ecast : (((x1.length + 1 : Nat)) : Int) = (x1.length : Int) + 1 := by omega
        simp only [ecast] at hins
        have Q1 := Lib.hid q1; have Q2 := Lib.hid q2; have Q3 := Lib.hid q3; have Q4 := Lib.hid q4; have Q5 := Lib.hid q5; have HINS := Lib.hid hins
        clear q1 q2 q3 q4 q5 hins ecast c0 f0 c0a hbg HROW HBO HRO HGO BB u0 u1
        go_upto_region 7 with (fail)
        go_cut [] (fun wx => ∃ gu' cu', NodeAt wx b (.slice (some ⟨c', 0, none⟩) (m + 1) cap') (x1 ++ up :: x2) (.slice (some ⟨gu', 0, none⟩) (n + 1) cu') (bA ++ c :: c2 :: bB) ∧ (nodeL b (.slice (some ⟨c', 0, none⟩) (m + 1) cap') (.slice (some ⟨gu', 0, none⟩) (n + 1) cu')).Nodup ∧
          Turn (nodeL b (.slice av m capv) (.slice (some ⟨gu, 0, none⟩) n cu)) W4 wx (nodeL b (.slice (some ⟨c', 0, none⟩) (m + 1) cap') (.slice (some ⟨gu', 0, none⟩) (n + 1) cu')) ∧
          wx.heap[r]? = some (.cells #[.string ⟨#[]⟩, .string ⟨#[]⟩] 73 (0, 0)) ∧ r ∉ nodeL b (.slice (some ⟨c', 0, none⟩) (m + 1) cap') (.slice (some ⟨gu', 0, none⟩) (n + 1) cu'))
        case first =>
          go_wp2_with fail
          refine (HINS.out _ ((Mod.refl _ _).alloc _) (heap_alloc_new W7 _)).mono ?_
          rintro e w8 ⟨g8, cap8, rfl, hr, hm, hc⟩
          have hgo : ∀ k ∈ ownL (.slice (some ⟨gu, 0, none⟩) n cu), k = gu := fun k hk => by simpa [ownL, Value.ownBlock] using hk
          have hm78 : Mod (· ∈ ownL (.slice (some ⟨gu, 0, none⟩) n cu)) W7 w8 := ((Mod.refl _ W7).alloc _).then hm (fun _ _ x => x)
          have kb := heap_keep Q1.out.1 (Mod.refl NoB _) hm78 (fun x => x) (fun e => hgu (hgo _ e).symm)
          have kr := heap_keep Q4.out (Mod.refl NoB _) hm78 (fun x => x) (fun e => hru (hgo _ e))
          have k1 : w8.cell? ⟨b, 1, none⟩ = some (.slice (some ⟨gu, 0, none⟩) n cu) := cell_of kb 1 rfl
          have kf := frozen_of kb 1
          have hrow : RowNd w8 (.slice (some ⟨g8, 0, none⟩) (n + 1) cap8) (bA ++ c :: c2 :: bB).length ((bA ++ c :: c2 :: bB).flatMap encNd) := by
            have e1 : bs = (bA ++ [c]) ++ bB := by rw [HBS.out]; simp
            have e2 := ins_flatNd (bA ++ [c]) bB c2
            have e3 : (bA ++ [c]).length = x1.length + 1 := by simp [HBA.out]
            rw [e3, ← e1] at e2
            rw [e2] at hr
            have e4 : bA ++ [c] ++ c2 :: bB = bA ++ c :: c2 :: bB := by simp
            rw [e4] at hr
            have e5 : (bA ++ c :: c2 :: bB).length = n + 1 := by rw [HN.out, HBS.out]; simp; omega
            rw [e5]
            exact hr
          have hnew : ∀ k ∈ ownL (.slice (some ⟨g8, 0, none⟩) (n + 1) cap8), k ∈ ownL (.slice (some ⟨gu, 0, none⟩) n cu) ∨ W7.heap.size ≤ k := fun k hk => by
            simp [ownL, Value.ownBlock] at hk
            subst hk
            exact hc.imp id (fun h => Nat.le_of_succ_le (by simpa using h))
          have HB := Lib.hid (node_below Q1.out Q2.out hm78 hrow hnew); have KR := Lib.hid kr; have HNEW := Lib.hid hnew
          clear hr hm hc hgo hm78 kb kr hrow hnew
          go_wp2_with fail
          go_meet
          obtain ⟨z1, z2, z3⟩ := HB.out
          refine ⟨g8, cap8, z1, z2, Q3.out.trans z3, ?_, fun e => ?_⟩
          · rw [heap_set_other hrb]; exact KR.out
          · have h5 := Q5.out
            simp only [nodeL, List.mem_cons, List.mem_append, not_or] at e h5
            rcases e with h | h | h
            · exact h5.1 h
            · exact h5.2.1 h
            · rcases HNEW.out _ h with h | h
              · exact h5.2.2 h
              · omega
        case rest =>
          obtain ⟨gu', cu', q1, q2, q3, q4, q5⟩ := hcut
          obtain ⟨W9, rfl⟩ : ∃ W9 : World, W9 = wc := ⟨_, rfl⟩
          clear HINS Q1 Q2 Q3 Q4 Q5 c1 hgu hru hgw hbw7 hrw7
          have e0 : W9.cell? ⟨b, 0, none⟩ = some (.slice (some ⟨c', 0, none⟩) (m + 1) cap') := cell_of q1.1 0 rfl
          have e1 : W9.cell? ⟨b, 1, none⟩ = some (.slice (some ⟨gu', 0, none⟩) (n + 1) cu') := cell_of q1.1 1 rfl
          have ef0 := frozen_of q1.1 0
          have ef1 := frozen_of q1.1 1
          have z0 : W9.cell? ⟨r, 0, none⟩ = some (.string ⟨#[]⟩) := cell_of q4 0 rfl
          have z1 : W9.cell? ⟨r, 1, none⟩ = some (.string ⟨#[]⟩) := cell_of q4 1 rfl
          have zf0 := frozen_of q4 0
          have zf1 := frozen_of q4 1
          have hbw9 : b < W9.heap.size := q1.lts b (by simp [nodeL])
          have hrw9 : r < W9.heap.size := (Array.getElem?_eq_some_iff.1 q4).1
          have Q1 := Lib.hid q1; have Q2 := Lib.hid q2; have Q3 := Lib.hid q3; have Q4 := Lib.hid q4; have Q5 := Lib.hid q5
          by_cases h6 : m + 1 ≤ 6
          · clear q1 q2 q3 q4 q5
            go_wp2_with fail
            have hmr : Mod (· = r) W9 _ := Mod.setCell (S := (· = r)) (Mod.setCell (S := (· = r)) (Mod.refl _ W9) (p := ⟨r, 0, none⟩) (by intro _; rfl) (.string ⟨#[]⟩)) (p := ⟨r, 1, none⟩) (by intro _; rfl) (.string ⟨#[]⟩)
            refine bodyPost_ret (v := .tuple #[.agg #[.string ⟨#[]⟩, .string ⟨#[]⟩], .pointer none]) (by simp [results, Tryz.results190, go_sem, *]) rfl ⟨up, _, LX, W4, r, HP.out, ?_, R1.out, R2.out, R3.out, (Q3.out.1.mono (fun _ _ x => .inl x)).trans (hmr.mono (fun _ _ e => .inr e)), .inr (.inl ⟨c2, _, _, rfl, rfl, ?_, Q1.out.mod hmr (fun k hk e => Q5.out (e ▸ hk)), Q2.out, Q3.out.2⟩)⟩
            · rw [← HBS.out]; exact HN4.out
            · have := HM.out; simp at this ⊢; omega
          · have hm7a : 7 ≤ m + 1 := by omega
            have hm7b : m + 1 ≤ 7 := by omega
            obtain ⟨M, hMM⟩ : ∃ M, M = m + 1 := ⟨_, rfl⟩
            obtain ⟨N, hNN⟩ : ∃ N, N = n + 1 := ⟨_, rfl⟩
            have hlen : (x1 ++ up :: x2).length = M := by rw [hMM, HM.out]; simp; omega
            have hlenb : (bA ++ c :: c2 :: bB).length = N := by rw [hNN, HN.out, HBS.out]; simp; omega
            have hN8 : 8 ≤ N ∧ N ≤ 8 := by have := HBL.out; have := HN.out; have := HM.out; omega
            obtain ⟨hN8a, hN8b⟩ := hN8
            rw [← hMM] at q1 q2 q3 q5 e0 hm7a hm7b Q1 Q2 Q3 Q5
            rw [← hNN] at q1 q2 q3 q5 e1 Q1 Q2 Q3 Q5
            obtain ⟨xl, up2, xr, hxs, hxl3, hxr3⟩ : ∃ xl up2 xr, x1 ++ up :: x2 = xl ++ up2 :: xr ∧ xl.length = 3 ∧ xr.length = 3 := by
              refine ⟨(x1 ++ up :: x2).take 3, (x1 ++ up :: x2)[3]'(by omega), (x1 ++ up :: x2).drop 4, ?_, by rw [List.length_take]; omega, by rw [List.length_drop]; omega⟩
              rw [List.getElem_cons_drop, List.take_append_drop]
            obtain ⟨bl, br, hbsp, hbl4, hbr4⟩ : ∃ bl br, bA ++ c :: c2 :: bB = bl ++ br ∧ bl.length = 4 ∧ br.length = 4 :=
              ⟨(bA ++ c :: c2 :: bB).take 4, (bA ++ c :: c2 :: bB).drop 4, (List.take_append_drop _ _).symm, by rw [List.length_take]; omega, by rw [List.length_drop]; omega⟩
            obtain ⟨y0, cur, y1, y2, y3, y4, y5⟩ := ownsRow_block q1.2.1
            obtain ⟨y0', cur', y1', y2', y3', y4', y5'⟩ := ownsRow_block q1.2.2
            have hcap : M ≤ cap' := by rw [← hlen]; exact y2
            have hcapm : cap' ≤ 9223372036854775807 := by unfold maxLen at y3; omega
            have hc4 : ¬ cap' = 4 := by omega
            have hc3 : ¬ cap' = 3 := by omega
            have hcapu : N ≤ cu' := by rw [← hlenb]; exact y2'
            have hcapum : cu' ≤ 9223372036854775807 := by unfold maxLen at y3'; omega
            have hcu4 : ¬ cu' = 4 := by omega
            have cellAt : ∀ j y, (encIt up2)[j]? = some y → W9.cell? ⟨c', 6 + j, none⟩ = some y := by
              intro j y hy
              have := q1.2.1.cells (g := c') rfl (xl.length * 2 + j) y (flat_cell (k := 2) (enc := encIt) (fun _ => rfl) _ xl.length up2 (by rw [hxs]; simp) j y hy)
              rw [hxl3] at this
              rwa [addr_lit, Nat.zero_add] at this
            have u0 : W9.cell? ⟨c', 6, none⟩ = some (.string up2.1) := cellAt 0 _ rfl
            have u1 : W9.cell? ⟨c', 7, none⟩ = some (.string up2.2) := cellAt 1 _ rfl
            have hNLF := Lib.hid (show ∀ S X, Mod S W9 X → (∀ k ∈ nodeL b (.slice (some ⟨c', 0, none⟩) M cap') (.slice (some ⟨gu', 0, none⟩) N cu'), ¬ S k) → Calls Tryz.prog 148 #[.pointer (some ⟨b, 0, none⟩)] X fun e w' => e = .returned (.bool false) ∧ w' = X from fun S X hm hs => by
              have := leaf_node (q1.mod hm hs)
              have e : decide ((bA ++ c :: c2 :: bB).length = 0) = false := by rw [hlenb]; simp; omega
              rw [e] at this
              exact this)
            have hcb : c' ≠ b ∧ gu' ≠ b := by
              have := q2
              simp only [nodeL, List.nodup_cons, List.mem_append, not_or] at this
              exact ⟨fun e => this.1.1 (by simp [ownL, Value.ownBlock, e]), fun e => this.1.2 (by simp [ownL, Value.ownBlock, e])⟩
            obtain ⟨hcb1, hcb2⟩ := hcb
            have hcw : c' < W9.heap.size := (Array.getElem?_eq_some_iff.1 y1).1
            have hguw : gu' < W9.heap.size := (Array.getElem?_eq_some_iff.1 y1').1
            have hreadI : ∀ X, Mod (fun k => k = b ∨ W9.heap.size ≤ k) W9 X → ∀ o cs n2 cp, (∀ j y, cs[j]? = some y → ((x1 ++ up :: x2).flatMap encIt)[o + j]? = some y) → Read X (.slice (some ⟨c', o, none⟩) n2 cp) n2 cs := fun X hm o cs n2 cp hcs => by
              refine .inr ⟨_, _, rfl, fun j y hy => ?_⟩
              have h0 := q1.2.1.cells (g := c') rfl (o + j) y (hcs j y hy)
              rw [addr_lit] at h0 ⊢
              rw [Nat.zero_add] at h0
              rw [hm.cell (cell_lt' h0) (fun e => e.elim (fun e => hcb1 e) (fun e => absurd hcw (Nat.not_lt.2 e)))]
              exact h0
            have hreadN : ∀ X, Mod (fun k => k = b ∨ W9.heap.size ≤ k) W9 X → ∀ o cs n2 cp, (∀ j y, cs[j]? = some y → ((bA ++ c :: c2 :: bB).flatMap encNd)[o + j]? = some y) → Read X (.slice (some ⟨gu', o, none⟩) n2 cp) n2 cs := fun X hm o cs n2 cp hcs => by
              refine .inr ⟨_, _, rfl, fun j y hy => ?_⟩
              have h0 := q1.2.2.cells (g := gu') rfl (o + j) y (hcs j y hy)
              rw [addr_lit] at h0 ⊢
              rw [Nat.zero_add] at h0
              rw [hm.cell (cell_lt' h0) (fun e => e.elim (fun e => hcb2 e) (fun e => absurd hguw (Nat.not_lt.2 e)))]
              exact h0
            have HRI := Lib.hid hreadI; have HRN := Lib.hid hreadN
            have HXS := Lib.hid hxs; have HX3 := Lib.hid hxl3; have HR3 := Lib.hid hxr3; have HBSP := Lib.hid hbsp; have HBL4 := Lib.hid hbl4; have HBR4 := Lib.hid hbr4; have HMM := Lib.hid hMM; have HNN := Lib.hid hNN
            clear q1 q2 q3 q4 q5 hxs hxl3 hxr3 hbsp hbl4 hbr4 y0 y1 y2 y3 y4 y5 y0' y1' y2' y3' y4' y5' cellAt hreadI hreadN hlen hlenb h6 hMM hNN z0 z1 zf0 zf1
            go_wp2_with fail
            refine (cloneIt (cs := xr.flatMap encIt) (HRI.out _ ((Mod.refl _ _).alloc _) 8 _ _ _ (fun j y hy => by
              rw [HXS.out, show xl ++ up2 :: xr = (xl ++ [up2]) ++ xr by simp, List.flatMap_append, List.getElem?_append_right (by rw [flat_length (k := 2) (fun _ => rfl)]; simp [HX3.out]), flat_length (k := 2) (fun _ => rfl)]
              simp only [List.length_append, HX3.out, List.length_cons, List.length_nil]
              rw [show 8 + j - (3 + (0 + 1)) * 2 = j by omega]
              exact hy)) (by rw [flat_length (k := 2) (fun _ => rfl), HR3.out, show M - 4 = 3 by omega]) (flat_one (fun _ _ hu => oneIt hu)) (by omega)).mono ?_
            rintro e w6 ⟨vr, rfl, hr1, hm1, hn1⟩
            rcases ownsRow_form hr1 with ⟨_, h0⟩ | ⟨gr, capr, rfl⟩
            · omega
            have hm16 : Mod NoB W9 w6 := ((Mod.refl NoB W9).alloc (.cells #[.string up2.1, .string up2.2] 73)).trans hm1
            have hs6 := hm1.size
            simp at hs6
            have iu : w6.heap[W9.heap.size]? = some (.cells #[.string up2.1, .string up2.2] 73 (0, 0)) := heap_keep (heap_alloc_new W9 _) (Mod.refl NoB _) hm1 (fun x => x) (fun x => x)
            have i1 : w6.cell? ⟨b, 1, none⟩ = some (.slice (some ⟨gu', 0, none⟩) N cu') := hm16.cellS e1
            have hgr : W9.heap.size + 1 ≤ gr ∧ gr < w6.heap.size := ⟨by have := hn1 gr (by simp [ownL, Value.ownBlock]); simpa using this, own_lt hr1 gr (by simp [ownL, Value.ownBlock])⟩
            have hb6 : b < w6.heap.size := by omega
            have hr6 : r < w6.heap.size := by omega
            have M16 := Lib.hid hm16; have IU := Lib.hid iu; have HR1 := Lib.hid hr1; have HGR := Lib.hid hgr
            clear hm16 iu hr1 hm1 hn1 hgr e0 e1 ef0 ef1 u0 u1
            have hbn6 : b ≠ w6.heap.size := by omega
            go_wp2_with fail
            refine (hNLF.out NoB _ (M16.out.trans ((Mod.refl NoB w6).alloc _)) (fun _ _ x => x)).mono ?_
            rintro e w7 ⟨rfl, hw7⟩
            rw [hw7]
            clear hw7
            go_wp2_with fail
            obtain ⟨C, hC⟩ : ∃ C, C = w6.heap.size := ⟨_, rfl⟩
            rw [← hC]
            have hCw : W9.heap.size + 2 ≤ C := by have := HGR.out; omega
            have hmA : Mod (fun k => k = b ∨ W9.heap.size ≤ k) W9 (w6.alloc (.cells #[.slice (some ⟨gr, 0, none⟩) (M - 4) capr, .slice none 0 0] 190)) := (M16.out.mono (fun _ _ x => x.elim)).alloc _
            refine (cloneNd (cs := br.flatMap encNd) (HRN.out _ hmA 4 _ _ _ (fun j y hy => by
              rw [HBSP.out, List.flatMap_append, List.getElem?_append_right (by rw [flat_length (k := 1) (fun _ => rfl), HBL4.out]; omega), flat_length (k := 1) (fun _ => rfl), HBL4.out, show 4 + j - 4 * 1 = j by omega]
              exact hy)) (by rw [flat_length (k := 1) (fun _ => rfl), HBR4.out, show N - 4 = 4 by omega]) (flat_one (fun _ _ hu => oneNd hu)) (by omega)).mono ?_
            rintro e wB ⟨vrN, rfl, hr2, hm2, hn2⟩
            rcases ownsRow_form hr2 with ⟨_, h0⟩ | ⟨gn, capn, rfl⟩
            · omega
            have hgn : C + 1 ≤ gn ∧ gn < wB.heap.size := ⟨by have := hn2 gn (by simp [ownL, Value.ownBlock]); simpa [hC] using this, own_lt hr2 gn (by simp [ownL, Value.ownBlock])⟩
            have hmB : Mod NoB w6 wB := ((Mod.refl NoB w6).alloc _).trans hm2
            have kC : wB.heap[C]? = some (.cells #[.slice (some ⟨gr, 0, none⟩) (M - 4) capr, .slice none 0 0] 190 (0, 0)) := by
              have := heap_keep (heap_alloc_new w6 (.cells #[.slice (some ⟨gr, 0, none⟩) (M - 4) capr, .slice none 0 0] 190)) (Mod.refl NoB _) hm2 (fun x => x) (fun x => x)
              rw [hC]; exact this
            have jc1 : wB.cell? ⟨C, 1, none⟩ = some (.slice none 0 0) := cell_of kC 1 rfl
            have jcf := frozen_of kC 1
            have j1 : wB.cell? ⟨b, 1, none⟩ = some (.slice (some ⟨gu', 0, none⟩) N cu') := hmB.cellS i1
            have hbC : b ≠ C := by omega
            have hmB2 : Mod (fun k => k = b ∨ W9.heap.size ≤ k) W9 wB := (M16.out.trans hmB).mono (fun _ _ x => x.elim)
            have hmB3 : Mod (fun k => k = b ∨ W9.heap.size ≤ k) W9 (wB.setCell ⟨C, 1, none⟩ (.slice (some ⟨gn, 0, none⟩) (N - 4) capn)) := hmB2.setCell (fun h => absurd h (by show ¬ C < _; omega)) _
            have kC2 : (wB.setCell ⟨C, 1, none⟩ (.slice (some ⟨gn, 0, none⟩) (N - 4) capn)).heap[C]? = some (.cells #[.slice (some ⟨gr, 0, none⟩) (M - 4) capr, .slice (some ⟨gn, 0, none⟩) (N - 4) capn] 190 (0, 0)) := by
              have := heap_set kC 1 (.slice (some ⟨gn, 0, none⟩) (N - 4) capn)
              simpa using this
            have hrN : RowNd (wB.setCell ⟨C, 1, none⟩ (.slice (some ⟨gn, 0, none⟩) (N - 4) capn)) (.slice (some ⟨gn, 0, none⟩) (N - 4) capn) (N - 4) (br.flatMap encNd) := own_mod' (S := (· = C)) hr2 (Mod.setCell (S := (· = C)) (Mod.refl _ _) (by intro _; rfl) _) (fun k hk e => by simp [ownL, Value.ownBlock] at hk; omega)
            have kU2 : (wB.setCell ⟨C, 1, none⟩ (.slice (some ⟨gn, 0, none⟩) (N - 4) capn)).heap[W9.heap.size]? = some (.cells #[.string up2.1, .string up2.2] 73 (0, 0)) := by
              rw [heap_set_other (by omega)]
              exact heap_keep IU.out (Mod.refl NoB _) hmB (fun x => x) (fun x => x)
            have hrI : RowIt (wB.setCell ⟨C, 1, none⟩ (.slice (some ⟨gn, 0, none⟩) (N - 4) capn)) (.slice (some ⟨gr, 0, none⟩) (M - 4) capr) (M - 4) (xr.flatMap encIt) := own_mod' (S := (· = C)) (own_mod' HR1.out hmB (fun _ _ x => x)) (Mod.setCell (S := (· = C)) (Mod.refl _ _) (by intro _; rfl) _) (fun k hk e => by simp [ownL, Value.ownBlock] at hk; have := HGR.out; omega)
            have kB : (wB.setCell ⟨C, 1, none⟩ (.slice (some ⟨gn, 0, none⟩) (N - 4) capn)).heap[b]? = some (.cells #[.slice (some ⟨c', 0, none⟩) M cap', .slice (some ⟨gu', 0, none⟩) N cu'] 190 (0, 0)) := by
              rw [heap_set_other hbC]
              exact heap_keep Q1.out.1 M16.out hmB (fun x => x) (fun x => x)
            have kR : (wB.setCell ⟨C, 1, none⟩ (.slice (some ⟨gn, 0, none⟩) (N - 4) capn)).heap[r]? = some (.cells #[.string ⟨#[]⟩, .string ⟨#[]⟩] 73 (0, 0)) := by
              rw [heap_set_other (by omega)]
              exact heap_keep Q4.out M16.out hmB (fun x => x) (fun x => x)
            have KB := Lib.hid kB; have KR := Lib.hid kR
            clear kB kR
            have HGN := Lib.hid hgn; have MB3 := Lib.hid hmB3; have KC2 := Lib.hid kC2; have HRN2 := Lib.hid hrN; have KU2 := Lib.hid kU2; have HRI2 := Lib.hid hrI; have HC := Lib.hid hC
            have hsB : C + 2 ≤ wB.heap.size := by omega
            clear hr2 hn2 hm2 hmB hmB2 hmB3 kC kC2 hrN kU2 hrI hgn hmA hC i1
            go_wp2_with fail
            obtain ⟨wC, hwC⟩ : ∃ wC, wC = wB.setCell ⟨C, 1, none⟩ (.slice (some ⟨gn, 0, none⟩) (N - 4) capn) := ⟨_, rfl⟩
            rw [← hwC] at MB3 KC2 HRN2 KU2 HRI2 KB KR ⊢
            have hsC : wC.heap.size = wB.heap.size := by rw [hwC]; simp [World.setCell]
            clear hwC jc1 jcf j1
            refine (cloneNd (cs := bl.flatMap encNd) (HRN.out _ MB3.out 0 _ _ _ (fun j y hy => by
              rw [HBSP.out, List.flatMap_append, Nat.zero_add, List.getElem?_append_left (List.getElem?_eq_some_iff.1 hy).1]
              exact hy)) (by rw [flat_length (k := 1) (fun _ => rfl), HBL4.out]) (flat_one (fun _ _ hu => oneNd hu)) (by omega)).mono ?_
            rintro e wD ⟨vlN, rfl, hr3, hm3, hn3⟩
            rcases ownsRow_form hr3 with ⟨_, h0⟩ | ⟨gm, capm2, rfl⟩
            · omega
            have hgm : wB.heap.size ≤ gm ∧ gm < wD.heap.size := ⟨by have := hn3 gm (by simp [ownL, Value.ownBlock]); omega, own_lt hr3 gm (by simp [ownL, Value.ownBlock])⟩
            have hmD : Mod (fun k => k = b ∨ W9.heap.size ≤ k) W9 wD := MB3.out.trans (hm3.mono (fun _ _ x => x.elim))
            have hbD := heap_keep KB.out (Mod.refl NoB _) hm3 (fun x => x) (fun x => x)
            have j1 : wD.cell? ⟨b, 1, none⟩ = some (.slice (some ⟨gu', 0, none⟩) N cu') := cell_of hbD 1 rfl
            have j0 : wD.cell? ⟨b, 0, none⟩ = some (.slice (some ⟨c', 0, none⟩) M cap') := cell_of hbD 0 rfl
            have jf1 := frozen_of hbD 1
            have hbE : (wD.setCell ⟨b, 1, none⟩ (.slice (some ⟨gm, 0, none⟩) 4 capm2)).heap[b]? = some (.cells #[.slice (some ⟨c', 0, none⟩) M cap', .slice (some ⟨gm, 0, none⟩) 4 capm2] 190 (0, 0)) := by
              have := heap_set hbD 1 (.slice (some ⟨gm, 0, none⟩) 4 capm2)
              simpa using this
            have hmE : Mod (fun k => k = b ∨ W9.heap.size ≤ k) W9 (wD.setCell ⟨b, 1, none⟩ (.slice (some ⟨gm, 0, none⟩) 4 capm2)) := hmD.setCell (fun _ => .inl rfl) _
            have hbM : Mod (· = b) wD (wD.setCell ⟨b, 1, none⟩ (.slice (some ⟨gm, 0, none⟩) 4 capm2)) := Mod.setCell (S := (· = b)) (Mod.refl _ _) (by intro _; rfl) _
            have hmCE : Mod (· = b) wC (wD.setCell ⟨b, 1, none⟩ (.slice (some ⟨gm, 0, none⟩) 4 capm2)) := (hm3.mono (fun _ _ x => x.elim)).trans hbM
            have kCE := heap_keep KC2.out (Mod.refl NoB _) hmCE (fun x => x) (fun e => hbC e.symm)
            have kRE := heap_keep KR.out (Mod.refl NoB _) hmCE (fun x => x) hrb
            have kUE := heap_keep KU2.out (Mod.refl NoB _) hmCE (fun x => x) (by omega)
            have rNE := own_mod' HRN2.out hmCE (fun k hk e => by simp [ownL, Value.ownBlock] at hk; have := HGN.out; omega)
            have rIE := own_mod' HRI2.out hmCE (fun k hk e => by simp [ownL, Value.ownBlock] at hk; have := HGR.out; omega)
            have rME : RowNd (wD.setCell ⟨b, 1, none⟩ (.slice (some ⟨gm, 0, none⟩) 4 capm2)) (.slice (some ⟨gm, 0, none⟩) 4 capm2) 4 (bl.flatMap encNd) := own_mod' hr3 hbM (fun k hk e => by simp [ownL, Value.ownBlock] at hk; omega)
            have BE := Lib.hid hbE; have ME := Lib.hid hmE; have KCE := Lib.hid kCE; have KRE := Lib.hid kRE; have KUE := Lib.hid kUE; have RNE := Lib.hid rNE; have RIE := Lib.hid rIE; have RME := Lib.hid rME; have HGM := Lib.hid hgm
            clear hr3 hm3 hn3 hmD hbD hbE hmE hbM hmCE kCE kRE kUE rNE rIE rME hgm KB KR KC2 HRN2 KU2 HRI2 MB3
            go_wp2_with fail
            obtain ⟨wE, hwE⟩ : ∃ wE, wE = wD.setCell ⟨b, 1, none⟩ (.slice (some ⟨gm, 0, none⟩) 4 capm2) := ⟨_, rfl⟩
            rw [← hwE] at BE ME KCE KRE KUE RNE RIE RME ⊢
            have hsE : wE.heap.size = wD.heap.size := by rw [hwE]; simp [World.setCell]
            clear hwE j1 j0 jf1
            refine (cloneIt (cs := xl.flatMap encIt) (HRI.out _ ME.out 0 _ _ _ (fun j y hy => by
              rw [HXS.out, List.flatMap_append, Nat.zero_add, List.getElem?_append_left (List.getElem?_eq_some_iff.1 hy).1]
              exact hy)) (by rw [flat_length (k := 2) (fun _ => rfl), HX3.out]) (flat_one (fun _ _ hu => oneIt hu)) (by omega)).mono ?_
            rintro e wF ⟨vl, rfl, hr4, hm4, hn4⟩
            rcases ownsRow_form hr4 with ⟨_, h0⟩ | ⟨gl, capl, rfl⟩
            · omega
            have hgl : wD.heap.size ≤ gl := by have := hn4 gl (by simp [ownL, Value.ownBlock]); omega
            have kb := heap_keep BE.out (Mod.refl NoB _) hm4 (fun x => x) (fun x => x)
            have kr := heap_keep KRE.out (Mod.refl NoB _) hm4 (fun x => x) (fun x => x)
            have ku := heap_keep KUE.out (Mod.refl NoB _) hm4 (fun x => x) (fun x => x)
            have kc := heap_keep KCE.out (Mod.refl NoB _) hm4 (fun x => x) (fun x => x)
            have l0 : wF.cell? ⟨b, 0, none⟩ = some (.slice (some ⟨c', 0, none⟩) M cap') := cell_of kb 0 rfl
            have lf := frozen_of kb 0
            have lu0 : wF.cell? ⟨W9.heap.size, 0, none⟩ = some (.string up2.1) := cell_of ku 0 rfl
            have lu1 : wF.cell? ⟨W9.heap.size, 1, none⟩ = some (.string up2.2) := cell_of ku 1 rfl
            have lr0 : wF.cell? ⟨r, 0, none⟩ = some (.string ⟨#[]⟩) := cell_of kr 0 rfl
            have lr1 : wF.cell? ⟨r, 1, none⟩ = some (.string ⟨#[]⟩) := cell_of kr 1 rfl
            have lrf0 := frozen_of kr 0
            have lrf1 := frozen_of kr 1
            have hbU9 : b ≠ W9.heap.size := by omega
            have hrU9 : r ≠ W9.heap.size := by omega
            have KB := Lib.hid kb; have KC := Lib.hid kc; have HR4 := Lib.hid hr4; have HM4 := Lib.hid hm4; have HGL := Lib.hid hgl
            clear kb kr ku kc hr4 hm4 hn4 hgl
            go_wp2_with fail
            have hbG : (wF.setCell ⟨b, 0, none⟩ (.slice (some ⟨gl, 0, none⟩) 3 capl)).heap[b]? = some (.cells #[.slice (some ⟨gl, 0, none⟩) 3 capl, .slice (some ⟨gm, 0, none⟩) 4 capm2] 190 (0, 0)) := by
              have := heap_set KB.out 0 (.slice (some ⟨gl, 0, none⟩) 3 capl)
              simpa using this
            have hbb : Mod (· = b) wF (wF.setCell ⟨b, 0, none⟩ (.slice (some ⟨gl, 0, none⟩) 3 capl)) := Mod.setCell (S := (· = b)) (Mod.refl _ _) (by intro _; rfl) _
            have hq : Mod (· = r) (wF.setCell ⟨b, 0, none⟩ (.slice (some ⟨gl, 0, none⟩) 3 capl)) _ := Mod.setCell (S := (· = r)) (Mod.setCell (S := (· = r)) (Mod.refl _ _) (p := ⟨r, 0, none⟩) (by intro _; rfl) (.string up2.1)) (p := ⟨r, 1, none⟩) (by intro _; rfl) (.string up2.2)
            have hgn := HGN.out; have hgr := HGR.out; have hgm := HGM.out; have hgl := HGL.out; have hCC := HC.out
            have hEG : Mod (· = b) wE (wF.setCell ⟨b, 0, none⟩ (.slice (some ⟨gl, 0, none⟩) 3 capl)) := (HM4.out.mono (fun _ _ x => x.elim)).trans hbb
            have hN1 : NodeAt (wF.setCell ⟨b, 0, none⟩ (.slice (some ⟨gl, 0, none⟩) 3 capl)) b (.slice (some ⟨gl, 0, none⟩) 3 capl) xl (.slice (some ⟨gm, 0, none⟩) 4 capm2) bl :=
              ⟨hbG, by have := own_mod' HR4.out hbb (fun k hk e => by simp [ownL, Value.ownBlock] at hk; omega); rw [HX3.out]; exact this, by have := own_mod' RME.out hEG (fun k hk e => by simp [ownL, Value.ownBlock] at hk; omega); rw [HBL4.out]; exact this⟩
            have hN2 : NodeAt (wF.setCell ⟨b, 0, none⟩ (.slice (some ⟨gl, 0, none⟩) 3 capl)) C (.slice (some ⟨gr, 0, none⟩) (M - 4) capr) xr (.slice (some ⟨gn, 0, none⟩) (N - 4) capn) br :=
              ⟨heap_keep KC.out (Mod.refl NoB _) hbb (fun x => x) (fun e => hbC e.symm), by have := own_mod' RIE.out hEG (fun k hk e => by simp [ownL, Value.ownBlock] at hk; omega); rw [HR3.out]; rwa [show M - 4 = 3 by omega] at this ⊢, by have := own_mod' RNE.out hEG (fun k hk e => by simp [ownL, Value.ownBlock] at hk; omega); rw [HBR4.out]; rwa [show N - 4 = 4 by omega] at this ⊢⟩
            have hn1l : ∀ k ∈ nodeL b (.slice (some ⟨gl, 0, none⟩) 3 capl) (.slice (some ⟨gm, 0, none⟩) 4 capm2), k = b ∨ k = gl ∨ k = gm := fun k hk => by simpa [nodeL, ownL, Value.ownBlock] using hk
            have hn2l : ∀ k ∈ nodeL C (.slice (some ⟨gr, 0, none⟩) (M - 4) capr) (.slice (some ⟨gn, 0, none⟩) (N - 4) capn), k = C ∨ k = gr ∨ k = gn := fun k hk => by simpa [nodeL, ownL, Value.ownBlock] using hk
            have hs49 := Q3.out.1.size
            refine bodyPost_ret (v := .tuple #[.agg #[.string up2.1, .string up2.2], .pointer (some ⟨C, 0, none⟩)]) (by simp [results, Tryz.results190, go_sem, *]) rfl ⟨up, _, LX, W4, r, HP.out, ?_, R1.out, R2.out, R3.out, ?_, .inr (.inr ⟨c2, up2, xl, xr, C, _, _, _, _, bl, br, rfl, rfl, HXS.out, HX3.out, HR3.out, HBSP.out, HBL4.out, hN1.mod hq (fun k hk e => ?_), hN2.mod hq (fun k hk e => ?_), ?_, ?_⟩)⟩
            · rw [← HBS.out]; exact HN4.out
            · have h1 : Mod (fun k => k ∈ nodeL b (.slice av m capv) (.slice (some ⟨gu, 0, none⟩) n cu) ∨ k = r) W4 W9 := Q3.out.1.mono (fun _ _ x => .inl x)
              have h2 : Mod (fun k => k = b ∨ W9.heap.size ≤ k) W9 (wF.setCell ⟨b, 0, none⟩ (.slice (some ⟨gl, 0, none⟩) 3 capl)) := ME.out.trans (hEG.mono (fun _ _ e => .inl e))
              refine (h1.then h2 (fun k hk e => ?_)).then hq (fun k hk e => .inr e)
              rcases e with e | e
              · left; simp [nodeL, e]
              · omega
            · rcases hn1l k hk with h | h | h <;> omega
            · rcases hn2l k hk with h | h | h <;> omega
            · refine List.nodup_append.2 ⟨?_, ?_, fun x hx y hy e => ?_⟩
              · simp [nodeL, ownL, Value.ownBlock]; omega
              · simp [nodeL, ownL, Value.ownBlock]; omega
              · rcases hn1l x hx with h | h | h <;> rcases hn2l y hy with h' | h' | h' <;> omega
            · intro k hk
              rcases List.mem_append.1 hk with hk | hk
              · rcases hn1l k hk with h | h | h
                · left; simp [nodeL, h]
                · right; omega
                · right; omega
              · right
                rcases hn2l k hk with h | h | h <;> omega
end Go.Proofs.YtpcmbnbdppembaaGreatDoor

/- (*shelf.node).put at every depth. -/
namespace Go.Proofs.YtpcmbnbdppembaaGreatDoor
set_option linter.unusedSimpArgs false
set_option linter.unusedVariables false
open Go.RowKit Go.Shelf

theorem insS_node {x1 x2 : List Itm} {A B : List Tree} {t : Tree} {it : Itm} (h1 : A.length = x1.length) (h2 : B.length = x2.length) (hr : Rising (Tree.mk (x1 ++ x2) (A ++ t :: B)).its) (hl : AllLt x1 it.1) (hg : AllGt x2 it.1) :
    insS it (Tree.mk (x1 ++ x2) (A ++ t :: B)).its = preT x1 A ++ insS it t.its ++ postT x2 B := by
  obtain ⟨r1, r2, r3⟩ := around h1 h2 hr hl hg
  rw [its_focus h1 h2, insS_mid r1 r2]

theorem put_in_ok {d : Nat} (ih : NPutOK d) : NPutOK (d + 1) := by
  intro w b t L it ht ho hn hr hs hk hg
  obtain ⟨xs, ts⟩ := t
  have hok := ho
  unfold okT at ho
  obtain ⟨o1, o2, o3⟩ := ho
  obtain ⟨v, u, bs, Ls, h1, h2, hp⟩ := ht.open
  have hgx : getS it.1 xs = none := getS_none fun x hx => (get_none_any hg) x (hok.mem hx)
  obtain ⟨x1, x2, rfl, e2, e3, e4⟩ := plc_none (rising_xs hr) hgx
  have hlen : ts.length = x1.length + x2.length + 1 := by rw [o1, List.length_append]
  obtain ⟨A, tc, B, rfl, hA, hB⟩ : ∃ A tc B, ts = A ++ tc :: B ∧ A.length = x1.length ∧ B.length = x2.length := by
    refine ⟨ts.take x1.length, ts[x1.length]'(by omega), ts.drop (x1.length + 1), ?_, by rw [List.length_take]; omega, by rw [List.length_drop]; omega⟩
    rw [List.getElem_cons_drop, List.take_append_drop]
  obtain ⟨bA, c, bB, LA, Lc, LB, rfl, hbA, k1, k2, k3, kp⟩ := h2.mid
  obtain ⟨r1, r2, r3⟩ := around hA hB hr e3 e4
  have hcm : L.Perm (Lc ++ (nodeL b v u ++ (LA ++ LB))) := hp.trans ((kp.append_left _).trans (List.perm_append_comm_assoc _ _ _))
  have hnd := (hcm.nodup_iff).1 hn
  obtain ⟨n1, n2, n3⟩ := List.nodup_append.1 hnd
  obtain ⟨n4, n5, n6⟩ := List.nodup_append.1 n2
  have hLc := k2.lts
  have hdis : ∀ k ∈ Lc, k ∉ nodeL b v u := fun k hk e => n3 k hk k (List.mem_append_left _ e) rfl
  have hgc : getS it.1 tc.its = none := by
    rw [its_focus hA hB, getS_mid r1 r2] at hg
    exact hg
  have hsc : ∀ x ∈ tc.its, x.1.size ≤ 1000000 := fun x hx => hs x (by rw [its_focus hA hB]; simp [hx])
  have hins := insS_node hA hB hr e3 e4
  have hcall := nput_in (d := d) (tc := tc) (Lc := Lc) (bA := bA) (bB := bB) (c := c) it h1 n4 e2 o2 hk (fun x hx => hs x (hok.mem hx)) (by have := k1.len; have := k3.len; simp; omega) rfl (by rw [hbA, hA]) hdis hLc
    (fun W hm => ih W c tc Lc it (k2.mod hm (fun _ _ x => x)) (o3 tc (by simp)).1 n1 r3 hsc hk hgc)
  refine hcall.mono ?_
  rintro e w' ⟨up, q, LX, w4, r, hP, hN4, hr1, hr2, hr3, hm, hcase⟩
  -- the other children
  have hT := hP.1
  have hABlt : ∀ k ∈ LA ++ LB, k < w.heap.size := fun k hk => by
    rcases List.mem_append.1 hk with h | h
    · exact k1.lts k h
    · exact k3.lts k h
  have hABc : ∀ k ∈ LA ++ LB, k ∉ Lc := fun k hk e => n3 k e k (List.mem_append_right _ hk) rfl
  have hABn : ∀ k ∈ LA ++ LB, k ∉ nodeL b v u := fun k hk e => n6 k e k hk rfl
  have hABr : ∀ k ∈ LA ++ LB, k ≠ r := fun k hk e => by have := hABlt k hk; omega
  have hABX : ∀ k ∈ LA ++ LB, k ∉ LX := fun k hk e => by
    rcases hT.2 k e with h | h
    · exact hABc k hk h
    · have := hABlt k hk; omega
  have a1 : TreesP w' bA A LA := (k1.mod hT.1 (fun k hk => hABc k (List.mem_append_left _ hk))).mod hm (fun k hk e => e.elim (hABn k (List.mem_append_left _ hk)) (hABr k (List.mem_append_left _ hk)))
  have a3 : TreesP w' bB B LB := (k3.mod hT.1 (fun k hk => hABc k (List.mem_append_right _ hk))).mod hm (fun k hk e => e.elim (hABn k (List.mem_append_right _ hk)) (hABr k (List.mem_append_right _ hk)))
  have hXm : ∀ k ∈ LX, ¬ (k ∈ nodeL b v u ∨ k = r) := fun k hk e => e.elim (hr3 k hk) (fun e => hr1 (e ▸ hk))
  have hX4 : ∀ k ∈ LX, k < w4.heap.size := by
    rcases hP.2.2 with ⟨_, t', q1, _⟩ | ⟨c2, t1, t2, L1, L2, _, q1, q2, q3, _⟩
    · exact q1.lts
    · intro k hk
      rcases List.mem_append.1 (q3.mem_iff.1 hk) with h | h
      · exact q1.lts k h
      · exact q2.lts k h
  have hABnd : (LA ++ LB).Nodup := n5
  have hsz := hT.1.size
  -- what is turned
  have hMod : Mod (· ∈ L) w w' := by
    refine (hT.1.mono (fun k _ hk => hcm.mem_iff.2 (List.mem_append_left _ hk))).then hm (fun k hk e => ?_)
    rcases e with e | e
    · exact hcm.mem_iff.2 (List.mem_append_right _ (List.mem_append_left _ e))
    · omega
  -- the list of the blocks behind: the node's own (D), the child's (LX), the others'
  have final : ∀ D : List Nat, D.Nodup → (∀ k ∈ D, k ∈ nodeL b v u ∨ w4.heap.size ≤ k) → (D ++ (LX ++ (LA ++ LB))).Nodup ∧ Turn L w w' (D ++ (LX ++ (LA ++ LB))) := by
    intro D hD hDk
    refine ⟨List.nodup_append.2 ⟨hD, List.nodup_append.2 ⟨hP.2.1, hABnd, fun x hx y hy e => hABX y hy (e ▸ hx)⟩, fun x hx y hy e => ?_⟩, hMod, fun k hk => ?_⟩
    · subst e
      rcases List.mem_append.1 hy with hy | hy
      · rcases hDk x hx with h | h
        · exact hr3 x hy h
        · have := hX4 x hy; omega
      · rcases hDk x hx with h | h
        · exact hABn x hy h
        · have := hABlt x hy; omega
    · rcases List.mem_append.1 hk with hk | hk
      · rcases hDk k hk with h | h
        · exact .inl (hcm.mem_iff.2 (List.mem_append_right _ (List.mem_append_left _ h)))
        · right; omega
      · rcases List.mem_append.1 hk with hk | hk
        · rcases hT.2 k hk with h | h
          · exact .inl (hcm.mem_iff.2 (List.mem_append_left _ h))
          · exact .inr h
        · exact .inl (hcm.mem_iff.2 (List.mem_append_right _ (List.mem_append_right _ hk)))
  have hXp : ∀ {L1 L2 : List Nat}, LX.Perm (L1 ++ L2) → (LA ++ (L1 ++ (L2 ++ LB))).Perm (LX ++ (LA ++ LB)) := by
    intro L1 L2 hx
    have e1 : (LX ++ (LA ++ LB)).Perm (LA ++ (LX ++ LB)) := List.perm_append_comm_assoc _ _ _
    refine List.Perm.trans ?_ e1.symm
    refine List.Perm.append_left LA ?_
    rw [← List.append_assoc]
    exact (hx.append_right LB).symm
  rcases hcase with ⟨rfl, rfl, q1⟩ | ⟨c2, v', u', rfl, rfl, q1, q2, q3, q4⟩ | ⟨c2, up2, xl, xr, C, v1, v2, u1, u2, bl, br, rfl, rfl, q1, q2, q3, q4, q5, q6, q7, q8, q9⟩
  · -- the child has taken it
    rcases hP.2.2 with ⟨_, t', p1, p2, p3, p4⟩ | ⟨c2, _, _, _, _, hq, _⟩
    · obtain ⟨f1, f2⟩ := final (nodeL b v u) n4 (fun k hk => .inl hk)
      refine ⟨(⟨#[]⟩, ⟨#[]⟩), none, _, rfl, f2, f1, .inl ⟨rfl, .mk (x1 ++ x2) (A ++ t' :: B), treeP_of q1 (TreesP.of_mid a1 (p1.mod hm hXm) a3), ?_, ?_, Nat.le_refl _⟩⟩
      · rw [its_focus hA hB, hins, p2]
      · unfold okT
        refine ⟨by simpa using o1, o2, fun s hs => ?_⟩
        rcases List.mem_append.1 hs with hs | hs
        · exact o3 s (by simp [hs])
        · rcases List.mem_cons.1 hs with rfl | hs
          · exact ⟨p3, Nat.le_trans (o3 tc (by simp)).2 p4⟩
          · exact o3 s (by simp [hs])
    · cases hq
  · rcases hP.2.2 with ⟨hq, _⟩ | ⟨c3, t1, t2, L1, L2, hq, p1, p2, p3, p4, p5, p6, p7, p8⟩
    · cases hq
    simp only [Option.some.injEq, Addr.mk.injEq, and_true] at hq
    subst hq
    have m1 := p1.mod hm (fun k hk => hXm k (p3.mem_iff.2 (List.mem_append_left _ hk)))
    have m2 := p2.mod hm (fun k hk => hXm k (p3.mem_iff.2 (List.mem_append_right _ hk)))
    obtain ⟨f1, f2⟩ := final (nodeL b v' u') q3 q4
    have htr : TreesP w' (bA ++ c :: c2 :: bB) (A ++ t1 :: t2 :: B) (LX ++ (LA ++ LB)) := (TreesP.append a1 (TreesP.cons m1 (TreesP.cons m2 a3))).perm (hXp p3).symm
    refine ⟨(⟨#[]⟩, ⟨#[]⟩), none, _, rfl, f2, f1, .inl ⟨rfl, .mk (x1 ++ up :: x2) (A ++ t1 :: t2 :: B), treeP_of q2 htr, ?_, ?_, by simp⟩⟩
    · have e5 := its_focus (x1 := x1) (x2 := up :: x2) (A := A) (B := t2 :: B) (t := t1) hA (by simp [hB])
      rw [e5, hins, ← p4, postT_cons]
      simp
    · unfold okT
      refine ⟨by simp at o1 ⊢; omega, q1, fun s hs => ?_⟩
      rcases List.mem_append.1 hs with hs | hs
      · exact o3 s (by simp [hs])
      · rcases List.mem_cons.1 hs with rfl | hs
        · exact ⟨p5, p7⟩
        · rcases List.mem_cons.1 hs with rfl | hs
          · exact ⟨p6, p8⟩
          · exact o3 s (by simp [hs])
  · rcases hP.2.2 with ⟨hq, _⟩ | ⟨c3, t1, t2, L1, L2, hq, p1, p2, p3, p4, p5, p6, p7, p8⟩
    · cases hq
    simp only [Option.some.injEq, Addr.mk.injEq, and_true] at hq
    subst hq
    have m1 := p1.mod hm (fun k hk => hXm k (p3.mem_iff.2 (List.mem_append_left _ hk)))
    have m2 := p2.mod hm (fun k hk => hXm k (p3.mem_iff.2 (List.mem_append_right _ hk)))
    obtain ⟨f1, f2⟩ := final (nodeL b v1 u1 ++ nodeL C v2 u2) q8 q9
    have htr : TreesP w' (bA ++ c :: c2 :: bB) (A ++ t1 :: t2 :: B) (LX ++ (LA ++ LB)) := (TreesP.append a1 (TreesP.cons m1 (TreesP.cons m2 a3))).perm (hXp p3).symm
    have hall : ∀ s ∈ A ++ t1 :: t2 :: B, okT d s ∧ 3 ≤ s.xs.length := by
      intro s hs
      rcases List.mem_append.1 hs with hs | hs
      · exact o3 s (by simp [hs])
      · rcases List.mem_cons.1 hs with rfl | hs
        · exact ⟨p5, p7⟩
        · rcases List.mem_cons.1 hs with rfl | hs
          · exact ⟨p6, p8⟩
          · exact o3 s (by simp [hs])
    have hitsAll : (Tree.mk (x1 ++ up :: x2) (A ++ t1 :: t2 :: B)).its = insS it (Tree.mk (x1 ++ x2) (A ++ tc :: B)).its := by
      have e5 := its_focus (x1 := x1) (x2 := up :: x2) (A := A) (B := t2 :: B) (t := t1) hA (by simp [hB])
      rw [e5, hins, ← p4, postT_cons]
      simp
    obtain ⟨T, hT2⟩ : ∃ T, T = A ++ t1 :: t2 :: B := ⟨_, rfl⟩
    have hTl : T.length = (x1 ++ up :: x2).length + 1 := by rw [hT2]; simp at o1 ⊢; omega
    rw [← hT2] at htr hall hitsAll
    have h4l : 4 ≤ T.length := by rw [hTl, q1]; simp; omega
    have hsp : T = T.take 4 ++ T.drop 4 := (List.take_append_drop _ _).symm
    have htl : (T.take 4).length = 4 := by rw [List.length_take]; omega
    have htr2 : (T.drop 4).length = 4 := by rw [List.length_drop, hTl, q1]; simp; omega
    rw [hsp] at htr
    obtain ⟨s1, s2, M1, M2, hbb, y1, y2, yp⟩ := TreesP.parts (T.take 4) htr
    have hs1 : s1.length = 4 := by rw [y1.len, htl]
    rw [q4] at hbb
    obtain ⟨rfl, rfl⟩ := List.append_inj hbb (by rw [q5, hs1])
    have g1 := treeP_of q6 y1
    have g2 := treeP_of q7 y2
    have gp : (nodeL b v1 u1 ++ nodeL C v2 u2 ++ (LX ++ (LA ++ LB))).Perm ((nodeL b v1 u1 ++ M1) ++ (nodeL C v2 u2 ++ M2)) := by
      refine (yp.append_left _).trans ?_
      rw [List.append_assoc, List.append_assoc]
      refine List.Perm.append_left _ ?_
      exact List.perm_append_comm_assoc _ _ _
    refine ⟨up2, some ⟨C, 0, none⟩, _, rfl, f2, f1, .inr ⟨C, .mk xl (T.take 4), .mk xr (T.drop 4), _, _, rfl, g1, g2, gp, ?_, ?_, ?_, ?_, ?_⟩⟩
    · rw [← hitsAll, q1]
      conv => rhs; rw [hsp]
      exact (its_split (by rw [htl, q2]) (by rw [htr2, q3])).symm
    · unfold okT
      exact ⟨by rw [htl, q2], by omega, fun s hs => hall s (List.mem_of_mem_take hs)⟩
    · unfold okT
      exact ⟨by rw [htr2, q3], by omega, fun s hs => hall s (List.mem_of_mem_drop hs)⟩
    · simp [q2]
    · simp [q3]

theorem put_ok : (d : Nat) → NPutOK d
  | 0 => put_leaf_ok
  | d + 1 => put_in_ok (put_ok d)
end Go.Proofs.YtpcmbnbdppembaaGreatDoor
