/- (*shelf.node).put: an item that is not there, into a leaf. -/
import Derived.Test.YtmagddchjidamaaGreatDoorTreeFind
namespace Go.Proofs.YtmagddchjidamaaGreatDoor
set_option linter.unusedSimpArgs false
set_option linter.unusedVariables false
open Go.RowKit Go.Shelf
attribute [local go_sem ↓] Go.wp_at_zero Go.wp_at_succ

/-- what put gives -/
def PutPost (w : World) (b d : Nat) (t : Tree) (L : List Nat) (it : Itm) (e : Ending) (w' : World) : Prop :=
  (∃ t' L', e = .returned (.tuple #[.agg #[.string ⟨#[]⟩, .string ⟨#[]⟩], .pointer none]) ∧ TreeP w' b t' L' ∧ L'.Nodup ∧ Turn L w w' L' ∧ t'.its = insS it t.its ∧ okT d t' ∧ t.xs.length ≤ t'.xs.length) ∨
  (∃ up c t1 t2 L1 L2, e = .returned (.tuple #[.agg #[.string up.1, .string up.2], .pointer (some ⟨c, 0, none⟩)]) ∧ TreeP w' b t1 L1 ∧ TreeP w' c t2 L2 ∧ (L1 ++ L2).Nodup ∧ Turn L w w' (L1 ++ L2) ∧
    t1.its ++ up :: t2.its = insS it t.its ∧ okT d t1 ∧ okT d t2 ∧ 3 ≤ t1.xs.length ∧ 3 ≤ t2.xs.length)

theorem ins_flat (x1 x2 : List Itm) (it : Itm) : ((x1 ++ x2).flatMap encIt).take (x1.length * 2) ++ (encIt it ++ ((x1 ++ x2).flatMap encIt).drop (x1.length * 2)) = (x1 ++ it :: x2).flatMap encIt := by
  rw [flat_take (k := 2) (fun _ => rfl), flat_drop (k := 2) (fun _ => rfl)]
  simp

theorem ownL_nodup (v : Value) : (ownL v).Nodup := by
  unfold ownL
  cases v.ownBlock <;> simp

/-- a node whose items have turned -/
theorem node_items {w w1 : World} {b : Nat} {v v' u : Value} {xs xs' : List Itm} {bs : List Nat} (h : NodeAt w b v xs u bs) (hnd : (nodeL b v u).Nodup) (hm : Mod (· ∈ ownL v) w w1) (hr : RowIt w1 v' xs'.length (xs'.flatMap encIt))
    (hnew : ∀ k ∈ ownL v', k ∈ ownL v ∨ w.heap.size ≤ k) :
    NodeAt (w1.setCell ⟨b, 0, none⟩ v') b v' xs' u bs ∧ (nodeL b v' u).Nodup ∧ Turn (nodeL b v u) w (w1.setCell ⟨b, 0, none⟩ v') (nodeL b v' u) := by
  have hlt := h.lts
  obtain ⟨h1, h2, h3⟩ := h
  have hself : Mod (· = b) w1 (w1.setCell ⟨b, 0, none⟩ v') := Mod.setCell (S := (· = b)) (Mod.refl _ _) (by intro _; rfl) _
  have hn := hnd
  simp only [nodeL, List.nodup_cons, List.mem_append, not_or, List.nodup_append] at hn
  obtain ⟨⟨q1, q2⟩, _, q3, q4⟩ := hn
  have hbv : b ∉ ownL v' := fun e => by
    rcases hnew b e with h | h
    · exact q1 h
    · have := hlt b (by simp [nodeL]); omega
  refine ⟨⟨?_, own_mod' hr hself (fun k hk e => hbv (e ▸ hk)), own_mod' (own_mod' h3 hm (fun k hk e => q4 k e k hk rfl)) hself (fun k hk e => q2 (e ▸ hk))⟩, ?_, ?_, ?_⟩
  · have hb1 : w1.heap[b]? = some (.cells #[v, u] 126 (0, 0)) := by rw [hm.block b (Array.getElem?_eq_some_iff.1 h1).1 q1]; exact h1
    have := heap_set hb1 0 v'
    simpa using this
  · simp only [nodeL, List.nodup_cons, List.mem_append, not_or, List.nodup_append]
    refine ⟨⟨hbv, q2⟩, ownL_nodup _, q3, fun a ha c hc e => ?_⟩
    subst e
    rcases hnew a ha with h | h
    · exact q4 a h a hc rfl
    · have := hlt a (by simp [nodeL, hc]); omega
  · exact (hm.mono (fun k _ hk => by simp [nodeL, hk])).then hself (fun k _ e => by simp [nodeL, e])
  · intro k hk
    simp only [nodeL, List.mem_cons, List.mem_append] at hk ⊢
    rcases hk with h | h | h
    · exact .inl (.inl h)
    · exact (hnew k h).imp (fun x => .inr (.inl x)) id
    · exact .inl (.inr (.inr h))

/-- a block beside the node's own is turned -/
theorem beside {D D' : List Nat} {w W W' : World} {q : Nat} (hT : Turn D w W D') (hm : Mod (· = q) W W') (hq : w.heap.size ≤ q) : Turn D w W' D' :=
  ⟨hT.1.then hm (fun k hk e => by omega), hT.2⟩

theorem two_new {w w3 : World} {p r : Array Value} {e1 e2 : TypeId} (h : Mod NoB ((w.alloc (.cells p e1)).alloc (.cells r e2)) w3) :
    w3.heap[w.heap.size]? = some (.cells p e1 (0, 0)) ∧ w3.heap[w.heap.size + 1]? = some (.cells r e2 (0, 0)) ∧ w.heap.size + 2 ≤ w3.heap.size ∧ Mod NoB w w3 := by
  have h1 : ((w.alloc (.cells p e1)).alloc (.cells r e2)).heap[w.heap.size]? = some (.cells p e1 (0, 0)) := by rw [Below.heap_alloc _ _ _ (by simp)]; exact heap_alloc_new w _
  have h2 : ((w.alloc (.cells p e1)).alloc (.cells r e2)).heap[w.heap.size + 1]? = some (.cells r e2 (0, 0)) := heap_two2 _ _ _
  have hs := h.size
  simp at hs
  refine ⟨?_, ?_, hs, Mod.trans (((Mod.refl _ _).alloc _).alloc _) h⟩
  · rw [h.block _ (by simp; omega) (fun x => x)]; exact h1
  · rw [h.block _ (by simp) (fun x => x)]; exact h2

theorem heap_keep {w W w4 : World} {q : Nat} {o : Obj} {S T : Nat → Prop} (h : w.heap[q]? = some o) (hM : Mod T w W) (hm : Mod S W w4) (hq : ¬ T q) (hs : ¬ S q) : w4.heap[q]? = some o := by
  have hl := (Array.getElem?_eq_some_iff.1 h).1
  rw [hm.block q (Nat.lt_of_lt_of_le hl hM.size) hs, hM.block q hl hq]
  exact h

theorem heap_keep2 {w W w4 : World} {q : Nat} {o : Obj} {S : Nat → Prop} (h : w.heap[q]? = some o) (hm : Mod S W w4) (hM : Mod NoB w W) (hs : ¬ S q) : w4.heap[q]? = some o :=
  heap_keep h hM hm (fun x => x) hs
theorem then2 {w w3 W w4 : World} {S : Nat → Prop} (h : Mod NoB w w3) (hm : Mod S W w4) (hM : Mod NoB w3 W) : Mod S w w4 :=
  ((h.trans hM).mono (fun _ _ x => x.elim)).then hm (fun _ _ x => x)
theorem c_new {w3 W : World} {c : Nat} {P : Prop} (h : P ∨ W.heap.size ≤ c) (hM : Mod NoB w3 W) : P ∨ w3.heap.size ≤ c :=
  h.imp id (fun h => Nat.le_trans hM.size h)

set_option maxRecDepth 100000 in
set_option maxHeartbeats 16000000 in
theorem nput_leaf {w : World} {b : Nat} {v u : Value} {x1 x2 : List Itm} (it : Itm) (h : NodeAt w b v (x1 ++ x2) u []) (hnd : (nodeL b v u).Nodup) (hpl : plc it.1 (x1 ++ x2) = (x1.length, false)) (hw : (x1 ++ x2).length + 1 ≤ 6)
    (hk : it.1.size ≤ 1000000) (hs : ∀ x ∈ x1 ++ x2, x.1.size ≤ 1000000) :
    Calls Tryz.prog 90 #[.pointer (some ⟨b, 0, none⟩), .agg #[.string it.1, .string it.2]] w fun e w' => e = .returned (.tuple #[.agg #[.string ⟨#[]⟩, .string ⟨#[]⟩], .pointer none]) ∧
      ∃ v', NodeAt w' b v' (x1 ++ it :: x2) u [] ∧ (nodeL b v' u).Nodup ∧ Turn (nodeL b v u) w w' (nodeL b v' u) := by
  have hlt := h.lts
  have hb : b < w.heap.size := hlt b (by simp [nodeL])
  have hplace := fun W (hm : Mod NoB w W) => place_any (h.mod hm (fun _ _ x => x)) it.1 (by omega) hk hs
  have hleaf := fun W (hm : Mod NoB w W) => leaf_node (h.mod hm (fun _ _ x => x))
  rw [hpl] at hplace
  dsimp only at hplace
  have hform := ownsRow_form h.2.1
  have hvs : ∃ a cap, v = .slice a (x1 ++ x2).length cap := by
    rcases hform with ⟨e, e0⟩ | ⟨g, cap, e⟩
    · exact ⟨none, 0, by rw [e, e0]⟩
    · exact ⟨_, cap, e⟩
  obtain ⟨av, capv, rfl⟩ := hvs
  have c0 : w.cell? ⟨b, 0, none⟩ = some (.slice av (x1 ++ x2).length capv) := cell_of h.1 0 rfl
  have f0 := frozen_of h.1 0
  have HW0 := Lib.hid (fun W (hm : Mod NoB w W) => h.mod hm (fun _ _ x => x))
  have H := Lib.hid h; have HND := Lib.hid hnd; have HPL := Lib.hid hplace; have HLF := Lib.hid hleaf; have HLT := Lib.hid hlt; have C0 := Lib.hid c0; have F0 := Lib.hid f0
  have hxl : x1.length ≤ (x1 ++ x2).length := by simp
  obtain ⟨n, hn⟩ : ∃ n, n = (x1 ++ x2).length := ⟨_, rfl⟩
  rw [← hn] at hw hxl C0 H HND HW0 HLT ⊢
  have hne : b ≠ w.heap.size := by omega
  have hne1 : b ≠ w.heap.size + 1 := by omega
  have HN := Lib.hid hn
  clear h hnd hplace hleaf hlt hform c0 f0 hs hpl hn
  go_enter Tryz.func90, Tryz.ntmps90
  go_wp2_with (first
    | (go_at_call 94; refine (HPL.out _ (by repeat (first | exact Mod.refl _ _ | refine Mod.alloc ?_ _ | refine Mod.drew ?_))).mono ?_; rintro e w2 ⟨rfl, hm2⟩; have HM2 := Lib.hid hm2; clear hm2)
    | (go_at_call 75; refine (HLF.out _ (Mod.trans (by repeat (first | exact Mod.refl _ _ | refine Mod.alloc ?_ _ | refine Mod.drew ?_)) HM2.out)).mono ?_; rintro e w3 ⟨rfl, rfl⟩))
  obtain ⟨b1, b2, b3, b4⟩ := two_new HM2.out
  have BP := Lib.hid b1; have BR := Lib.hid b2; have M3 := Lib.hid b4
  have BB : Hid (w3.heap[b]? = some (.cells #[.slice av n capv, u] 126 (0, 0))) := Lib.hid (HW0.out _ b4).1
  have HROW : Hid (∀ W, Mod NoB w W → RowIt W (.slice av n capv) n ((x1 ++ x2).flatMap encIt)) := Lib.hid (fun W hm => by have := (HW0.out W hm).2.1; rw [← HN.out] at this; exact this)
  have d0 : w3.cell? ⟨b, 0, none⟩ = some (.slice av n capv) := cell_of BB.out 0 rfl
  have p0 : w3.cell? ⟨w.heap.size, 0, none⟩ = some (.string it.1) := cell_of b1 0 rfl
  have p1 : w3.cell? ⟨w.heap.size, 1, none⟩ = some (.string it.2) := cell_of b1 1 rfl
  have hbo : b ∉ ownL (.slice av n capv) := fun e => by
    have := HND.out
    simp only [nodeL, List.nodup_cons, List.mem_append, not_or] at this
    exact this.1.1 e
  have hro : w.heap.size + 1 ∉ ownL (.slice av n capv) := fun e => by
    have := HLT.out (w.heap.size + 1) (by simp [nodeL, e])
    omega
  have hgo : w3.heap.size ∉ ownL (.slice av n capv) := fun e => by
    have := HLT.out w3.heap.size (by simp [nodeL, e])
    omega
  have HBO := Lib.hid hbo; have HRO := Lib.hid hro; have HGO := Lib.hid hgo; have B3 := Lib.hid b3
  have hb3 : b < w3.heap.size := by omega
  have hbg : b ≠ w3.heap.size := by omega
  clear b1 b2 b3 b4 hbo hro hgo
  go_region_law ((go_simp; go_at_call 104; go_loud (refine (insIt (v := .slice av n capv) (n := n) (i := x1.length) (g := w3.heap.size) (news := encIt it) (HROW.out _ (M3.out.trans (by repeat (first | exact Mod.refl _ _ | refine Mod.alloc ?_ _ | refine Mod.drew ?_)))) (flat_one (fun _ _ hu => oneIt hu)) hxl (by omega) (by exact heap_alloc_new _ _) rfl (fun _ hu => oneIt hu) HGO.out).mono ?_; rintro e w4 ⟨c, cap, rfl, hr, hm, hc⟩; have kb := heap_keep2 BB.out hm (by repeat (first | exact Mod.refl _ _ | refine Mod.alloc ?_ _ | refine Mod.drew ?_)) HBO.out; have kr := heap_keep2 BR.out hm (by repeat (first | exact Mod.refl _ _ | refine Mod.alloc ?_ _ | refine Mod.drew ?_)) HRO.out; have k0 : w4.cell? ⟨b, 0, none⟩ = some (.slice av n capv) := cell_of kb 0 rfl; have kf := frozen_of kb 0; have r0 : w4.cell? ⟨w.heap.size + 1, 0, none⟩ = some (.string ⟨#[]⟩) := cell_of kr 0 rfl; have r1 : w4.cell? ⟨w.heap.size + 1, 1, none⟩ = some (.string ⟨#[]⟩) := cell_of kr 1 rfl; have rf0 := frozen_of kr 0; have rf1 := frozen_of kr 1; have HR := Lib.hid hr; have HM := Lib.hid (then2 M3.out hm (by repeat (first | exact Mod.refl _ _ | refine Mod.alloc ?_ _ | refine Mod.drew ?_))); have HC := Lib.hid (c_new (w3 := w3) hc (by repeat (first | exact Mod.refl _ _ | refine Mod.alloc ?_ _ | refine Mod.drew ?_))); clear hr hm hc kb kr)))
  all_goals
    go_wp2_with fail
    refine bodyPost_ret (v := .tuple #[.agg #[.string ⟨#[]⟩, .string ⟨#[]⟩], .pointer none]) (by simp [results, Tryz.results90, go_sem, *]) rfl ⟨rfl, .slice (some ⟨c, 0, none⟩) (n + 1) cap, ?_⟩
    have hcl : ∀ k ∈ ownL (.slice (some ⟨c, 0, none⟩) (n + 1) cap), k ∈ ownL (.slice av n capv) ∨ w3.heap.size ≤ k := fun k hk => by
      simp [ownL, Value.ownBlock] at hk
      rw [hk]
      exact HC.out
    obtain ⟨q1, q2, q3⟩ := node_items (xs' := x1 ++ it :: x2) H.out HND.out HM.out (v' := .slice (some ⟨c, 0, none⟩) (n + 1) cap) (by have := HR.out; rw [ins_flat] at this; have e : (x1 ++ it :: x2).length = n + 1 := (by rw [HN.out]; simp; omega); rw [e]; exact this) (fun k hk => (hcl k hk).imp id (fun h => by have := B3.out; omega))
    have hq : Mod (· = w.heap.size + 1) (w4.setCell ⟨b, 0, none⟩ (.slice (some ⟨c, 0, none⟩) (n + 1) cap)) _ := Mod.setCell (S := (· = w.heap.size + 1)) (Mod.setCell (S := (· = w.heap.size + 1)) (Mod.refl _ _) (p := ⟨w.heap.size + 1, 0, none⟩) (by intro _; rfl) (.string ⟨#[]⟩)) (p := ⟨w.heap.size + 1, 1, none⟩) (by intro _; rfl) (.string ⟨#[]⟩)
    refine ⟨q1.mod hq (fun k hk e => ?_), q2, beside q3 hq (Nat.le_succ _)⟩
    subst e
    simp only [nodeL, List.mem_cons, List.mem_append] at hk
    rcases hk with h | h | h
    · omega
    · rcases hcl _ h with h | h
      · exact HRO.out h
      · have := B3.out; omega
    · have := HLT.out _ (show w.heap.size + 1 ∈ nodeL b (.slice av n capv) u by simp [nodeL, h]); omega
end Go.Proofs.YtmagddchjidamaaGreatDoor
