/- Del: nodes in memory side by side: what is turned in one of them leaves the others alone. -/
import Derived.Test.YtpcmbnbdppembaaGreatDoorTreePut
namespace Go.Proofs.YtpcmbnbdppembaaGreatDoor
set_option linter.unusedSimpArgs false
set_option linter.unusedVariables false
open Go.RowKit Go.Shelf

/-- a node, with its rows -/
structure Nd where
  b : Nat
  v : Value
  xs : List Itm
  u : Value
  bs : List Nat
abbrev Nd.At (W : World) (x : Nd) : Prop := NodeAt W x.b x.v x.xs x.u x.bs
abbrev Nd.L (x : Nd) : List Nat := nodeL x.b x.v x.u

/-- a turn of one node -/
def Chg (W W' : World) (x x' : Nd) : Prop := x'.b = x.b ∧ x'.At W' ∧ x'.L.Nodup ∧ Turn x.L W W' x'.L

theorem Chg.trans {W W1 W2 : World} {x x1 x2 : Nd} (h : Chg W W1 x x1) (k : Chg W1 W2 x1 x2) : Chg W W2 x x2 :=
  ⟨k.1.trans h.1, k.2.1, k.2.2.1, h.2.2.2.trans k.2.2.2⟩

theorem chg_items {w w1 : World} {x : Nd} {v' : Value} {xs' : List Itm} (h : x.At w) (hnd : x.L.Nodup) (hm : Mod (· ∈ ownL x.v) w w1) (hr : RowIt w1 v' xs'.length (xs'.flatMap encIt))
    (hnew : ∀ k ∈ ownL v', k ∈ ownL x.v ∨ w.heap.size ≤ k) : Chg w (w1.setCell ⟨x.b, 0, none⟩ v') x { x with v := v', xs := xs' } := by
  obtain ⟨q1, q2, q3⟩ := node_items h hnd hm hr hnew
  exact ⟨rfl, q1, q2, q3⟩

theorem chg_below {w w1 : World} {x : Nd} {u' : Value} {bs' : List Nat} (h : x.At w) (hnd : x.L.Nodup) (hm : Mod (· ∈ ownL x.u) w w1) (hr : RowNd w1 u' bs'.length (bs'.flatMap encNd))
    (hnew : ∀ k ∈ ownL u', k ∈ ownL x.u ∨ w.heap.size ≤ k) : Chg w (w1.setCell ⟨x.b, 1, none⟩ u') x { x with u := u', bs := bs' } := by
  obtain ⟨q1, q2, q3⟩ := node_below h hnd hm hr hnew
  exact ⟨rfl, q1, q2, q3⟩

/-- the row of items made shorter -/
theorem chg_cutItems {w : World} {x : Nd} {g cap m : Nat} {xs' ys : List Itm} (h : x.At w) (hnd : x.L.Nodup) (hv : x.v = .slice (some ⟨g, 0, none⟩) x.xs.length cap) (hx : x.xs = xs' ++ ys) (hm : m = xs'.length) :
    Chg w (w.setCell ⟨x.b, 0, none⟩ (.slice (some ⟨g, 0, none⟩) m cap)) x { x with v := .slice (some ⟨g, 0, none⟩) m cap, xs := xs' } := by
  subst hm
  have h2 := h.2.1
  rw [hv] at h2
  have hr := ownsRow_less h2 (m := xs'.length) (by rw [hx]; simp)
  rw [flat_take (k := 2) (fun _ => rfl), hx, List.take_left] at hr
  exact chg_items h hnd (Mod.refl _ _) hr (fun k hk => .inl (by rw [hv]; exact hk))

theorem chg_cutBelow {w : World} {x : Nd} {g cap m : Nat} {bs' ys : List Nat} (h : x.At w) (hnd : x.L.Nodup) (hv : x.u = .slice (some ⟨g, 0, none⟩) x.bs.length cap) (hx : x.bs = bs' ++ ys) (hm : m = bs'.length) :
    Chg w (w.setCell ⟨x.b, 1, none⟩ (.slice (some ⟨g, 0, none⟩) m cap)) x { x with u := .slice (some ⟨g, 0, none⟩) m cap, bs := bs' } := by
  subst hm
  have h2 := h.2.2
  rw [hv] at h2
  have hr := ownsRow_less h2 (m := bs'.length) (by rw [hx]; simp)
  rw [flat_take (k := 1) (fun _ => rfl), hx, List.take_left] at hr
  exact chg_below h hnd (Mod.refl _ _) hr (fun k hk => .inl (by rw [hv]; exact hk))

theorem flat_set2 (x1 x2 : List Itm) (y z : Itm) : (((x1 ++ y :: x2).flatMap encIt).set (x1.length * 2) (.string z.1)).set (x1.length * 2 + 1) (.string z.2) = (x1 ++ z :: x2).flatMap encIt := by
  rw [List.flatMap_append, List.flatMap_append, List.set_append_right _ _ (by rw [flat_length (k := 2) (fun _ => rfl)]; omega), List.set_append_right _ _ (by rw [flat_length (k := 2) (fun _ => rfl)]; omega)]
  congr 1
  rw [flat_length (k := 2) (fun _ => rfl), show x1.length * 2 + 1 - x1.length * 2 = 1 by omega, Nat.sub_self]
  rfl

/-- an item stored over another one -/
theorem chg_setItem {w : World} {x : Nd} {g cap i : Nat} {x1 x2 : List Itm} {y z : Itm} (h : x.At w) (hnd : x.L.Nodup) (hv : x.v = .slice (some ⟨g, 0, none⟩) x.xs.length cap) (hx : x.xs = x1 ++ y :: x2) (hi : i = x1.length) :
    Chg w ((w.setCell ⟨g, i * 2, none⟩ (.string z.1)).setCell ⟨g, i * 2 + 1, none⟩ (.string z.2)) x { x with xs := x1 ++ z :: x2 } := by
  subst hi
  obtain ⟨h1, h2, h3⟩ := h
  have hm : Mod (· = g) w ((w.setCell ⟨g, x1.length * 2, none⟩ (.string z.1)).setCell ⟨g, x1.length * 2 + 1, none⟩ (.string z.2)) :=
    Mod.setCell (S := (· = g)) (Mod.setCell (S := (· = g)) (Mod.refl _ _) (p := ⟨g, x1.length * 2, none⟩) (by intro _; rfl) _) (p := ⟨g, x1.length * 2 + 1, none⟩) (by intro _; rfl) _
  have hn := hnd
  simp only [Nd.L, nodeL, hv, ownL, Value.ownBlock, Option.toList_some, List.cons_append, List.nil_append, List.nodup_cons, List.mem_cons, not_or] at hn
  obtain ⟨⟨q1, q2⟩, q3, q4⟩ := hn
  refine ⟨rfl, ⟨?_, ?_, own_mod' h3 hm (fun k hk e => ?_)⟩, hnd, hm.mono (fun k _ hk => ?_), fun k hk => .inl hk⟩
  · show _ = some (Obj.cells #[x.v, x.u] 190 (0, 0))
    rw [hm.block x.b (Array.getElem?_eq_some_iff.1 h1).1 q1]
    exact h1
  · show RowIt _ x.v (x1 ++ z :: x2).length _
    rw [hv] at h2 ⊢
    have hl : (x.xs.flatMap encIt).length = x.xs.length * 2 := flat_length (k := 2) (fun _ => rfl) _
    have hxl : x.xs.length = x1.length + x2.length + 1 := by rw [hx]; simp; omega
    have h6 := row_set (u := .string z.2) (j := x1.length * 2 + 1) (row_set (u := .string z.1) (j := x1.length * 2) h2 (by rw [hl]; omega)) (by rw [List.length_set, hl]; omega)
    have e2 : (x1 ++ z :: x2).length = x.xs.length := by rw [hx]; simp
    rw [e2]
    have e3 := flat_set2 x1 x2 y z
    rw [← hx] at e3
    rwa [e3] at h6
  · subst e
    exact q3 hk
  · subst hk
    simp [Nd.L, nodeL, hv, ownL, Value.ownBlock]

/-- three nodes beside each other, and what was turned till now -/
def Three (w : World) (D : List Nat) (W : World) (x a c : Nd) : Prop := x.At W ∧ a.At W ∧ c.At W ∧ (x.L ++ (a.L ++ c.L)).Nodup ∧ Turn D w W (x.L ++ (a.L ++ c.L))

theorem Three.quiet {w W W' : World} {D : List Nat} {x a c : Nd} (h : Three w D W x a c) (hm : Mod NoB W W') : Three w D W' x a c :=
  ⟨h.1.mod hm (fun _ _ e => e), h.2.1.mod hm (fun _ _ e => e), h.2.2.1.mod hm (fun _ _ e => e), h.2.2.2.1, h.2.2.2.2.trans (Turn.of_no hm)⟩

theorem Three.x {w W W' : World} {D : List Nat} {x x' a c : Nd} (h : Three w D W x a c) (hc : Chg W W' x x') : Three w D W' x' a c := by
  obtain ⟨h1, h2, h3, h4, h5⟩ := h
  obtain ⟨c1, c2, c3, c4⟩ := hc
  have hlt : ∀ k ∈ a.L ++ c.L, k < W.heap.size := fun k hk => (List.mem_append.1 hk).elim (h2.lts k) (h3.lts k)
  obtain ⟨q1, q2, q3⟩ := turn_frame h4 c4 c3 hlt
  exact ⟨c2, h2.mod c4.1 (fun k hk => q3 k (List.mem_append_left _ hk)), h3.mod c4.1 (fun k hk => q3 k (List.mem_append_right _ hk)), q1, h5.trans q2⟩

theorem Three.a {w W W' : World} {D : List Nat} {x a a' c : Nd} (h : Three w D W x a c) (hc : Chg W W' a a') : Three w D W' x a' c := by
  obtain ⟨h1, h2, h3, h4, h5⟩ := h
  obtain ⟨c1, c2, c3, c4⟩ := hc
  have hp : (x.L ++ (a.L ++ c.L)).Perm (a.L ++ (x.L ++ c.L)) := List.perm_append_comm_assoc _ _ _
  have hp' : (x.L ++ (a'.L ++ c.L)).Perm (a'.L ++ (x.L ++ c.L)) := List.perm_append_comm_assoc _ _ _
  have hlt : ∀ k ∈ x.L ++ c.L, k < W.heap.size := fun k hk => (List.mem_append.1 hk).elim (h1.lts k) (h3.lts k)
  obtain ⟨q1, q2, q3⟩ := turn_frame ((hp.nodup_iff).1 h4) c4 c3 hlt
  exact ⟨h1.mod c4.1 (fun k hk => q3 k (List.mem_append_left _ hk)), c2, h3.mod c4.1 (fun k hk => q3 k (List.mem_append_right _ hk)), (hp'.nodup_iff).2 q1, h5.trans (q2.perm hp.symm hp')⟩

theorem Three.c {w W W' : World} {D : List Nat} {x a c c' : Nd} (h : Three w D W x a c) (hc : Chg W W' c c') : Three w D W' x a c' := by
  obtain ⟨h1, h2, h3, h4, h5⟩ := h
  obtain ⟨c1, c2, c3, c4⟩ := hc
  have hp : ∀ c : Nd, (x.L ++ (a.L ++ c.L)).Perm (c.L ++ (x.L ++ a.L)) := fun c => by
    rw [← List.append_assoc]
    exact List.perm_append_comm
  have hlt : ∀ k ∈ x.L ++ a.L, k < W.heap.size := fun k hk => (List.mem_append.1 hk).elim (h1.lts k) (h2.lts k)
  obtain ⟨q1, q2, q3⟩ := turn_frame (((hp c).nodup_iff).1 h4) c4 c3 hlt
  exact ⟨h1.mod c4.1 (fun k hk => q3 k (List.mem_append_left _ hk)), h2.mod c4.1 (fun k hk => q3 k (List.mem_append_right _ hk)), c2, ((hp c').nodup_iff).2 q1, h5.trans (q2.perm (hp c).symm (hp c'))⟩

theorem Three.nx {w W : World} {D : List Nat} {x a c : Nd} (h : Three w D W x a c) : x.L.Nodup := (List.nodup_append.1 h.2.2.2.1).1
theorem Three.na {w W : World} {D : List Nat} {x a c : Nd} (h : Three w D W x a c) : a.L.Nodup := (List.nodup_append.1 (List.nodup_append.1 h.2.2.2.1).2.1).1
theorem Three.nc {w W : World} {D : List Nat} {x a c : Nd} (h : Three w D W x a c) : c.L.Nodup := (List.nodup_append.1 (List.nodup_append.1 h.2.2.2.1).2.1).2.1
theorem Three.start {w : World} {x a c : Nd} (h1 : x.At w) (h2 : a.At w) (h3 : c.At w) (hn : (x.L ++ (a.L ++ c.L)).Nodup) : Three w (x.L ++ (a.L ++ c.L)) w x a c := ⟨h1, h2, h3, hn, Turn.refl _ _⟩
theorem Three.dis {w W : World} {D : List Nat} {x a c : Nd} (h : Three w D W x a c) : (∀ k ∈ x.L, k ∉ a.L ∧ k ∉ c.L) ∧ ∀ k ∈ a.L, k ∉ c.L := by
  obtain ⟨h1, h2, h3⟩ := List.nodup_append.1 h.2.2.2.1
  obtain ⟨h4, h5, h6⟩ := List.nodup_append.1 h2
  exact ⟨fun k hk => ⟨fun e => h3 k hk k (List.mem_append_left _ e) rfl, fun e => h3 k hk k (List.mem_append_right _ e) rfl⟩, fun k hk e => h6 k hk k e rfl⟩

/-! ### What a node's cells say -/
theorem Nd.cv {W : World} {x : Nd} (h : x.At W) : W.cell? ⟨x.b, 0, none⟩ = some x.v ∧ W.cell? ⟨x.b, 1, none⟩ = some x.u ∧ W.frozen? ⟨x.b, 0, none⟩ = false ∧ W.frozen? ⟨x.b, 1, none⟩ = false ∧ x.b < W.heap.size :=
  ⟨cell_of h.1 0 rfl, cell_of h.1 1 rfl, frozen_of h.1 0, frozen_of h.1 1, (Array.getElem?_eq_some_iff.1 h.1).1⟩

theorem Nd.vform {W : World} {x : Nd} (h : x.At W) (hx : x.xs ≠ []) : ∃ g cap, x.v = .slice (some ⟨g, 0, none⟩) x.xs.length cap ∧ x.xs.length ≤ cap ∧ g ∈ x.L ∧ g ∈ ownL x.v ∧ (x.L.Nodup → g ≠ x.b ∧ g ∉ ownL x.u) := by
  rcases ownsRow_form h.2.1 with ⟨_, h0⟩ | ⟨g, cap, hv⟩
  · exact absurd (List.eq_nil_of_length_eq_zero h0) hx
  have h2 := h.2.1
  rw [hv] at h2
  obtain ⟨_, cur, q1, q2, q3, q4, q5⟩ := ownsRow_block h2
  refine ⟨g, cap, hv, q2, by simp [Nd.L, nodeL, hv, ownL, Value.ownBlock], by simp [hv, ownL, Value.ownBlock], fun hn => ?_⟩
  simp only [Nd.L, nodeL, hv, List.nodup_cons, List.mem_append, not_or, List.nodup_append] at hn
  obtain ⟨⟨n1, n2⟩, n3, n4, n5⟩ := hn
  have hg : g ∈ ownL (.slice (some ⟨g, 0, none⟩) x.xs.length cap) := by simp [ownL, Value.ownBlock]
  exact ⟨fun e => n1 (e ▸ hg), fun e => n5 g hg g e rfl⟩

theorem Nd.uform {W : World} {x : Nd} (h : x.At W) (hx : x.bs ≠ []) : ∃ g cap, x.u = .slice (some ⟨g, 0, none⟩) x.bs.length cap ∧ x.bs.length ≤ cap ∧ g ∈ x.L ∧ g ∈ ownL x.u ∧ (x.L.Nodup → g ≠ x.b ∧ g ∉ ownL x.v) := by
  rcases ownsRow_form h.2.2 with ⟨_, h0⟩ | ⟨g, cap, hv⟩
  · exact absurd (List.eq_nil_of_length_eq_zero h0) hx
  have h2 := h.2.2
  rw [hv] at h2
  obtain ⟨_, cur, q1, q2, q3, q4, q5⟩ := ownsRow_block h2
  refine ⟨g, cap, hv, q2, by simp [Nd.L, nodeL, hv, ownL, Value.ownBlock], by simp [hv, ownL, Value.ownBlock], fun hn => ?_⟩
  simp only [Nd.L, nodeL, hv, List.nodup_cons, List.mem_append, not_or, List.nodup_append] at hn
  obtain ⟨⟨n1, n2⟩, n3, n4, n5⟩ := hn
  have hg : g ∈ ownL (.slice (some ⟨g, 0, none⟩) x.bs.length cap) := by simp [ownL, Value.ownBlock]
  exact ⟨fun e => n2 (e ▸ hg), fun e => n5 g e g hg rfl⟩

/-- any row of values -/
theorem Nd.uany {W : World} {x : Nd} (h : x.At W) : ∃ a cap, x.u = .slice a x.bs.length cap := by
  rcases ownsRow_form h.2.2 with ⟨e, h0⟩ | ⟨g, cap, hv⟩
  · exact ⟨none, 0, by rw [e, h0]⟩
  · exact ⟨_, cap, hv⟩
theorem Nd.vany {W : World} {x : Nd} (h : x.At W) : ∃ a cap, x.v = .slice a x.xs.length cap := by
  rcases ownsRow_form h.2.1 with ⟨e, h0⟩ | ⟨g, cap, hv⟩
  · exact ⟨none, 0, by rw [e, h0]⟩
  · exact ⟨_, cap, hv⟩

theorem Nd.item {W : World} {x : Nd} {g n cap : Nat} (h : x.At W) (hv : x.v = .slice (some ⟨g, 0, none⟩) n cap) {x1 x2 : List Itm} {y : Itm} (hx : x.xs = x1 ++ y :: x2) :
    W.cell? ⟨g, x1.length * 2, none⟩ = some (.string y.1) ∧ W.cell? ⟨g, x1.length * 2 + 1, none⟩ = some (.string y.2) ∧ (∀ i, W.frozen? ⟨g, i, none⟩ = false) := by
  have h2 := h.2.1
  rw [hv] at h2
  obtain ⟨_, cur, q1, q2, q3, q4, q5⟩ := ownsRow_block h2
  have cellAt : ∀ j u, (encIt y)[j]? = some u → W.cell? ⟨g, x1.length * 2 + j, none⟩ = some u := by
    intro j u hu
    have := h2.cells (g := g) rfl (x1.length * 2 + j) u (flat_cell (k := 2) (enc := encIt) (fun _ => rfl) _ x1.length y (by rw [hx]; simp) j u hu)
    rwa [addr_lit, Nat.zero_add] at this
  exact ⟨cellAt 0 _ rfl, cellAt 1 _ rfl, fun i => frozen_of q1 i⟩

theorem Nd.kid {W : World} {x : Nd} {g n cap : Nat} (h : x.At W) (hv : x.u = .slice (some ⟨g, 0, none⟩) n cap) {b1 b2 : List Nat} {c : Nat} (hx : x.bs = b1 ++ c :: b2) :
    W.cell? ⟨g, b1.length, none⟩ = some (.pointer (some ⟨c, 0, none⟩)) := by
  have h2 := h.2.2
  rw [hv] at h2
  have := h2.cells (g := g) rfl b1.length (.pointer (some ⟨c, 0, none⟩)) (by simpa using flat_cell (k := 1) (enc := encNd) (fun _ => rfl) _ b1.length c (by rw [hx]; simp) 0 _ rfl)
  rwa [addr_lit, Nat.zero_add] at this

theorem Nd.row {W : World} {x : Nd} (h : x.At W) (W' : World) (hm : Mod NoB W W') : RowIt W' x.v x.xs.length (x.xs.flatMap encIt) := (NodeAt.mod h hm (fun _ _ e => e)).2.1
theorem Nd.rowU {W : World} {x : Nd} (h : x.At W) (W' : World) (hm : Mod NoB W W') : RowNd W' x.u x.bs.length (x.bs.flatMap encNd) := (NodeAt.mod h hm (fun _ _ e => e)).2.2
end Go.Proofs.YtpcmbnbdppembaaGreatDoor
