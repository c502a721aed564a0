/- (*shelf.node).put of a node that is no leaf: up to what the child gives. -/
import Derived.Test.YtmagddchjidamaaGreatDoorTreePut3
namespace Go.Proofs.YtmagddchjidamaaGreatDoor
set_option linter.unusedSimpArgs false
set_option linter.unusedVariables false
open Go.RowKit Go.Shelf
attribute [local go_sem ↓] Go.wp_at_zero Go.wp_at_succ

/-- what stands behind the child's put: s8: where the item lies that goes up, s9: the node behind the child -/
def Cut4 (w : World) (b : Nat) (v u : Value) (xs : List Itm) (bs : List Nat) (c d : Nat) (tc : Tree) (Lc : List Nat) (it : Itm) (r : Nat) (s8 s9 : Value) (W : World) : Prop :=
  ∃ up q LX U, s8 = .pointer (some ⟨U, 0, none⟩) ∧ s9 = .pointer q ∧ PutR w c d tc Lc it q up LX W ∧ NodeAt W b v xs u bs ∧ W.heap[r]? = some (.cells #[.string ⟨#[]⟩, .string ⟨#[]⟩] 43 (0, 0)) ∧
    W.heap[U]? = some (.cells #[.string up.1, .string up.2] 43 (0, 0)) ∧ r ∉ LX ∧ w.heap.size ≤ r ∧ (∀ k ∈ LX, k ∉ nodeL b v u)

theorem PutR.mod {w w' w2 : World} {b d : Nat} {t : Tree} {L LX : List Nat} {it up : Itm} {q : Option Addr} (h : PutR w b d t L it q up LX w') (hm : Mod NoB w' w2) : PutR w b d t L it q up LX w2 := by
  obtain ⟨h1, h2, h3⟩ := h
  refine ⟨⟨h1.1.then hm (fun _ _ x => x.elim), h1.2⟩, h2, ?_⟩
  rcases h3 with ⟨a1, t', a2, a3⟩ | ⟨c, t1, t2, L1, L2, a1, a2, a3, a4⟩
  · exact .inl ⟨a1, t', a2.mod hm (fun _ _ x => x), a3⟩
  · exact .inr ⟨c, t1, t2, L1, L2, a1, a2.mod hm (fun _ _ x => x), a3.mod hm (fun _ _ x => x), a4⟩
theorem PutR.from {w0 w w' : World} {b d : Nat} {t : Tree} {L LX : List Nat} {it up : Itm} {q : Option Addr} (h : PutR w b d t L it q up LX w') (hm : Mod NoB w0 w) : PutR w0 b d t L it q up LX w' := by
  obtain ⟨h1, h2, h3⟩ := h
  refine ⟨⟨(hm.mono (fun _ _ x => x.elim)).then h1.1 (fun _ _ x => x), fun k hk => (h1.2 k hk).imp id (fun x => Nat.le_trans hm.size x)⟩, h2, h3⟩

theorem cut4_of {w w3 W w4 : World} {b c d r U : Nat} {v u : Value} {xs : List Itm} {bs : List Nat} {tc : Tree} {Lc LX : List Nat} {it up : Itm} {q : Option Addr}
    (hN : NodeAt w b v xs u bs) (hd : ∀ k ∈ Lc, k ∉ nodeL b v u) (M3 : Mod NoB w w3) (hr : w3.heap[r]? = some (.cells #[.string ⟨#[]⟩, .string ⟨#[]⟩] 43 (0, 0))) (hr1 : w.heap.size ≤ r) (hLc : ∀ k ∈ Lc, k < w.heap.size)
    (hP : PutR W c d tc Lc it q up LX w4) (hM : Mod NoB w3 W) (hU : U = w4.heap.size) :
    Cut4 w b v u xs bs c d tc Lc it r (.pointer (some ⟨U, 0, none⟩)) (.pointer q) (w4.alloc (.cells #[.string up.1, .string up.2] 43)) := by
  have hT := hP.1
  have hlt := hN.lts
  have hr3 : r < w3.heap.size := (Array.getElem?_eq_some_iff.1 hr).1
  have hrL : r ∉ Lc := fun e => by have := hLc r e; omega
  have ha : Mod NoB w4 (w4.alloc (.cells #[.string up.1, .string up.2] 43)) := (Mod.refl _ _).alloc _
  refine ⟨up, q, LX, U, rfl, rfl, (hP.from (M3.trans hM)).mod ha, ((hN.mod (M3.trans hM) (fun _ _ x => x)).mod hT.1 (fun k hk hc => hd k hc hk)).mod ha (fun _ _ x => x), ?_, by rw [hU]; exact heap_alloc_new w4 _, fun e => ?_, hr1, fun k hk e => ?_⟩
  · exact heap_keep (heap_keep hr hM hT.1 (fun x => x) hrL) (Mod.refl NoB _) ha (fun x => x) (fun x => x)
  · rcases hT.2 r e with h | h
    · exact hrL h
    · have := hM.size; omega
  · rcases hT.2 k hk with h | h
    · exact hd k h e
    · have := hlt k e
      have := (M3.trans hM).size
      omega

theorem TreeP.of_other {w w2 : World} {b U : Nat} {t : Tree} {L : List Nat} (h : TreeP w b t L) (hm : Mod (· = U) w w2) (hU : U ∉ L) : TreeP w2 b t L := h.mod hm (fun k hk e => hU (e ▸ hk))

theorem PutR.other {w w' w2 : World} {b d U : Nat} {t : Tree} {L LX : List Nat} {it up : Itm} {q : Option Addr} (h : PutR w b d t L it q up LX w') (hm : Mod (· = U) w' w2) (hU : U ∉ LX) (hw : w.heap.size ≤ U) : PutR w b d t L it q up LX w2 := by
  obtain ⟨h1, h2, h3⟩ := h
  refine ⟨beside h1 hm hw, h2, ?_⟩
  rcases h3 with ⟨a1, t', a2, a3⟩ | ⟨c, t1, t2, L1, L2, a1, a2, a3, a4, a5⟩
  · exact .inl ⟨a1, t', a2.of_other hm hU, a3⟩
  · exact .inr ⟨c, t1, t2, L1, L2, a1, a2.of_other hm (fun e => hU (a4.mem_iff.2 (List.mem_append_left _ e))), a3.of_other hm (fun e => hU (a4.mem_iff.2 (List.mem_append_right _ e))), a4, a5⟩

theorem cut4_of2 {w w3 W w4 : World} {b c d r U : Nat} {v u : Value} {xs : List Itm} {bs : List Nat} {tc : Tree} {Lc LX : List Nat} {it up : Itm} {q : Option Addr}
    (hN : NodeAt w b v xs u bs) (hd : ∀ k ∈ Lc, k ∉ nodeL b v u) (M3 : Mod NoB w w3) (hr : w3.heap[r]? = some (.cells #[.string ⟨#[]⟩, .string ⟨#[]⟩] 43 (0, 0))) (hr1 : w.heap.size ≤ r) (hLc : ∀ k ∈ Lc, k < w.heap.size)
    (hP : PutR W c d tc Lc it q up LX w4) (hM : Mod NoB w3 W) (hU : U = w3.heap.size) (hUW : w3.heap.size + 1 ≤ W.heap.size) (hk : w4.heap[U]? = some (.cells #[.string ⟨#[]⟩, .string ⟨#[]⟩] 43 (0, 0))) :
    Cut4 w b v u xs bs c d tc Lc it r (.pointer (some ⟨U, 0, none⟩)) (.pointer q) ((w4.setCell ⟨U, 0, none⟩ (.string up.1)).setCell ⟨U, 1, none⟩ (.string up.2)) := by
  have hT := hP.1
  have hlt := hN.lts
  have hr3 : r < w3.heap.size := (Array.getElem?_eq_some_iff.1 hr).1
  have hrL : r ∉ Lc := fun e => by have := hLc r e; omega
  have hm : Mod (· = U) w4 ((w4.setCell ⟨U, 0, none⟩ (.string up.1)).setCell ⟨U, 1, none⟩ (.string up.2)) := Mod.setCell (S := (· = U)) (Mod.setCell (S := (· = U)) (Mod.refl _ _) (p := ⟨U, 0, none⟩) (by intro _; rfl) _) (p := ⟨U, 1, none⟩) (by intro _; rfl) _
  have hs3 := M3.size
  have hUX : U ∉ LX := fun e => by
    rcases hT.2 U e with h | h
    · have := hLc U h; omega
    · omega
  have hUn : ∀ k ∈ nodeL b v u, ¬ k = U := fun k hk e => by have := hlt k hk; omega
  refine ⟨up, q, LX, U, rfl, rfl, (hP.from (M3.trans hM)).other hm hUX (by omega), ((hN.mod (M3.trans hM) (fun _ _ x => x)).mod hT.1 (fun k hk hc => hd k hc hk)).mod hm hUn, ?_, ?_, fun e => ?_, hr1, fun k hk e => ?_⟩
  · exact heap_keep (heap_keep hr hM hT.1 (fun x => x) hrL) (Mod.refl NoB _) hm (fun x => x) (by omega)
  · have := heap_set (heap_set hk 0 (.string up.1)) 1 (.string up.2)
    simpa using this
  · rcases hT.2 r e with h | h
    · exact hrL h
    · have := hM.size; omega
  · rcases hT.2 k hk with h | h
    · exact hd k h e
    · have := hlt k e
      have := (M3.trans hM).size
      omega

/-- what stands behind the insertions into a node's rows -/
def Cut8 (w : World) (b : Nat) (v u : Value) (xs : List Itm) (bs : List Nat) (r : Nat) (W : World) : Prop :=
  ∃ c cap u', NodeAt W b (.slice (some ⟨c, 0, none⟩) xs.length cap) xs u' bs ∧ (nodeL b (.slice (some ⟨c, 0, none⟩) xs.length cap) u').Nodup ∧ Turn (nodeL b v u) w W (nodeL b (.slice (some ⟨c, 0, none⟩) xs.length cap) u') ∧
    W.heap[r]? = some (.cells #[.string ⟨#[]⟩, .string ⟨#[]⟩] 43 (0, 0)) ∧ r ∉ nodeL b (.slice (some ⟨c, 0, none⟩) xs.length cap) u'

theorem cut8_items {w w4 : World} {b c cap n r : Nat} {v u : Value} {xs xs' : List Itm} {bs : List Nat} (H : NodeAt w b v xs u bs) (HND : (nodeL b v u).Nodup) (HM : Mod (· ∈ ownL v) w w4) (hr : RowIt w4 (.slice (some ⟨c, 0, none⟩) n cap) n (xs'.flatMap encIt)) (hn : xs'.length = n)
    (hc : c ∈ ownL v ∨ w.heap.size ≤ c) (hrn : r ∉ nodeL b v u) (hrw : r < w.heap.size) (hk : w4.heap[r]? = some (.cells #[.string ⟨#[]⟩, .string ⟨#[]⟩] 43 (0, 0))) :
    ∃ cap', cap' = cap ∧ NodeAt (w4.setCell ⟨b, 0, none⟩ (.slice (some ⟨c, 0, none⟩) n cap)) b (.slice (some ⟨c, 0, none⟩) n cap) xs' u bs ∧ (nodeL b (.slice (some ⟨c, 0, none⟩) n cap) u).Nodup ∧
      Turn (nodeL b v u) w (w4.setCell ⟨b, 0, none⟩ (.slice (some ⟨c, 0, none⟩) n cap)) (nodeL b (.slice (some ⟨c, 0, none⟩) n cap) u) ∧
      (w4.setCell ⟨b, 0, none⟩ (.slice (some ⟨c, 0, none⟩) n cap)).heap[r]? = some (.cells #[.string ⟨#[]⟩, .string ⟨#[]⟩] 43 (0, 0)) ∧ r ∉ nodeL b (.slice (some ⟨c, 0, none⟩) n cap) u := by
  have hcl : ∀ k ∈ ownL (.slice (some ⟨c, 0, none⟩) n cap), k ∈ ownL v ∨ w.heap.size ≤ k := fun k hk => by
    simp [ownL, Value.ownBlock] at hk
    rw [hk]
    exact hc
  obtain ⟨q1, q2, q3⟩ := node_items H HND HM (by rw [hn]; exact hr) hcl
  refine ⟨cap, rfl, q1, q2, q3, ?_, ?_⟩
  · rw [heap_set_other (fun e => hrn (by simp [nodeL, e]))]
    exact hk
  · intro e
    simp only [nodeL, List.mem_cons, List.mem_append] at e
    rcases e with h | h | h
    · exact hrn (by simp [nodeL, h])
    · rcases hcl _ h with h | h
      · exact hrn (by simp [nodeL, h])
      · omega
    · exact hrn (by simp [nodeL, h])

/-- a node whose children have turned -/
theorem node_below {w w1 : World} {b : Nat} {v u u' : Value} {xs : List Itm} {bs bs' : List Nat} (h : NodeAt w b v xs u bs) (hnd : (nodeL b v u).Nodup) (hm : Mod (· ∈ ownL u) w w1) (hr : RowNd w1 u' bs'.length (bs'.flatMap encNd))
    (hnew : ∀ k ∈ ownL u', k ∈ ownL u ∨ w.heap.size ≤ k) :
    NodeAt (w1.setCell ⟨b, 1, none⟩ u') b v xs u' bs' ∧ (nodeL b v u').Nodup ∧ Turn (nodeL b v u) w (w1.setCell ⟨b, 1, none⟩ u') (nodeL b v u') := by
  have hlt := h.lts
  obtain ⟨h1, h2, h3⟩ := h
  have hself : Mod (· = b) w1 (w1.setCell ⟨b, 1, none⟩ u') := Mod.setCell (S := (· = b)) (Mod.refl _ _) (by intro _; rfl) _
  have hn := hnd
  simp only [nodeL, List.nodup_cons, List.mem_append, not_or, List.nodup_append] at hn
  obtain ⟨⟨q1, q2⟩, q0, q3, q4⟩ := hn
  have hbu : b ∉ ownL u' := fun e => by
    rcases hnew b e with h | h
    · exact q2 h
    · have := hlt b (by simp [nodeL]); omega
  refine ⟨⟨?_, own_mod' (own_mod' h2 hm (fun k hk e => q4 k hk k e rfl)) hself (fun k hk e => q1 (e ▸ hk)), own_mod' hr hself (fun k hk e => hbu (e ▸ hk))⟩, ?_, ?_, ?_⟩
  · have hb1 : w1.heap[b]? = some (.cells #[v, u] 126 (0, 0)) := by rw [hm.block b (Array.getElem?_eq_some_iff.1 h1).1 q2]; exact h1
    have := heap_set hb1 1 u'
    simpa using this
  · simp only [nodeL, List.nodup_cons, List.mem_append, not_or, List.nodup_append]
    refine ⟨⟨q1, hbu⟩, q0, ownL_nodup _, fun a ha c hc e => ?_⟩
    subst e
    rcases hnew a hc with h | h
    · exact q4 a ha a h rfl
    · have := hlt a (by simp [nodeL, ha]); omega
  · exact (hm.mono (fun k _ hk => by simp [nodeL, hk])).then hself (fun k _ e => by simp [nodeL, e])
  · intro k hk
    simp only [nodeL, List.mem_cons, List.mem_append] at hk ⊢
    rcases hk with h | h | h
    · exact .inl (.inl h)
    · exact .inl (.inr (.inl h))
    · exact (hnew k h).imp (fun x => .inr (.inr x)) id

theorem ins_flatNd (b1 b2 : List Nat) (c : Nat) : ((b1 ++ b2).flatMap encNd).take (b1.length * 1) ++ (encNd c ++ ((b1 ++ b2).flatMap encNd).drop (b1.length * 1)) = (b1 ++ c :: b2).flatMap encNd := by
  rw [flat_take (k := 1) (fun _ => rfl), flat_drop (k := 1) (fun _ => rfl)]
  simp
theorem oneNd {x : Nat} {u : Value} (hu : u ∈ encNd x) : u.oneCell' = true := by
  simp only [encNd, List.mem_cons, List.not_mem_nil, or_false] at hu
  subst hu
  rfl
end Go.Proofs.YtmagddchjidamaaGreatDoor
