/- A way down a tree to where a key is, or would be; a value that is stored there: plain facts. -/
import Derived.Test.YtpcmbnbdppembaaGreatDoorLess
namespace Go.Proofs.YtpcmbnbdppembaaGreatDoor
set_option linter.unusedSimpArgs false
set_option linter.unusedVariables false
open Go.RowKit

/-- a node's items around one of them -/
theorem its_item {x1 x2 : List Itm} {ts : List Tree} (h : ts = [] ∨ ts.length = x1.length + x2.length + 2) : ∃ P S, ∀ y, (Tree.mk (x1 ++ y :: x2) ts).its = P ++ y :: S := by
  rcases h with rfl | h
  · exact ⟨x1, x2, fun y => its_leaf _⟩
  · have hsp : ts = ts.take x1.length ++ ts.drop x1.length := (List.take_append_drop _ _).symm
    obtain ⟨A, hA⟩ : ∃ A, A = ts.take x1.length := ⟨_, rfl⟩
    obtain ⟨T, hT⟩ : ∃ T, T = ts.drop x1.length := ⟨_, rfl⟩
    rw [← hA, ← hT] at hsp
    have hAl : A.length = x1.length := by rw [hA, List.length_take]; omega
    have hTl : T.length = x2.length + 2 := by rw [hT, List.length_drop]; omega
    match T, hTl with
    | t :: s :: B, hl =>
      have hB : B.length = x2.length := by simpa using hl
      subst hsp
      refine ⟨preT x1 A ++ t.its, s.its ++ postT x2 B, fun y => ?_⟩
      rw [its_focus hAl (by simp [hB]), postT_cons]

theorem set_item {P S : List Itm} {k vv v : ByteArray} (h : Rising (P ++ (k, vv) :: S)) : setS k v (P ++ (k, vv) :: S) = P ++ (k, v) :: S ∧ getS k (P ++ (k, vv) :: S) = some vv ∧ delS k (P ++ (k, vv) :: S) = P ++ S := by
  rw [rising_append, rising_cons] at h
  obtain ⟨h1, ⟨h2, h3⟩, h4⟩ := h
  have hP : ∀ x ∈ P, x.1 ≠ k := fun x hx => keyLt_ne (h4 x hx (k, vv) List.mem_cons_self)
  refine ⟨?_, ?_, ?_⟩
  · rw [setS_append, setS_none hP]
    have : setS k v ((k, vv) :: S) = (k, v) :: setS k v S := by simp [setS]
    rw [this, setS_none (AllGt.ne h2)]
  · rw [getS_append_left hP, getS_self]
  · rw [delS_append, delS_none hP, delS_self h2]

theorem okT.kids {d : Nat} {xs : List Itm} {ts : List Tree} (h : okT d (.mk xs ts)) : ts = [] ∨ ts.length = xs.length + 1 := by
  cases d <;> unfold okT at h
  · exact .inl h.1
  · exact .inr h.1
theorem sub_itsIn : (xs : List Itm) → (ts : List Tree) → xs.Sublist (itsIn xs ts)
  | [], ts => List.nil_sublist _
  | x :: xs, [] => by unfold itsIn; exact (sub_itsIn xs []).cons_cons x
  | x :: xs, t :: ts => by unfold itsIn; exact ((sub_itsIn xs ts).cons_cons x).trans (List.sublist_append_right _ _)
theorem rising_xs {xs : List Itm} {ts : List Tree} (h : Rising (Tree.mk xs ts).its) : Rising xs := by
  rw [its_mk] at h
  exact h.sublist (sub_itsIn xs ts)

theorem okT.mem {d : Nat} {xs : List Itm} {ts : List Tree} (h : okT d (.mk xs ts)) {x : Itm} (hx : x ∈ xs) : x ∈ (Tree.mk xs ts).its := by
  obtain ⟨x1, x2, rfl⟩ := List.append_of_mem hx
  obtain ⟨P, S, hPS⟩ := its_item (x1 := x1) (x2 := x2) (ts := ts) (by rcases h.kids with e | e; exact .inl e; right; rw [e]; simp; omega)
  rw [hPS]
  simp

/-- a cell of a row stored -/
theorem row_set {w : World} {g n cap k j : Nat} {e : TypeId} {cs : List Value} {u : Value} (h : w.ownsRow 0 e k (.slice (some ⟨g, 0, none⟩) n cap) n cs) (hj : j < cs.length) : (w.setCell ⟨g, j, none⟩ u).ownsRow 0 e k (.slice (some ⟨g, 0, none⟩) n cap) n (cs.set j u) := by
  obtain ⟨_, cur, h1, h2, h3, h4, h5⟩ := ownsRow_block h
  refine ownsRow_of_heap (heap_set h1 j u) h2 h3 (by simpa using h4) ?_
  rw [Array.toList_setIfInBounds, ← h5, List.take_set]

theorem flat_set (x1 x2 : List Itm) (k vv v : ByteArray) : ((x1 ++ (k, vv) :: x2).flatMap encIt).set (x1.length * 2 + 1) (.string v) = (x1 ++ (k, v) :: x2).flatMap encIt := by
  rw [List.flatMap_append, List.flatMap_append, List.set_append_right _ _ (by rw [flat_length (k := 2) (fun _ => rfl)]; omega)]
  congr 1
  rw [flat_length (k := 2) (fun _ => rfl), show x1.length * 2 + 1 - x1.length * 2 = 1 by omega]
  rfl

/-- the way down -/
structure Down (w : World) (k : ByteArray) (d : Nat) (b : Nat) (t : Tree) (L : List Nat) (dx xb : Nat) (tx : Tree) (Lx : List Nat) : Prop where
  tree : TreeP w xb tx Lx
  ok : okT dx tx
  rising : Rising tx.its
  get : getS k t.its = getS k tx.its
  sub : ∀ g ∈ Lx, g ∈ L
  nodup : Lx.Nodup
  small : ∀ x ∈ tx.its, x.1.size ≤ 1000000
  back : ∀ (W : World) (tx' : Tree) (v : ByteArray), Mod (· ∈ Lx) w W → TreeP W xb tx' Lx → okT dx tx' → tx'.xs.length = tx.xs.length → tx'.its = setS k v tx.its →
    ∃ t', TreeP W b t' L ∧ okT d t' ∧ t'.xs.length = t.xs.length ∧ t'.its = setS k v t.its

theorem Down.start {w : World} {k : ByteArray} {d b : Nat} {t : Tree} {L : List Nat} (h : TreeP w b t L) (ho : okT d t) (hr : Rising t.its) (hn : L.Nodup) (hs : ∀ x ∈ t.its, x.1.size ≤ 1000000) : Down w k d b t L d b t L :=
  ⟨h, ho, hr, rfl, fun _ h => h, hn, hs, fun W tx' v _ h1 h2 h3 h4 => ⟨tx', h1, h2, h3, h4⟩⟩

/-- one child further -/
theorem Down.step {w : World} {k : ByteArray} {d b : Nat} {t : Tree} {L : List Nat} {dx xb : Nat} {x1 x2 : List Itm} {ts : List Tree} {Lx : List Nat} (h : Down w k d b t L (dx + 1) xb (.mk (x1 ++ x2) ts) Lx) (hl : AllLt x1 k) (hg : AllGt x2 k) :
    ∃ v u bs c tc Lc, NodeAt w xb v (x1 ++ x2) u bs ∧ bs[x1.length]? = some c ∧ bs.length = x1.length + x2.length + 1 ∧ Down w k d b t L dx c tc Lc := by
  obtain ⟨ht, ho, hr, hget, hsub, hnd, hsm, hback⟩ := h
  have hok := ho
  unfold okT at ho
  obtain ⟨o1, o2, o3⟩ := ho
  have hlen : ts.length = x1.length + x2.length + 1 := by rw [o1, List.length_append]
  obtain ⟨A, tc, B, rfl, hA, hB⟩ : ∃ A tc B, ts = A ++ tc :: B ∧ A.length = x1.length ∧ B.length = x2.length := by
    refine ⟨ts.take x1.length, ts[x1.length]'(by omega), ts.drop (x1.length + 1), ?_, by rw [List.length_take]; omega, by rw [List.length_drop]; omega⟩
    rw [List.getElem_cons_drop, List.take_append_drop]
  obtain ⟨v, u, bs, Ls, h1, h2, hp⟩ := ht.open
  obtain ⟨bA, c, bB, LA, Lc, LB, rfl, hbA, k1, k2, k3, kp⟩ := h2.mid
  obtain ⟨r1, r2, r3⟩ := around hA hB hr hl hg
  have hcm : Lx.Perm (Lc ++ (nodeL xb v u ++ (LA ++ LB))) := by
    exact hp.trans ((kp.append_left _).trans (List.perm_append_comm_assoc _ _ _))
  have hnd2 := (hcm.nodup_iff).1 hnd
  obtain ⟨n1, n2, n3⟩ := List.nodup_append.1 hnd2
  refine ⟨v, u, _, c, tc, Lc, h1, by rw [← hA, ← hbA]; simp, by have := k3.len; simp; omega, k2, (o3 tc (by simp)).1, r3, ?_, fun g hg => hsub g (hcm.mem_iff.2 (List.mem_append_left _ hg)), n1, fun x hx => hsm x (by rw [its_focus hA hB]; simp [hx]), ?_⟩
  · rw [hget, its_focus hA hB, getS_mid r1 r2]
  · intro W tx' v' hm ht' ho' hl' hi'
    have hno : ∀ g ∈ nodeL xb v u ++ (LA ++ LB), ¬ g ∈ Lc := fun g hg hc => n3 g hc g hg rfl
    have q1 := h1.mod hm (fun g hg => hno g (List.mem_append_left _ hg))
    have q2 := k1.mod hm (fun g hg => hno g (List.mem_append_right _ (List.mem_append_left _ hg)))
    have q3 := k3.mod hm (fun g hg => hno g (List.mem_append_right _ (List.mem_append_right _ hg)))
    have q4 := treeP_of q1 (TreesP.of_mid q2 ht' q3)
    refine hback W (.mk (x1 ++ x2) (A ++ tx' :: B)) v' (hm.mono (fun g _ hg => hcm.mem_iff.2 (List.mem_append_left _ hg))) (q4.perm ?_) ?_ rfl ?_
    · exact hcm.trans (List.perm_append_comm_assoc _ _ _)
    · unfold okT
      refine ⟨by simpa using o1, o2, fun s hs => ?_⟩
      rcases List.mem_append.1 hs with hs | hs
      · exact o3 s (by simp [hs])
      · rcases List.mem_cons.1 hs with rfl | hs
        · exact ⟨ho', by rw [hl']; exact (o3 tc (by simp)).2⟩
        · exact o3 s (by simp [hs])
    · rw [its_focus hA hB, its_focus hA hB, hi', setS_append, setS_append, setS_none r1.ne, setS_none r2.ne]

/-- the key is there -/
theorem Down.found {w : World} {k : ByteArray} {d b : Nat} {t : Tree} {L : List Nat} {dx xb : Nat} {x1 x2 : List Itm} {vv : ByteArray} {ts : List Tree} {Lx : List Nat} (h : Down w k d b t L dx xb (.mk (x1 ++ (k, vv) :: x2) ts) Lx) :
    ∃ g n cap, getS k t.its = some vv ∧ w.cell? ⟨xb, 0, none⟩ = some (.slice (some ⟨g, 0, none⟩) n cap) ∧ x1.length < n ∧ n ≤ cap ∧ w.cell? ⟨g, x1.length * 2 + 1, none⟩ = some (.string vv) ∧ w.cell? ⟨g, x1.length * 2, none⟩ = some (.string k) ∧ w.frozen? ⟨g, x1.length * 2 + 1, none⟩ = false ∧ g ∈ L ∧ xb ∈ L ∧ g ≠ xb ∧ g < w.heap.size ∧
      ∀ W v, Mod NoB w W → ∃ t', TreeP (W.setCell ⟨g, x1.length * 2 + 1, none⟩ (.string v)) b t' L ∧ okT d t' ∧ t'.xs.length = t.xs.length ∧ t'.its = setS k v t.its := by
  obtain ⟨ht, ho, hr, hget, hsub, hnd, hsm, hback⟩ := h
  have hts : ts = [] ∨ ts.length = x1.length + x2.length + 2 := by
    cases dx with
    | zero => unfold okT at ho; exact .inl ho.1
    | succ dx => unfold okT at ho; right; rw [ho.1]; simp; omega
  obtain ⟨P, S, hPS⟩ := its_item (x1 := x1) (x2 := x2) hts
  rw [hPS] at hr hget
  obtain ⟨s1, s2, _⟩ := set_item (v := vv) hr
  obtain ⟨v, u, bs, Ls, ⟨h1, h2, h3⟩, h4, hp⟩ := ht.open
  have hnd2 := (hp.nodup_iff).1 hnd
  rcases ownsRow_form h2 with ⟨_, h0⟩ | ⟨g, cap, rfl⟩
  · simp at h0
  obtain ⟨_, cur, q1, q2, q3, q4, q5⟩ := ownsRow_block h2
  have hgN : g ∈ nodeL xb (.slice (some ⟨g, 0, none⟩) (x1 ++ (k, vv) :: x2).length cap) u := by simp [nodeL, ownL, Value.ownBlock]
  have hgx : g ≠ xb := by
    intro e
    have hq := (List.nodup_append.1 hnd2).1
    simp only [nodeL, List.nodup_cons] at hq
    exact hq.1 (by simp [ownL, Value.ownBlock, e])
  have hbN : xb ∈ nodeL xb (.slice (some ⟨g, 0, none⟩) (x1 ++ (k, vv) :: x2).length cap) u := by simp [nodeL]
  have hgL : g ∈ Lx := hp.mem_iff.2 (List.mem_append_left _ hgN)
  have cellAt : ∀ j y, (encIt (k, vv))[j]? = some y → w.cell? ⟨g, x1.length * 2 + j, none⟩ = some y := by
    intro j y hy
    have := h2.cells (g := g) rfl (x1.length * 2 + j) y (flat_cell (k := 2) (enc := encIt) (fun _ => rfl) _ x1.length (k, vv) (by simp) j y hy)
    rwa [addr_lit, Nat.zero_add] at this
  refine ⟨g, _, cap, by rw [hget, s2], cell_of h1 0 rfl, by simp, q2, cellAt 1 _ rfl, cellAt 0 _ rfl, frozen_of q1 _, hsub g hgL, hsub xb (hp.mem_iff.2 (List.mem_append_left _ hbN)), hgx, (Array.getElem?_eq_some_iff.1 q1).1, fun W v hm => ?_⟩
  have hm1 : Mod (· ∈ Lx) w (W.setCell ⟨g, x1.length * 2 + 1, none⟩ (.string v)) := (hm.mono (fun _ _ x => x.elim)).setCell (fun _ => hgL) _
  have hmg : Mod (· = g) w (W.setCell ⟨g, x1.length * 2 + 1, none⟩ (.string v)) := Mod.setCell (S := (· = g)) (hm.mono (fun _ _ x => x.elim)) (by intro _; rfl) _
  have hout : ∀ q, q ∈ ownL u ++ Ls → ¬ q = g := by
    intro q hq e
    subst e
    have h5 := hnd2
    simp only [nodeL, ownL, Value.ownBlock, Option.toList_some, List.cons_append, List.nil_append, List.nodup_cons] at h5
    exact h5.2.1 hq
  refine hback _ (.mk (x1 ++ (k, v) :: x2) ts) v hm1 ?_ ?_ (by simp) (by rw [hPS, hPS]; exact (set_item (v := v) hr).1.symm)
  · refine (treeP_of (v := .slice (some ⟨g, 0, none⟩) (x1 ++ (k, vv) :: x2).length cap) ⟨?_, ?_, own_mod' h3 hmg (fun q hq => hout q (List.mem_append_left _ hq))⟩ (h4.mod hmg (fun q hq => hout q (List.mem_append_right _ hq)))).perm hp
    · rw [hmg.block xb (Array.getElem?_eq_some_iff.1 h1).1 (fun e => hgx e.symm)]
      exact h1
    · have h6 := row_set (u := .string v) (j := x1.length * 2 + 1) (own_mod' h2 hm (fun _ _ x => x)) (by rw [flat_length (k := 2) (fun _ => rfl)]; simp; omega)
      rw [flat_set] at h6
      have e : (x1 ++ (k, v) :: x2).length = (x1 ++ (k, vv) :: x2).length := by simp
      show World.ownsRow _ 0 _ 2 _ (x1 ++ (k, v) :: x2).length _
      rw [e]
      exact h6
  · cases dx with
    | zero => unfold okT at ho ⊢; simpa using ho
    | succ dx => unfold okT at ho ⊢; simpa using ho

/-- the key is not in a leaf -/
theorem Down.missed {w : World} {k : ByteArray} {d b : Nat} {t : Tree} {L : List Nat} {xb : Nat} {x1 x2 : List Itm} {ts : List Tree} {Lx : List Nat} (h : Down w k d b t L 0 xb (.mk (x1 ++ x2) ts) Lx) (hl : AllLt x1 k) (hg : AllGt x2 k) : getS k t.its = none := by
  have ho := h.ok
  unfold okT at ho
  obtain ⟨rfl, _⟩ := ho
  rw [h.get, its_leaf]
  refine getS_none fun x hx => ?_
  rcases List.mem_append.1 hx with hx | hx
  · exact hl.ne x hx
  · exact hg.ne x hx
end Go.Proofs.YtpcmbnbdppembaaGreatDoor
