/- (*shelf.node).put at every depth. -/
import Derived.Test.YtmagddchjidamaaGreatDoorTreePut5
namespace Go.Proofs.YtmagddchjidamaaGreatDoor
set_option linter.unusedSimpArgs false
set_option linter.unusedVariables false
open Go.RowKit Go.Shelf

theorem insS_node {x1 x2 : List Itm} {A B : List Tree} {t : Tree} {it : Itm} (h1 : A.length = x1.length) (h2 : B.length = x2.length) (hr : Rising (Tree.mk (x1 ++ x2) (A ++ t :: B)).its) (hl : AllLt x1 it.1) (hg : AllGt x2 it.1) :
    insS it (Tree.mk (x1 ++ x2) (A ++ t :: B)).its = preT x1 A ++ insS it t.its ++ postT x2 B := by
  obtain ⟨r1, r2, r3⟩ := around h1 h2 hr hl hg
  rw [its_focus h1 h2, insS_mid r1 r2]

theorem put_in_ok {d : Nat} (ih : NPutOK d) : NPutOK (d + 1) := by
  intro w b t L it ht ho hn hr hs hk hg
  obtain ⟨xs, ts⟩ := t
  have hok := ho
  unfold okT at ho
  obtain ⟨o1, o2, o3⟩ := ho
  obtain ⟨v, u, bs, Ls, h1, h2, hp⟩ := ht.open
  have hgx : getS it.1 xs = none := getS_none fun x hx => (get_none_any hg) x (hok.mem hx)
  obtain ⟨x1, x2, rfl, e2, e3, e4⟩ := plc_none (rising_xs hr) hgx
  have hlen : ts.length = x1.length + x2.length + 1 := by rw [o1, List.length_append]
  obtain ⟨A, tc, B, rfl, hA, hB⟩ : ∃ A tc B, ts = A ++ tc :: B ∧ A.length = x1.length ∧ B.length = x2.length := by
    refine ⟨ts.take x1.length, ts[x1.length]'(by omega), ts.drop (x1.length + 1), ?_, by rw [List.length_take]; omega, by rw [List.length_drop]; omega⟩
    rw [List.getElem_cons_drop, List.take_append_drop]
  obtain ⟨bA, c, bB, LA, Lc, LB, rfl, hbA, k1, k2, k3, kp⟩ := h2.mid
  obtain ⟨r1, r2, r3⟩ := around hA hB hr e3 e4
  have hcm : L.Perm (Lc ++ (nodeL b v u ++ (LA ++ LB))) := hp.trans ((kp.append_left _).trans (List.perm_append_comm_assoc _ _ _))
  have hnd := (hcm.nodup_iff).1 hn
  obtain ⟨n1, n2, n3⟩ := List.nodup_append.1 hnd
  obtain ⟨n4, n5, n6⟩ := List.nodup_append.1 n2
  have hLc := k2.lts
  have hdis : ∀ k ∈ Lc, k ∉ nodeL b v u := fun k hk e => n3 k hk k (List.mem_append_left _ e) rfl
  have hgc : getS it.1 tc.its = none := by
    rw [its_focus hA hB, getS_mid r1 r2] at hg
    exact hg
  have hsc : ∀ x ∈ tc.its, x.1.size ≤ 1000000 := fun x hx => hs x (by rw [its_focus hA hB]; simp [hx])
  have hins := insS_node hA hB hr e3 e4
  have hcall := nput_in (d := d) (tc := tc) (Lc := Lc) (bA := bA) (bB := bB) (c := c) it h1 n4 e2 o2 hk (fun x hx => hs x (hok.mem hx)) (by have := k1.len; have := k3.len; simp; omega) rfl (by rw [hbA, hA]) hdis hLc
    (fun W hm => ih W c tc Lc it (k2.mod hm (fun _ _ x => x)) (o3 tc (by simp)).1 n1 r3 hsc hk hgc)
  refine hcall.mono ?_
  rintro e w' ⟨up, q, LX, w4, r, hP, hN4, hr1, hr2, hr3, hm, hcase⟩
  -- the other children
  have hT := hP.1
  have hABlt : ∀ k ∈ LA ++ LB, k < w.heap.size := fun k hk => by
    rcases List.mem_append.1 hk with h | h
    · exact k1.lts k h
    · exact k3.lts k h
  have hABc : ∀ k ∈ LA ++ LB, k ∉ Lc := fun k hk e => n3 k e k (List.mem_append_right _ hk) rfl
  have hABn : ∀ k ∈ LA ++ LB, k ∉ nodeL b v u := fun k hk e => n6 k e k hk rfl
  have hABr : ∀ k ∈ LA ++ LB, k ≠ r := fun k hk e => by have := hABlt k hk; omega
  have hABX : ∀ k ∈ LA ++ LB, k ∉ LX := fun k hk e => by
    rcases hT.2 k e with h | h
    · exact hABc k hk h
    · have := hABlt k hk; omega
  have a1 : TreesP w' bA A LA := (k1.mod hT.1 (fun k hk => hABc k (List.mem_append_left _ hk))).mod hm (fun k hk e => e.elim (hABn k (List.mem_append_left _ hk)) (hABr k (List.mem_append_left _ hk)))
  have a3 : TreesP w' bB B LB := (k3.mod hT.1 (fun k hk => hABc k (List.mem_append_right _ hk))).mod hm (fun k hk e => e.elim (hABn k (List.mem_append_right _ hk)) (hABr k (List.mem_append_right _ hk)))
  have hXm : ∀ k ∈ LX, ¬ (k ∈ nodeL b v u ∨ k = r) := fun k hk e => e.elim (hr3 k hk) (fun e => hr1 (e ▸ hk))
  have hX4 : ∀ k ∈ LX, k < w4.heap.size := by
    rcases hP.2.2 with ⟨_, t', q1, _⟩ | ⟨c2, t1, t2, L1, L2, _, q1, q2, q3, _⟩
    · exact q1.lts
    · intro k hk
      rcases List.mem_append.1 (q3.mem_iff.1 hk) with h | h
      · exact q1.lts k h
      · exact q2.lts k h
  have hABnd : (LA ++ LB).Nodup := n5
  have hsz := hT.1.size
  -- what is turned
  have hMod : Mod (· ∈ L) w w' := by
    refine (hT.1.mono (fun k _ hk => hcm.mem_iff.2 (List.mem_append_left _ hk))).then hm (fun k hk e => ?_)
    rcases e with e | e
    · exact hcm.mem_iff.2 (List.mem_append_right _ (List.mem_append_left _ e))
    · omega
  -- the list of the blocks behind: the node's own (D), the child's (LX), the others'
  have final : ∀ D : List Nat, D.Nodup → (∀ k ∈ D, k ∈ nodeL b v u ∨ w4.heap.size ≤ k) → (D ++ (LX ++ (LA ++ LB))).Nodup ∧ Turn L w w' (D ++ (LX ++ (LA ++ LB))) := by
    intro D hD hDk
    refine ⟨List.nodup_append.2 ⟨hD, List.nodup_append.2 ⟨hP.2.1, hABnd, fun x hx y hy e => hABX y hy (e ▸ hx)⟩, fun x hx y hy e => ?_⟩, hMod, fun k hk => ?_⟩
    · subst e
      rcases List.mem_append.1 hy with hy | hy
      · rcases hDk x hx with h | h
        · exact hr3 x hy h
        · have := hX4 x hy; omega
      · rcases hDk x hx with h | h
        · exact hABn x hy h
        · have := hABlt x hy; omega
    · rcases List.mem_append.1 hk with hk | hk
      · rcases hDk k hk with h | h
        · exact .inl (hcm.mem_iff.2 (List.mem_append_right _ (List.mem_append_left _ h)))
        · right; omega
      · rcases List.mem_append.1 hk with hk | hk
        · rcases hT.2 k hk with h | h
          · exact .inl (hcm.mem_iff.2 (List.mem_append_left _ h))
          · exact .inr h
        · exact .inl (hcm.mem_iff.2 (List.mem_append_right _ (List.mem_append_right _ hk)))
  have hXp : ∀ {L1 L2 : List Nat}, LX.Perm (L1 ++ L2) → (LA ++ (L1 ++ (L2 ++ LB))).Perm (LX ++ (LA ++ LB)) := by
    intro L1 L2 hx
    have e1 : (LX ++ (LA ++ LB)).Perm (LA ++ (LX ++ LB)) := List.perm_append_comm_assoc _ _ _
    refine List.Perm.trans ?_ e1.symm
    refine List.Perm.append_left LA ?_
    rw [← List.append_assoc]
    exact (hx.append_right LB).symm
  rcases hcase with ⟨rfl, rfl, q1⟩ | ⟨c2, v', u', rfl, rfl, q1, q2, q3, q4⟩ | ⟨c2, up2, xl, xr, C, v1, v2, u1, u2, bl, br, rfl, rfl, q1, q2, q3, q4, q5, q6, q7, q8, q9⟩
  · -- the child has taken it
    rcases hP.2.2 with ⟨_, t', p1, p2, p3, p4⟩ | ⟨c2, _, _, _, _, hq, _⟩
    · obtain ⟨f1, f2⟩ := final (nodeL b v u) n4 (fun k hk => .inl hk)
      refine ⟨(⟨#[]⟩, ⟨#[]⟩), none, _, rfl, f2, f1, .inl ⟨rfl, .mk (x1 ++ x2) (A ++ t' :: B), treeP_of q1 (TreesP.of_mid a1 (p1.mod hm hXm) a3), ?_, ?_, Nat.le_refl _⟩⟩
      · rw [its_focus hA hB, hins, p2]
      · unfold okT
        refine ⟨by simpa using o1, o2, fun s hs => ?_⟩
        rcases List.mem_append.1 hs with hs | hs
        · exact o3 s (by simp [hs])
        · rcases List.mem_cons.1 hs with rfl | hs
          · exact ⟨p3, Nat.le_trans (o3 tc (by simp)).2 p4⟩
          · exact o3 s (by simp [hs])
    · cases hq
  · rcases hP.2.2 with ⟨hq, _⟩ | ⟨c3, t1, t2, L1, L2, hq, p1, p2, p3, p4, p5, p6, p7, p8⟩
    · cases hq
    simp only [Option.some.injEq, Addr.mk.injEq, and_true] at hq
    subst hq
    have m1 := p1.mod hm (fun k hk => hXm k (p3.mem_iff.2 (List.mem_append_left _ hk)))
    have m2 := p2.mod hm (fun k hk => hXm k (p3.mem_iff.2 (List.mem_append_right _ hk)))
    obtain ⟨f1, f2⟩ := final (nodeL b v' u') q3 q4
    have htr : TreesP w' (bA ++ c :: c2 :: bB) (A ++ t1 :: t2 :: B) (LX ++ (LA ++ LB)) := (TreesP.append a1 (TreesP.cons m1 (TreesP.cons m2 a3))).perm (hXp p3).symm
    refine ⟨(⟨#[]⟩, ⟨#[]⟩), none, _, rfl, f2, f1, .inl ⟨rfl, .mk (x1 ++ up :: x2) (A ++ t1 :: t2 :: B), treeP_of q2 htr, ?_, ?_, by simp⟩⟩
    · have e5 := its_focus (x1 := x1) (x2 := up :: x2) (A := A) (B := t2 :: B) (t := t1) hA (by simp [hB])
      rw [e5, hins, ← p4, postT_cons]
      simp
    · unfold okT
      refine ⟨by simp at o1 ⊢; omega, q1, fun s hs => ?_⟩
      rcases List.mem_append.1 hs with hs | hs
      · exact o3 s (by simp [hs])
      · rcases List.mem_cons.1 hs with rfl | hs
        · exact ⟨p5, p7⟩
        · rcases List.mem_cons.1 hs with rfl | hs
          · exact ⟨p6, p8⟩
          · exact o3 s (by simp [hs])
  · rcases hP.2.2 with ⟨hq, _⟩ | ⟨c3, t1, t2, L1, L2, hq, p1, p2, p3, p4, p5, p6, p7, p8⟩
    · cases hq
    simp only [Option.some.injEq, Addr.mk.injEq, and_true] at hq
    subst hq
    have m1 := p1.mod hm (fun k hk => hXm k (p3.mem_iff.2 (List.mem_append_left _ hk)))
    have m2 := p2.mod hm (fun k hk => hXm k (p3.mem_iff.2 (List.mem_append_right _ hk)))
    obtain ⟨f1, f2⟩ := final (nodeL b v1 u1 ++ nodeL C v2 u2) q8 q9
    have htr : TreesP w' (bA ++ c :: c2 :: bB) (A ++ t1 :: t2 :: B) (LX ++ (LA ++ LB)) := (TreesP.append a1 (TreesP.cons m1 (TreesP.cons m2 a3))).perm (hXp p3).symm
    have hall : ∀ s ∈ A ++ t1 :: t2 :: B, okT d s ∧ 3 ≤ s.xs.length := by
      intro s hs
      rcases List.mem_append.1 hs with hs | hs
      · exact o3 s (by simp [hs])
      · rcases List.mem_cons.1 hs with rfl | hs
        · exact ⟨p5, p7⟩
        · rcases List.mem_cons.1 hs with rfl | hs
          · exact ⟨p6, p8⟩
          · exact o3 s (by simp [hs])
    have hitsAll : (Tree.mk (x1 ++ up :: x2) (A ++ t1 :: t2 :: B)).its = insS it (Tree.mk (x1 ++ x2) (A ++ tc :: B)).its := by
      have e5 := its_focus (x1 := x1) (x2 := up :: x2) (A := A) (B := t2 :: B) (t := t1) hA (by simp [hB])
      rw [e5, hins, ← p4, postT_cons]
      simp
    obtain ⟨T, hT2⟩ : ∃ T, T = A ++ t1 :: t2 :: B := ⟨_, rfl⟩
    have hTl : T.length = (x1 ++ up :: x2).length + 1 := by rw [hT2]; simp at o1 ⊢; omega
    rw [← hT2] at htr hall hitsAll
    have h4l : 4 ≤ T.length := by rw [hTl, q1]; simp; omega
    have hsp : T = T.take 4 ++ T.drop 4 := (List.take_append_drop _ _).symm
    have htl : (T.take 4).length = 4 := by rw [List.length_take]; omega
    have htr2 : (T.drop 4).length = 4 := by rw [List.length_drop, hTl, q1]; simp; omega
    rw [hsp] at htr
    obtain ⟨s1, s2, M1, M2, hbb, y1, y2, yp⟩ := TreesP.parts (T.take 4) htr
    have hs1 : s1.length = 4 := by rw [y1.len, htl]
    rw [q4] at hbb
    obtain ⟨rfl, rfl⟩ := List.append_inj hbb (by rw [q5, hs1])
    have g1 := treeP_of q6 y1
    have g2 := treeP_of q7 y2
    have gp : (nodeL b v1 u1 ++ nodeL C v2 u2 ++ (LX ++ (LA ++ LB))).Perm ((nodeL b v1 u1 ++ M1) ++ (nodeL C v2 u2 ++ M2)) := by
      refine (yp.append_left _).trans ?_
      rw [List.append_assoc, List.append_assoc]
      refine List.Perm.append_left _ ?_
      exact List.perm_append_comm_assoc _ _ _
    refine ⟨up2, some ⟨C, 0, none⟩, _, rfl, f2, f1, .inr ⟨C, .mk xl (T.take 4), .mk xr (T.drop 4), _, _, rfl, g1, g2, gp, ?_, ?_, ?_, ?_, ?_⟩⟩
    · rw [← hitsAll, q1]
      conv => rhs; rw [hsp]
      exact (its_split (by rw [htl, q2]) (by rw [htr2, q3])).symm
    · unfold okT
      exact ⟨by rw [htl, q2], by omega, fun s hs => hall s (List.mem_of_mem_take hs)⟩
    · unfold okT
      exact ⟨by rw [htr2, q3], by omega, fun s hs => hall s (List.mem_of_mem_drop hs)⟩
    · simp [q2]
    · simp [q3]

theorem put_ok : (d : Nat) → NPutOK d
  | 0 => put_leaf_ok
  | d + 1 => put_in_ok (put_ok d)
end Go.Proofs.YtmagddchjidamaaGreatDoor
