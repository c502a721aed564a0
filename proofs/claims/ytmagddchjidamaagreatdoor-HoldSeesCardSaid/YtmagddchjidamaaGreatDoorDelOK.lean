/- (*shelf.node).del at every depth. -/
import Derived.Test.YtmagddchjidamaaGreatDoorDelNode
namespace Go.Proofs.YtmagddchjidamaaGreatDoor
set_option linter.unusedSimpArgs false
set_option linter.unusedVariables false
open Go.RowKit Go.Shelf
attribute [local go_sem ↓] Go.wp_at_zero Go.wp_at_succ

/-- what del makes of a tree -/
def DelR (w : World) (b d : Nat) (t : Tree) (L : List Nat) (k : ByteArray) (w' : World) : Prop :=
  ∃ t' L', TreeP w' b t' L' ∧ okT d t' ∧ L'.Nodup ∧ Turn L w w' L' ∧ t'.its = delS k t.its ∧ t.xs.length ≤ t'.xs.length + 1 ∧ (getS k t.its = none → t.xs.length ≤ t'.xs.length)

def NDelOK (d : Nat) : Prop := ∀ (w : World) (b : Nat) (t : Tree) (L : List Nat) (k : ByteArray), TreeP w b t L → okT d t → L.Nodup → Rising t.its → (∀ x ∈ t.its, x.1.size ≤ 1000000) → k.size ≤ 1000000 → (d = 0 ∨ 1 ≤ t.xs.length) →
  Calls Tryz.prog 74 #[.pointer (some ⟨b, 0, none⟩), .string k] w fun e w' => e = .returned (.bool (getS k t.its).isSome) ∧ DelR w b d t L k w'

/-- one child turned -/
theorem child_turn {w : World} {b : Nat} {xs : List Itm} {A B : List Tree} {t : Tree} {L : List Nat} (h : TreeP w b (.mk xs (A ++ t :: B)) L) (hn : L.Nodup) :
    ∃ gu cu c Lc, w.cell? ⟨b, 1, none⟩ = some (.slice (some ⟨gu, 0, none⟩) (A ++ t :: B).length cu) ∧ (A ++ t :: B).length ≤ cu ∧ w.cell? ⟨gu, A.length, none⟩ = some (.pointer (some ⟨c, 0, none⟩)) ∧ TreeP w c t Lc ∧ Lc.Nodup ∧
      ∀ (w' : World) (t' : Tree) (Lc' : List Nat), TreeP w' c t' Lc' → Lc'.Nodup → Turn Lc w w' Lc' → ∃ L', TreeP w' b (.mk xs (A ++ t' :: B)) L' ∧ L'.Nodup ∧ Turn L w w' L' := by
  obtain ⟨v, u, bs, Ls, h1, h2, hp⟩ := h.open
  have hl := h2.len
  obtain ⟨bA, c, bB, LA, Lc, LB, rfl, hbA, k1, k2, k3, kp⟩ := h2.mid
  have hN := h1
  obtain ⟨g, cap, e, hc, _⟩ := Nd.uform (x := ⟨b, v, xs, u, bA ++ c :: bB⟩) hN (by simp)
  have hk := Nd.kid (x := ⟨b, v, xs, u, bA ++ c :: bB⟩) hN e (b1 := bA) (c := c) (b2 := bB) rfl
  have x1 := (Nd.cv (x := ⟨b, v, xs, u, bA ++ c :: bB⟩) hN).2.1
  dsimp only at e hc x1
  rw [e, hl] at x1
  rw [hbA] at hk
  have hcm : L.Perm (Lc ++ (nodeL b v u ++ (LA ++ LB))) := hp.trans ((kp.append_left _).trans (List.perm_append_comm_assoc _ _ _))
  have hnd := (hcm.nodup_iff).1 hn
  refine ⟨g, cap, c, Lc, x1, by rw [← hl]; exact hc, hk, k2, (List.nodup_append.1 hnd).1, fun w' t' Lc' ht' hn' hT => ?_⟩
  have hlt : ∀ k ∈ nodeL b v u ++ (LA ++ LB), k < w.heap.size := fun k hk => by
    rcases List.mem_append.1 hk with hk | hk
    · exact h1.lts k hk
    · rcases List.mem_append.1 hk with hk | hk
      · exact k1.lts k hk
      · exact k3.lts k hk
  obtain ⟨q1, q2, q3⟩ := turn_frame hnd hT hn' hlt
  have m1 := h1.mod hT.1 (fun k hk => q3 k (List.mem_append_left _ hk))
  have m2 := k1.mod hT.1 (fun k hk => q3 k (by simp [hk]))
  have m3 := k3.mod hT.1 (fun k hk => q3 k (by simp [hk]))
  refine ⟨_, (treeP_of m1 (TreesP.of_mid m2 ht' m3)).perm (List.Perm.symm ?_), q1, q2.perm hcm.symm (List.Perm.refl _)⟩
  exact List.perm_append_comm_assoc _ _ _

theorem delS_same {k : ByteArray} {l : List Itm} (h : getS k l = none) : delS k l = l := delS_none (get_none_any h)

set_option maxRecDepth 100000 in
set_option maxHeartbeats 8000000 in
theorem del_leaf_ok : NDelOK 0 := by
  intro w b t L k ht ho hn hr hs hk _
  obtain ⟨xs, ts⟩ := t
  unfold okT at ho
  obtain ⟨rfl, hw⟩ := ho
  rw [its_leaf] at hr hs ⊢
  have ht0 := ht
  obtain ⟨v, u, bs, Ls, h1, h2, hp⟩ := ht.open
  have hbs : bs = [] := List.eq_nil_of_length_eq_zero h2.len
  subst hbs
  unfold TreesP at h2
  subst h2
  rw [List.append_nil] at hp
  have hplace := place_any h1 k (by omega) hk hs
  have hleaf := fun W (hm : Mod NoB w W) => leaf_node (NodeAt.mod h1 hm (fun _ _ e => e))
  have HPL := Lib.hid hplace; have HLF := Lib.hid hleaf
  clear hplace hleaf
  rcases plc_spec (k := k) hr with ⟨x1, vv, x2, rfl, e2, e3, e4⟩ | ⟨x1, x2, rfl, e2, e3, e4⟩
  · rw [e2] at HPL
    dsimp only at HPL
    obtain ⟨gv, cv, ev, lv, _, _, gvn⟩ := Nd.vform (x := ⟨b, v, x1 ++ (k, vv) :: x2, u, []⟩) h1 (by simp)
    dsimp only at ev lv gvn
    obtain ⟨c0, c1, f0, f1, hlt⟩ := Nd.cv (x := ⟨b, v, x1 ++ (k, vv) :: x2, u, []⟩) h1
    dsimp only at c0 c1 f0 f1 hlt
    have hnn := (hp.nodup_iff).1 hn
    have hgb := (gvn hnn).1
    obtain ⟨n, hnl⟩ : ∃ n, n = (x1 ++ (k, vv) :: x2).length := ⟨_, rfl⟩
    rw [← hnl] at ev lv
    rw [ev] at c0
    have hin : x1.length < n := by rw [hnl]; simp
    have hw1 : IntKind.i64.wrap ((x1.length : Int) + 1) = (x1.length : Int) + 1 := (wraps_small x1.length (by omega)).2.1
    have hdel : ∀ W, Mod NoB w W → Calls Tryz.prog 95 #[.slice (some ⟨gv, 0, none⟩) n cv, .int .i64 (x1.length : Int), .int .i64 ((x1.length : Int) + 1)] W (fun e w' => e = .returned (.slice (some ⟨gv, 0, none⟩) (n - 1) cv) ∧ RowIt w' (.slice (some ⟨gv, 0, none⟩) (n - 1) cv) (n - 1) (((x1 ++ (k, vv) :: x2).flatMap encIt).take (x1.length * 2) ++ ((x1 ++ (k, vv) :: x2).flatMap encIt).drop (x1.length * 2 + 2)) ∧ Mod (· = gv) W w') := fun W hm =>
      delAtIt (i := x1.length) (by have := Nd.row (x := ⟨b, v, x1 ++ (k, vv) :: x2, u, []⟩) h1 W hm; dsimp only at this; rwa [ev, ← hnl] at this) (flat_one (fun _ _ hu => oneIt hu)) hin
    have e6 : ((x1 ++ (k, vv) :: x2).flatMap encIt).take (x1.length * 2) ++ ((x1 ++ (k, vv) :: x2).flatMap encIt).drop (x1.length * 2 + 2) = (x1 ++ x2).flatMap encIt := by
      rw [show x1.length * 2 + 2 = (x1.length + 1) * 2 by omega, flat_take (k := 2) (fun _ => rfl), flat_drop (k := 2) (fun _ => rfl), ← List.flatMap_append]
      congr 1
      simp
    rw [e6] at hdel
    have hsome := set_item (v := vv) hr
    have H1 := Lib.hid h1; have HDEL := Lib.hid hdel; have HNN := Lib.hid hnn; have EV := Lib.hid ev; have HP := Lib.hid hp; have HNL := Lib.hid hnl; have HGB := Lib.hid hgb; have HS := Lib.hid hsome; have HW := Lib.hid hw
    have hbo : (getS k (x1 ++ (k, vv) :: x2)).isSome = true := by rw [hsome.2.1]; rfl
    have HBO := Lib.hid hbo
    have BB : Hid (w.heap[b]? = some (.cells #[.slice (some ⟨gv, 0, none⟩) n cv, u] 126 (0, 0))) := Lib.hid (by have := h1.1; rw [ev] at this; exact this)
    clear ht ht0 hn hr hs h1 hp hdel hnn ev hnl gvn hgb hsome hbo e6 e2 e3 e4 c1 f1 hw
    go_enter Tryz.func74, Tryz.ntmps74
    go_wp2_with (first
      | (go_at_call 94; refine HPL.out.mono ?_; rintro e w1 ⟨rfl, hm1⟩; have HM1 := Lib.hid hm1; have k0 := hm1.cellS c0; have kf := (hm1.frozen (p := ⟨b, 0, none⟩) hlt (fun x => x)).trans f0; clear hm1)
      | (go_at_call 75; refine (HLF.out _ HM1.out).mono ?_; rintro e w2 ⟨rfl, rfl⟩)
      | (go_at_call 95; refine (HDEL.out _ HM1.out).mono ?_; rintro e w5 ⟨rfl, hr5, hm5⟩; have kb := heap_keep2 BB.out hm5 HM1.out (fun e => HGB.out e.symm); have k5 : w5.cell? ⟨b, 0, none⟩ = some (.slice (some ⟨gv, 0, none⟩) n cv) := cell_of kb 0 rfl; have kf5 := frozen_of kb 0; have HR5 := Lib.hid hr5; have HM5 := Lib.hid (then2 (Mod.refl NoB w) hm5 HM1.out); clear hr5 hm5 kb))
    go_ret
    have hl2 : (x1 ++ x2).length = n - 1 := by have := HNL.out; rw [this]; simp
    obtain ⟨_, q1, q2, q3⟩ := chg_items (x := ⟨b, .slice (some ⟨gv, 0, none⟩) n cv, x1 ++ (k, vv) :: x2, u, []⟩) (v' := .slice (some ⟨gv, 0, none⟩) (n - 1) cv) (xs' := x1 ++ x2) (by have := H1.out; rw [EV.out] at this; exact this) (by have := HNN.out; rw [EV.out] at this; exact this) (HM5.out.mono (fun k _ e => by subst e; simp [ownL, Value.ownBlock])) (by rw [hl2]; exact HR5.out) (fun k hk => .inl hk)
    have htr := treeP_of (Ls := []) (ts := []) q1 (TreesP.nil _)
    have hpp := HP.out
    rw [EV.out] at hpp
    refine ⟨by rw [HBO.out]; rfl, .mk (x1 ++ x2) [], _, htr, ?_, by simpa using q2, ?_, ?_, by simp; omega, fun e => ?_⟩
    · unfold okT
      refine ⟨rfl, ?_⟩
      have := HW.out
      simp at this ⊢
      omega
    · rw [List.append_nil]
      exact q3.perm hpp.symm (List.Perm.refl _)
    · rw [its_leaf, its_leaf]
      exact HS.out.2.2.symm
    · rw [its_leaf] at e
      have := HBO.out
      rw [e] at this
      cases this
  · rw [e2] at HPL
    dsimp only at HPL
    have hnone : getS k (x1 ++ x2) = none := getS_none fun x hx => by
      rcases List.mem_append.1 hx with hx | hx
      · exact e3.ne x hx
      · exact e4.ne x hx
    have HT := Lib.hid ht0; have HN := Lib.hid hn; have HNO := Lib.hid hnone; have HW := Lib.hid hw
    clear ht ht0 hn hr hs h1 hp e2 e3 e4 hw hnone
    go_enter Tryz.func74, Tryz.ntmps74
    go_wp2_with (first
      | (go_at_call 94; refine HPL.out.mono ?_; rintro e w1 ⟨rfl, hm1⟩; have HM1 := Lib.hid hm1; clear hm1)
      | (go_at_call 75; refine (HLF.out _ HM1.out).mono ?_; rintro e w2 ⟨rfl, rfl⟩))
    go_ret
    refine ⟨by rw [HNO.out]; rfl, .mk (x1 ++ x2) [], L, HT.out.mod HM1.out (fun _ _ e => e), ?_, HN.out, Turn.of_no HM1.out, ?_, Nat.le_succ _, fun _ => Nat.le_refl _⟩
    · unfold okT
      exact ⟨rfl, HW.out⟩
    · rw [its_leaf, delS_same HNO.out]

/-- the key is not in the node itself -/
theorem del_down_ok {d : Nat} (ih : NDelOK d) {w : World} {b : Nat} {x1 x2 : List Itm} {A B : List Tree} {tc : Tree} {L : List Nat} {k : ByteArray} (ht : TreeP w b (.mk (x1 ++ x2) (A ++ tc :: B)) L) (ho : okT (d + 1) (.mk (x1 ++ x2) (A ++ tc :: B))) (hn : L.Nodup) (hr : Rising (Tree.mk (x1 ++ x2) (A ++ tc :: B)).its)
    (hs : ∀ x ∈ (Tree.mk (x1 ++ x2) (A ++ tc :: B)).its, x.1.size ≤ 1000000) (hk : k.size ≤ 1000000) (hne : 1 ≤ (x1 ++ x2).length) (hA : A.length = x1.length) (hB : B.length = x2.length) (e2 : plc k (x1 ++ x2) = (x1.length, false)) (e3 : AllLt x1 k) (e4 : AllGt x2 k) :
    Calls Tryz.prog 74 #[.pointer (some ⟨b, 0, none⟩), .string k] w fun e w' => e = .returned (.bool (getS k (Tree.mk (x1 ++ x2) (A ++ tc :: B)).its).isSome) ∧ DelR w b (d + 1) (.mk (x1 ++ x2) (A ++ tc :: B)) L k w' := by
  obtain ⟨r1, r2, r3⟩ := around hA hB hr e3 e4
  have hok := ho
  unfold okT at ho
  obtain ⟨o1, o2, o3⟩ := ho
  have htc := o3 tc (by simp)
  obtain ⟨v, u, bs, Ls, h1, h2, hp⟩ := ht.open
  have hl := h2.len
  have hplace := place_any h1 k (by omega) hk (fun x hx => hs x (hok.mem hx))
  rw [e2] at hplace
  have hleaf := fun W (hm : Mod NoB w W) => leaf_node (NodeAt.mod h1 hm (fun _ _ e => e))
  have hb0 : ¬ bs.length = 0 := by rw [hl]; simp
  obtain ⟨gu, cu, c, Lc, c1, hcu, ck, tcx, tcn, hback⟩ := child_turn ht hn
  have hget : getS k (Tree.mk (x1 ++ x2) (A ++ tc :: B)).its = getS k tc.its := by rw [its_focus hA hB, getS_mid r1 r2]
  have hdelS : delS k (Tree.mk (x1 ++ x2) (A ++ tc :: B)).its = preT x1 A ++ delS k tc.its ++ postT x2 B := by rw [its_focus hA hB, delS_mid r1 r2]
  have hcall := fun W (hm : Mod NoB w W) => ih W c tc Lc k (tcx.mod hm (fun _ _ e => e)) htc.1 tcn r3 (fun x hx => hs x (by rw [its_focus hA hB]; simp [hx])) hk (.inr (by have := htc.2; omega))
  rw [hget]
  have hAx : x1.length < (A ++ tc :: B).length := by simp; omega
  obtain ⟨n, hnn⟩ : ∃ n, n = (A ++ tc :: B).length := ⟨_, rfl⟩
  have hn7 : n ≤ 7 := by rw [hnn, o1]; omega
  rw [← hnn] at c1 hcu hAx
  rw [hA] at ck
  have HPL := Lib.hid hplace; have HLF := Lib.hid hleaf; have HCALL := Lib.hid hcall; have HB0 := Lib.hid hb0; have HBK := Lib.hid hback
  have HT := Lib.hid ht; have HN := Lib.hid hn; have HOK := Lib.hid hok; have HDS := Lib.hid hdelS; have HGET := Lib.hid hget; have HO3 := Lib.hid o3; have HO1 := Lib.hid o1; have HO2 := Lib.hid o2; have HNE := Lib.hid hne; have HAA := Lib.hid hA; have HBB := Lib.hid hB
  clear ht hok hn hr hs h1 h2 hp hl hplace hleaf hcall hback tcx tcn hget hdelS r1 r2 r3 o1 o2 o3 e2 e3 e4 htc hnn
  -- what comes behind the child's turn
  have hfin : ∀ (w3 w' : World) (hm : Mod NoB w w3), DelR w3 c d tc Lc k w' → ∃ tc' L2, TreeP w' b (.mk (x1 ++ x2) (A ++ tc' :: B)) L2 ∧ L2.Nodup ∧ Turn L w w' L2 ∧ okT d tc' ∧ tc'.its = delS k tc.its ∧ tc.xs.length ≤ tc'.xs.length + 1 ∧ (getS k tc.its = none → tc.xs.length ≤ tc'.xs.length) := by
    rintro w3 w' hm ⟨tc', Lc', q1, q2, q3, q4, q5, q6, q7⟩
    obtain ⟨L2, z1, z2, z3⟩ := HBK.out w' tc' Lc' q1 q3 ((Turn.of_no hm).trans q4)
    exact ⟨tc', L2, z1, z2, z3, q2, q5, q6, q7⟩
  have HFIN := Lib.hid hfin
  clear hfin
  cases hg : getS k tc.its with
  | none =>
    have HG := Lib.hid hg
    rw [hg] at HCALL
    clear hg
    go_enter Tryz.func74, Tryz.ntmps74
    go_wp2_with (first
      | (go_at_call 94; refine HPL.out.mono ?_; rintro e w1 ⟨rfl, hm1⟩; have HM1 := Lib.hid hm1; have k1 := hm1.cellS c1; have k2 := hm1.cellS ck; clear hm1)
      | (go_at_call 75; refine (HLF.out _ HM1.out).mono ?_; rintro e w2 ⟨rfl, rfl⟩; have hb1 := HB0.out)
      | (go_at_call 74; refine (HCALL.out _ HM1.out).mono ?_; rintro e w3 ⟨rfl, hd⟩; have HD := Lib.hid hd; clear hd))
    go_ret
    obtain ⟨tc', L2, z1, z2, z3, z4, z5, z6, z7⟩ := HFIN.out _ _ HM1.out HD.out
    refine ⟨rfl, _, L2, z1, ?_, z2, z3, ?_, Nat.le_succ _, fun _ => Nat.le_refl _⟩
    · unfold okT
      refine ⟨by have := HO1.out; simpa using this, HO2.out, fun s hs => ?_⟩
      rcases List.mem_append.1 hs with hs | hs
      · exact HO3.out s (by simp [hs])
      · rcases List.mem_cons.1 hs with rfl | hs
        · exact ⟨z4, Nat.le_trans (HO3.out tc (by simp)).2 (z7 HG.out)⟩
        · exact HO3.out s (by simp [hs])
    · rw [HDS.out, its_focus HAA.out HBB.out, z5]
  | some vv =>
    rw [hg] at HCALL
    have HG := Lib.hid hg
    clear hg
    go_enter Tryz.func74, Tryz.ntmps74
    go_wp2_with (first
      | (go_at_call 94; refine HPL.out.mono ?_; rintro e w1 ⟨rfl, hm1⟩; have HM1 := Lib.hid hm1; have k1 := hm1.cellS c1; have k2 := hm1.cellS ck; clear hm1)
      | (go_at_call 75; refine (HLF.out _ HM1.out).mono ?_; rintro e w2 ⟨rfl, rfl⟩; have hb1 := HB0.out)
      | (go_at_call 74; refine (HCALL.out _ HM1.out).mono ?_; rintro e w3 ⟨rfl, hd⟩; obtain ⟨tc', L2, z1, z2, z3, z4, z5, z6, z7⟩ := HFIN.out _ _ HM1.out hd; have HF := Lib.hid (fill_ok (d := d) z1 z2 (by have := HO1.out; simpa using this) HO2.out HNE.out z4 (by have := (HO3.out tc (by simp)).2; omega) (fun q hq => HO3.out q (by simp at hq ⊢; rcases hq with e | e <;> simp [e]))); rw [HAA.out] at HF; have Z3 := Lib.hid z3; have Z5 := Lib.hid z5; clear hd z1 z2 z3 z4 z5 z6 z7)
      | (go_at_call 97; refine HF.out.mono ?_; rintro e w4 ⟨⟨fv, rfl⟩, hf⟩; have HFR := Lib.hid hf; clear hf))
    go_ret
    obtain ⟨t', L', y1, y2, y3, y4, y5, y6⟩ := HFR.out
    refine ⟨rfl, t', L', y1, y2, y3, Z3.out.trans y4, ?_, y6, fun e => ?_⟩
    · rw [HDS.out, y5, its_focus HAA.out HBB.out, Z5.out]
    · rw [HGET.out, HG.out] at e
      cases e

/-- an item of a node stored -/
theorem set_tree {w : World} {b : Nat} {x1 x2 : List Itm} {y : Itm} {ts : List Tree} {L : List Nat} (h : TreeP w b (.mk (x1 ++ y :: x2) ts) L) (hn : L.Nodup) :
    ∃ g cap, w.cell? ⟨b, 0, none⟩ = some (.slice (some ⟨g, 0, none⟩) (x1 ++ y :: x2).length cap) ∧ (x1 ++ y :: x2).length ≤ cap ∧ w.cell? ⟨g, x1.length * 2, none⟩ = some (.string y.1) ∧ w.cell? ⟨g, x1.length * 2 + 1, none⟩ = some (.string y.2) ∧
      w.frozen? ⟨g, x1.length * 2, none⟩ = false ∧ w.frozen? ⟨g, x1.length * 2 + 1, none⟩ = false ∧ g < w.heap.size ∧
      ∀ (W : World) (z : Itm), Mod NoB w W → TreeP ((W.setCell ⟨g, x1.length * 2, none⟩ (.string z.1)).setCell ⟨g, x1.length * 2 + 1, none⟩ (.string z.2)) b (.mk (x1 ++ z :: x2) ts) L ∧ Turn L w ((W.setCell ⟨g, x1.length * 2, none⟩ (.string z.1)).setCell ⟨g, x1.length * 2 + 1, none⟩ (.string z.2)) L := by
  obtain ⟨v, u, bs, Ls, h1, h2, hp⟩ := h.open
  obtain ⟨g, cap, ev, lv, gL, gv, gn⟩ := Nd.vform (x := ⟨b, v, x1 ++ y :: x2, u, bs⟩) h1 (by simp)
  obtain ⟨i0, i1, iff⟩ := Nd.item (x := ⟨b, v, x1 ++ y :: x2, u, bs⟩) h1 ev rfl
  have x1c := (Nd.cv (x := ⟨b, v, x1 ++ y :: x2, u, bs⟩) h1).1
  have hnd := (hp.nodup_iff).1 hn
  obtain ⟨n1, n2, n3⟩ := List.nodup_append.1 hnd
  dsimp only at ev lv gL gv gn x1c
  rw [ev] at x1c
  refine ⟨g, cap, x1c, lv, i0, i1, iff _, iff _, h1.lts g gL, fun W z hm => ?_⟩
  have hc := chg_setItem (z := z) (x := ⟨b, v, x1 ++ y :: x2, u, bs⟩) (NodeAt.mod h1 hm (fun _ _ e => e)) n1 ev rfl rfl
  obtain ⟨_, q1, q2, q3⟩ := hc
  have hlt : ∀ k ∈ Ls, k < W.heap.size := fun k hk => Nat.lt_of_lt_of_le (h2.lts k hk) hm.size
  obtain ⟨f1, f2, f3⟩ := turn_frame hnd q3 q2 hlt
  exact ⟨(treeP_of q1 ((h2.mod hm (fun _ _ e => e)).mod q3.1 f3)).perm hp, (Turn.of_no hm).trans (f2.perm hp.symm hp)⟩

/-- the key is in the node itself -/
theorem del_at_ok {d : Nat} (ih : NDelOK d) {w : World} {b : Nat} {x1 x2 : List Itm} {vv : ByteArray} {A B : List Tree} {tc s : Tree} {L : List Nat} {k : ByteArray} (ht : TreeP w b (.mk (x1 ++ (k, vv) :: x2) (A ++ tc :: s :: B)) L) (ho : okT (d + 1) (.mk (x1 ++ (k, vv) :: x2) (A ++ tc :: s :: B))) (hn : L.Nodup) (hr : Rising (Tree.mk (x1 ++ (k, vv) :: x2) (A ++ tc :: s :: B)).its)
    (hs : ∀ x ∈ (Tree.mk (x1 ++ (k, vv) :: x2) (A ++ tc :: s :: B)).its, x.1.size ≤ 1000000) (hk : k.size ≤ 1000000) (hA : A.length = x1.length) (hB : B.length = x2.length) (e2 : plc k (x1 ++ (k, vv) :: x2) = (x1.length, true)) :
    Calls Tryz.prog 74 #[.pointer (some ⟨b, 0, none⟩), .string k] w fun e w' => e = .returned (.bool (getS k (Tree.mk (x1 ++ (k, vv) :: x2) (A ++ tc :: s :: B)).its).isSome) ∧ DelR w b (d + 1) (.mk (x1 ++ (k, vv) :: x2) (A ++ tc :: s :: B)) L k w' := by
  have hok := ho
  unfold okT at ho
  obtain ⟨o1, o2, o3⟩ := ho
  have htc := o3 tc (by simp)
  obtain ⟨P, z, hz⟩ := htc.1.its_ne (by intro e; have := htc.2; rw [e] at this; simp at this)
  obtain ⟨v, u, bs, Ls, h1, h2, hp⟩ := ht.open
  have hl := h2.len
  have hplace := place_any h1 k (by omega) hk (fun x hx => hs x (hok.mem hx))
  rw [e2] at hplace
  have hleaf := fun W (hm : Mod NoB w W) => leaf_node (NodeAt.mod h1 hm (fun _ _ e => e))
  have hb0 : ¬ bs.length = 0 := by rw [hl]; simp
  obtain ⟨gu, cu, c, Lc, c1, hcu, ck, tcx, tcn, _⟩ := child_turn ht hn
  have hlast := fun W (hm : Mod NoB w W) => last_ok (w := W) (tcx.mod hm (fun _ _ e => e)) htc.1 (by omega) hz
  obtain ⟨g, cap, g0, gl, gi0, gi1, gf0, gf1, glt, hset⟩ := set_tree ht hn
  -- the items
  have hrz : Rising (P ++ [z]) := by
    rw [its_pair hA hB, hz, rising_append, rising_append, rising_append] at hr
    exact hr.1.2.1.1
  have hdz : delS z.1 tc.its = P := by
    have := (set_item (v := z.2) (show Rising (P ++ (z.1, z.2) :: []) from hrz)).2.2
    rw [hz]
    simpa using this
  have hgz : getS z.1 tc.its = some z.2 := by
    have := (set_item (v := z.2) (show Rising (P ++ (z.1, z.2) :: []) from hrz)).2.1
    rw [hz]
    exact this
  have hold : (Tree.mk (x1 ++ (k, vv) :: x2) (A ++ tc :: s :: B)).its = (preT x1 A ++ (P ++ [z])) ++ (k, vv) :: (s.its ++ postT x2 B) := by
    rw [its_pair hA hB, hz]; simp
  have hdelS : delS k (Tree.mk (x1 ++ (k, vv) :: x2) (A ++ tc :: s :: B)).its = (preT x1 A ++ (P ++ [z])) ++ (s.its ++ postT x2 B) := by
    rw [hold] at hr ⊢
    exact (set_item (v := vv) hr).2.2
  have hgetS : getS k (Tree.mk (x1 ++ (k, vv) :: x2) (A ++ tc :: s :: B)).its = some vv := by
    rw [hold] at hr ⊢
    exact (set_item (v := vv) hr).2.1
  have hnew : ∀ tc' : Tree, tc'.its = P → (Tree.mk (x1 ++ z :: x2) (A ++ tc' :: s :: B)).its = (preT x1 A ++ (P ++ [z])) ++ (s.its ++ postT x2 B) := fun tc' e => by
    rw [its_pair hA hB, e]; simp
  have hzs : z.1.size ≤ 1000000 := hs z (by rw [hold]; simp)
  have htcs : ∀ x ∈ tc.its, x.1.size ≤ 1000000 := fun x hx => hs x (by rw [hold]; rw [hz] at hx; simp only [List.mem_append] at hx ⊢; exact .inl (.inr hx))
  have hxl : x1.length < (x1 ++ (k, vv) :: x2).length := by simp
  have hAx : x1.length < (A ++ tc :: s :: B).length := by simp; omega
  have hLlt : ∀ q ∈ L, q < w.heap.size := ht.lts
  obtain ⟨n, hnn⟩ : ∃ n, n = (A ++ tc :: s :: B).length := ⟨_, rfl⟩
  obtain ⟨m, hmm⟩ : ∃ m, m = (x1 ++ (k, vv) :: x2).length := ⟨_, rfl⟩
  have hn7 : n ≤ 7 := by rw [hnn, o1]; omega
  have hm6 : m ≤ 6 := by rw [hmm]; exact o2
  rw [← hnn] at c1 hcu hAx
  rw [← hmm] at g0 gl hxl
  rw [hA] at ck
  rw [hgetS]
  have HPL := Lib.hid hplace; have HLF := Lib.hid hleaf; have HB0 := Lib.hid hb0; have HLAST := Lib.hid hlast; have HSET := Lib.hid hset
  have HT := Lib.hid ht; have HN := Lib.hid hn; have HOK := Lib.hid hok; have HDS := Lib.hid hdelS; have HGET := Lib.hid hgetS; have HO3 := Lib.hid o3; have HO1 := Lib.hid o1; have HO2 := Lib.hid o2; have HAA := Lib.hid hA; have HBB := Lib.hid hB
  have HNEW := Lib.hid hnew; have HDZ := Lib.hid hdz; have HGZ := Lib.hid hgz; have HRZ := Lib.hid hrz; have HZ := Lib.hid hz; have HZS := Lib.hid hzs; have HTCS := Lib.hid htcs; have HTC := Lib.hid htc; have HLT := Lib.hid hLlt
  clear ht hok hn hr hs h1 h2 hp hl hplace hleaf hlast hset tcx tcn hgetS hdelS hold hnew o1 o2 o3 e2 htc hnn hmm hdz hgz hrz hz hzs htcs hb0 hLlt
  go_enter Tryz.func74, Tryz.ntmps74
  go_upto_region 8 with (first
      | (go_at_call 94; refine HPL.out.mono ?_; rintro e w1 ⟨rfl, hm1⟩; have HM1 := Lib.hid hm1; have k1 := hm1.cellS c1; have k2 := hm1.cellS ck; clear hm1)
      | (go_at_call 75; refine (HLF.out _ HM1.out).mono ?_; rintro e w2 ⟨rfl, rfl⟩; have hb1 := HB0.out)
      | (go_at_call 96; refine (HLAST.out _ HM1.out).mono ?_; rintro e w3 ⟨rfl, hm3⟩; have HM3 := Lib.hid (HM1.out.trans hm3); clear hm3))
  obtain ⟨r, hr⟩ : ∃ r, r = w3.heap.size := ⟨_, rfl⟩
  obtain ⟨Wa, hWa⟩ : ∃ Wa, Wa = w3.alloc (.cells #[.string z.1, .string z.2] 43) := ⟨_, rfl⟩
  have hra : Wa.heap[r]? = some (.cells #[.string z.1, .string z.2] 43 (0, 0)) := by rw [hWa, hr]; exact heap_alloc_new _ _
  have hma : Mod NoB w Wa := by rw [hWa]; exact HM3.out.alloc _
  have hrw : w.heap.size ≤ r := by rw [hr]; exact HM3.out.size
  rw [← hr, ← hWa]
  have a0 := hma.cellS g0
  have ai0 := hma.cellS gi0
  have ai1 := hma.cellS gi1
  have af0 := (hma.frozen (p := ⟨g, x1.length * 2, none⟩) glt (fun x => x)).trans gf0
  have af1 := (hma.frozen (p := ⟨g, x1.length * 2 + 1, none⟩) glt (fun x => x)).trans gf1
  have r0 : Wa.cell? ⟨r, 0, none⟩ = some (.string z.1) := cell_of hra 0 rfl
  have r1 : Wa.cell? ⟨r, 1, none⟩ = some (.string z.2) := cell_of hra 1 rfl
  have hgr : r ≠ g := by omega
  have hxi : (x1.length : Int) < (m : Int) := by omega
  have HMA := Lib.hid hma; have HRA := Lib.hid hra; have HRW := Lib.hid hrw
  clear k1 k2 hr hWa hma hra g0 gi0 gi1 gf0 gf1
  go_cut [] (fun wx => TreeP wx b (.mk (x1 ++ z :: x2) (A ++ tc :: s :: B)) L ∧ Turn L w wx L ∧ wx.heap[r]? = some (.cells #[.string z.1, .string z.2] 43 (0, 0)))
  case first =>
    go_region_law (fail)
    all_goals
      go_wp2_with fail
      go_meet
      have hd : Mod NoB ((Wa.setCell ⟨g, x1.length * 2, none⟩ (.string z.1)).setCell ⟨g, x1.length * 2 + 1, none⟩ (.string z.2)) ((Wa.setCell ⟨g, x1.length * 2, none⟩ (.string z.1)).setCell ⟨g, x1.length * 2 + 1, none⟩ (.string z.2)).drew := (Mod.refl _ _).drew
      obtain ⟨y1, y2⟩ := HSET.out Wa z HMA.out
      exact ⟨y1.mod hd (fun _ _ e => e), y2.trans (Turn.of_no hd), by show ((Wa.setCell ⟨g, x1.length * 2, none⟩ (.string z.1)).setCell ⟨g, x1.length * 2 + 1, none⟩ (.string z.2)).heap[r]? = _; rw [heap_set_other hgr, heap_set_other hgr]; exact HRA.out⟩
  case rest =>
    obtain ⟨W5, rfl⟩ : ∃ W5 : World, W5 = wc := ⟨_, rfl⟩
    obtain ⟨y1, y2, y3⟩ := hcut
    clear a0 ai0 ai1 af0 af1 r0 r1 c1 ck hcu hAx
    obtain ⟨gu5, cu5, c5, Lc5, c1, hcu, ck, tcx, tcn, hback⟩ := child_turn y1 HN.out
    have hcall := fun W (hm : Mod NoB W5 W) => ih W c5 tc Lc5 z.1 (tcx.mod hm (fun _ _ e => e)) HTC.out.1 tcn (by rw [HZ.out]; exact HRZ.out) HTCS.out HZS.out (.inr (by have := HTC.out.2; omega))
    have r0 : W5.cell? ⟨r, 0, none⟩ = some (.string z.1) := cell_of y3 0 rfl
    have hAx : x1.length < (A ++ tc :: s :: B).length := by have := HAA.out; simp; omega
    have hn7 : (A ++ tc :: s :: B).length ≤ 7 := by rw [HO1.out]; have := HO2.out; omega
    obtain ⟨n5, hn5⟩ : ∃ n, n = (A ++ tc :: s :: B).length := ⟨_, rfl⟩
    rw [← hn5] at c1 hcu hAx hn7
    rw [HAA.out] at ck
    have HCALL := Lib.hid hcall; have HBK := Lib.hid hback; have Y2 := Lib.hid y2
    clear y1 y2 y3 tcx tcn hback hcall hn5
    go_upto_region 9 with (fail)
    have hrest : ∀ w' w6, Mod NoB W5 w' → DelR w' c5 d tc Lc5 z.1 w6 → ∃ tc' L2, tc'.its = P ∧ Turn L w w6 L2 ∧ Calls Tryz.prog 97 #[.pointer (some ⟨b, 0, none⟩), .int .i64 (x1.length : Int)] w6 (fun e w' => (∃ v, e = .returned v) ∧ FillR w6 b d (x1 ++ z :: x2) (A ++ tc' :: s :: B) L2 w') := by
      rintro w' w6 hm ⟨tc', Lc', q1, q2, q3, q4, q5, q6, q7⟩
      obtain ⟨L2, z1, z2, z3⟩ := HBK.out _ tc' Lc' q1 q3 ((Turn.of_no hm).trans q4)
      have HF := fill_ok (d := d) z1 z2 (by have := HO1.out; simpa using this) (by have := HO2.out; simpa using this) (by simp; omega) q2 (by have := HTC.out.2; omega) (fun q hq => HO3.out q (by simp at hq ⊢; rcases hq with e | e | e <;> simp [e]))
      rw [HAA.out] at HF
      exact ⟨tc', L2, q5.trans HDZ.out, Y2.out.trans z3, HF⟩
    have HREST := Lib.hid hrest
    clear hrest
    go_region_law ((first | (go_simp; go_at_call 74; go_loud (refine (HCALL.out _ (by repeat (first | exact Mod.refl _ _ | refine Mod.alloc ?_ _ | refine Mod.drew ?_ | refine Mod.drewN ?_ _))).mono ?_; rintro e w6 ⟨rfl, hd6⟩; obtain ⟨tc', L2, z5, z3, hf⟩ := HREST.out _ w6 (by repeat (first | exact Mod.refl _ _ | refine Mod.alloc ?_ _ | refine Mod.drew ?_ | refine Mod.drewN ?_ _)) hd6; have HF := Lib.hid hf; have Z3 := Lib.hid z3; have Z5 := Lib.hid z5; clear hd6 hf z3 z5))))
    all_goals
      go_wp2_with (go_at_call 97; refine HF.out.mono ?_; rintro e w4 ⟨⟨fv, rfl⟩, hf⟩; have HFR := Lib.hid hf; clear hf)
      go_ret
      obtain ⟨t', L', y1, y2, y3, y4, y5, y6⟩ := HFR.out
      refine ⟨rfl, t', L', y1, y2, y3, Z3.out.trans y4, ?_, ?_, fun e => ?_⟩
      · rw [y5, HNEW.out tc' Z5.out, HDS.out]
      · simp at y6 ⊢; exact y6
      · rw [HGET.out] at e
        cases e

theorem del_ok : (d : Nat) → NDelOK d
  | 0 => del_leaf_ok
  | d + 1 => by
    have ih := del_ok d
    intro w b t L k ht ho hn hr hs hk hne
    obtain ⟨xs, ts⟩ := t
    have hok := ho
    unfold okT at ho
    obtain ⟨o1, o2, o3⟩ := ho
    have hne' : 1 ≤ xs.length := by rcases hne with e | e; · omega
                                    · exact e
    rcases plc_spec (k := k) (rising_xs hr) with ⟨x1, vv, x2, rfl, e2, e3, e4⟩ | ⟨x1, x2, rfl, e2, e3, e4⟩
    · have hlen : ts.length = x1.length + x2.length + 2 := by rw [o1]; simp; omega
      obtain ⟨A, tc, s, B, rfl, hA, hB⟩ : ∃ A tc s B, ts = A ++ tc :: s :: B ∧ A.length = x1.length ∧ B.length = x2.length := by
        refine ⟨ts.take x1.length, ts[x1.length]'(by omega), ts[x1.length + 1]'(by omega), ts.drop (x1.length + 2), ?_, by rw [List.length_take]; omega, by rw [List.length_drop]; omega⟩
        rw [List.getElem_cons_drop, List.getElem_cons_drop, List.take_append_drop]
      exact del_at_ok ih ht hok hn hr hs hk hA hB e2
    · have hlen : ts.length = x1.length + x2.length + 1 := by rw [o1, List.length_append]
      obtain ⟨A, tc, B, rfl, hA, hB⟩ : ∃ A tc B, ts = A ++ tc :: B ∧ A.length = x1.length ∧ B.length = x2.length := by
        refine ⟨ts.take x1.length, ts[x1.length]'(by omega), ts.drop (x1.length + 1), ?_, by rw [List.length_take]; omega, by rw [List.length_drop]; omega⟩
        rw [List.getElem_cons_drop, List.take_append_drop]
      exact del_down_ok ih ht hok hn hr hs hk hne' hA hB e2 e3 e4
end Go.Proofs.YtmagddchjidamaaGreatDoor
