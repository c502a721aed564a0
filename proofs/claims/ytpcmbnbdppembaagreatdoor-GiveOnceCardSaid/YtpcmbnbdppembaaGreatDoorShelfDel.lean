/- Put together out of: DelNode, DelOK, ShelfDel. -/
import Derived.Test.YtpcmbnbdppembaaGreatDoorDelFill
import Derived.Test.YtpcmbnbdppembaaGreatDoorHoldI
/- (*shelf.node).last and (*shelf.node).del, at every depth. -/
namespace Go.Proofs.YtpcmbnbdppembaaGreatDoor
set_option linter.unusedSimpArgs false
set_option linter.unusedVariables false
open Go.RowKit Go.Shelf
attribute [local go_sem ↓] Go.wp_at_zero Go.wp_at_succ

theorem okT.its_ne {d : Nat} {t : Tree} (h : okT d t) (hn : t.xs ≠ []) : ∃ P z, t.its = P ++ [z] := by
  refine ⟨t.its.dropLast, t.its.getLast (fun e => ?_), (List.dropLast_concat_getLast _).symm⟩
  obtain ⟨xs, ts⟩ := t
  cases xs with
  | nil => exact hn rfl
  | cons x xs =>
    have := h.mem (x := x) (by simp)
    rw [e] at this
    cases this

/-- the last child's last item -/
theorem its_last {xs : List Itm} {A : List Tree} {t : Tree} (h : A.length = xs.length) : (Tree.mk xs (A ++ [t])).its = preT xs A ++ t.its := by
  have := its_focus (x1 := xs) (x2 := []) (A := A) (B := []) (t := t) h rfl
  simpa [postT] using this

/-- the way down to the last one -/
structure DownL (w : World) (z : Itm) (dx xb : Nat) (tx : Tree) : Prop where
  ex : ∃ Lx, TreeP w xb tx Lx
  ok : okT dx tx
  ne : 1 ≤ tx.xs.length
  last : ∃ P, tx.its = P ++ [z]

theorem DownL.step {w : World} {z : Itm} {dx xb : Nat} {tx : Tree} (h : DownL w z (dx + 1) xb tx) : ∃ v u bs A c tc, NodeAt w xb v tx.xs u bs ∧ bs = A ++ [c] ∧ bs.length ≤ 7 ∧ DownL w z dx c tc := by
  obtain ⟨⟨Lx, ht⟩, ho, hne, P, hP⟩ := h
  obtain ⟨xs, ts⟩ := tx
  have hkl := kids_le ho
  unfold okT at ho
  obtain ⟨o1, o2, o3⟩ := ho
  obtain ⟨A, tc, rfl⟩ : ∃ A tc, ts = A ++ [tc] := by
    refine ⟨ts.dropLast, ts.getLast (fun e => ?_), (List.dropLast_concat_getLast _).symm⟩
    rw [e] at o1; simp at o1
  obtain ⟨v, u, bs, Ls, h1, h2, hp⟩ := ht.open
  have hl := h2.len
  obtain ⟨bA, c, bB, LA, Lc, LB, rfl, hbA, k1, k2, k3, kp⟩ := h2.mid
  have hB : bB = [] := List.eq_nil_of_length_eq_zero k3.len
  subst hB
  have htc := o3 tc (by simp)
  have hAl : A.length = xs.length := by simp at o1; omega
  obtain ⟨P', z', hz⟩ := htc.1.its_ne (by intro e; have := htc.2; rw [e] at this; simp at this)
  refine ⟨v, u, _, bA, c, tc, h1, rfl, by rw [hl]; exact hkl, ⟨Lc, k2⟩, htc.1, by omega, P', ?_⟩
  rw [its_last hAl, hz, ← List.append_assoc] at hP
  obtain ⟨_, e⟩ := List.append_inj' hP rfl
  rw [hz, e]

set_option maxRecDepth 100000 in
set_option maxHeartbeats 8000000 in
theorem last_ok {w : World} {b d : Nat} {t : Tree} {L : List Nat} {P : List Itm} {z : Itm} (h : TreeP w b t L) (ho : okT d t) (hn : 1 ≤ t.xs.length) (hz : t.its = P ++ [z]) :
    Calls Tryz.prog 196 #[.pointer (some ⟨b, 0, none⟩)] w fun e w' => e = .returned (.agg #[.string z.1, .string z.2]) ∧ Mod NoB w w' := by
  have H0 := Lib.hid (show DownL w z d b t from ⟨⟨L, h⟩, ho, hn, P, hz⟩)
  clear h ho hn hz
  go_enter Tryz.func196, Tryz.ntmps196
  go_wp2_with fail
  go_loopg [0] d (fun dx p wr => ∃ xb tx, p = .pointer (some ⟨xb, 0, none⟩) ∧ DownL w z dx xb tx ∧ Mod NoB w wr ∧ wr.heap[w.heap.size]? = some (.cells #[.string ⟨#[]⟩, .string ⟨#[]⟩] 73 (0, 0)))
  case atStart => exact ⟨b, t, rfl, H0.out, (Mod.refl _ _).alloc _, heap_alloc_new _ _⟩
  case round =>
    obtain ⟨xb, tx, rfl, hd, hm, hr⟩ := hrel
    obtain ⟨Wr, rfl⟩ : ∃ Wr : World, Wr = wr := ⟨_, rfl⟩
    have HM := Lib.hid hm; have HR := Lib.hid hr
    cases gk with
    | zero =>
      obtain ⟨⟨Lx, ht⟩, ho, hne, P, hP⟩ := hd
      obtain ⟨xs, ts⟩ := tx
      have hwide := ho.wide
      unfold okT at ho
      obtain ⟨rfl, hle⟩ := ho
      rw [its_leaf] at hP
      obtain ⟨v, u, bs, Ls, h1, h2, hp⟩ := ht.open
      have hbs : bs.length = 0 := h2.len
      have hN := NodeAt.mod h1 hm (fun _ _ e => e)
      obtain ⟨gv, cv, ev, lv, _⟩ := Nd.vform (x := ⟨xb, v, xs, u, bs⟩) hN (by intro e; dsimp only at e; rw [e] at hP; simp at hP)
      dsimp only at ev lv
      have hc := Nd.cv (x := ⟨xb, v, xs, u, bs⟩) hN
      obtain ⟨i0, i1, _⟩ := Nd.item (x := ⟨xb, v, xs, u, bs⟩) hN ev (x1 := P) (y := z) (x2 := []) hP
      obtain ⟨c0, _⟩ := hc
      dsimp only at c0
      rw [ev] at c0
      have hxl : xs.length = P.length + 1 := by rw [hP]; simp
      rw [hxl] at c0 lv
      have HLF := Lib.hid (leaf_node hN)
      have r0 : Wr.cell? ⟨w.heap.size, 0, none⟩ = some (.string ⟨#[]⟩) := cell_of hr 0 rfl
      have r1 : Wr.cell? ⟨w.heap.size, 1, none⟩ = some (.string ⟨#[]⟩) := cell_of hr 1 rfl
      have rf0 := frozen_of hr 0
      have rf1 := frozen_of hr 1
      have hi : (P.length : Int) < (P.length : Int) + 1 := by omega
      have hPl : P.length ≤ 100 := by omega
      have hw1 : IntKind.i64.wrap (P.length : Int) = (P.length : Int) := (wraps_small P.length hPl).1
      have hlt : w.heap.size < Wr.heap.size := (Array.getElem?_eq_some_iff.1 hr).1
      have HX := Lib.hid hxl
      clear ht hP hwide h1 h2 hp hN ev hm hr hne hle hxl hPl
      go_wp2_with (go_at_call 148; refine HLF.out.mono ?_; rintro e w2 ⟨rfl, rfl⟩)
      go_upto_region 3 with (fail)
      go_region_law (fail)
      all_goals
        go_wp2_with fail
        refine bodyPost_ret (v := .agg #[.string z.1, .string z.2]) (by simp [results, Tryz.results196, go_sem, *]) rfl ⟨rfl, ?_⟩
        exact (Mod.setCell (Mod.setCell HM.out (fun h => absurd h (Nat.lt_irrefl _)) _) (fun h => absurd h (Nat.lt_irrefl _)) _).drew
    | succ dx =>
      obtain ⟨v, u, bs, A, c, tc, h1, hbs, hb7, hd2⟩ := hd.step
      have hN := NodeAt.mod h1 hm (fun _ _ e => e)
      obtain ⟨gu, cu, eu, lu, _⟩ := Nd.uform (x := ⟨xb, v, tx.xs, u, bs⟩) hN (by intro e; dsimp only at e; rw [e] at hbs; simp at hbs)
      dsimp only at eu lu
      have hk := Nd.kid (x := ⟨xb, v, tx.xs, u, bs⟩) hN eu (b1 := A) (c := c) (b2 := []) hbs
      obtain ⟨_, c1, _⟩ := Nd.cv (x := ⟨xb, v, tx.xs, u, bs⟩) hN
      dsimp only at c1
      rw [eu] at c1
      have hbl : bs.length = A.length + 1 := by rw [hbs]; simp
      rw [hbl] at c1 lu hb7
      have hb0 : ¬ bs.length = 0 := by omega
      have HLF := Lib.hid (leaf_node hN)
      have hi : (A.length : Int) < (A.length : Int) + 1 := by omega
      have hw1 : IntKind.i64.wrap (A.length : Int) = (A.length : Int) := (wraps_small A.length (by omega)).1
      have HD := Lib.hid hd2
      clear h1 hbs hN eu hd hm hr hd2 hbl
      go_wp2_with (go_at_call 148; refine HLF.out.mono ?_; rintro e w2 ⟨rfl, rfl⟩)
      go_quiet (fail)
      go_wp2_with fail
      go_roundg dx
      case measure => exact Nat.lt_succ_self _
      case rel => exact ⟨c, tc, rfl, HD.out, HM.out.trans (by repeat (first | exact Mod.refl _ _ | refine Mod.alloc ?_ _ | refine Mod.drew ?_ | refine Mod.drewN ?_ _)), HR.out⟩
end Go.Proofs.YtpcmbnbdppembaaGreatDoor

/- (*shelf.node).del at every depth. -/
namespace Go.Proofs.YtpcmbnbdppembaaGreatDoor
set_option linter.unusedSimpArgs false
set_option linter.unusedVariables false
open Go.RowKit Go.Shelf
attribute [local go_sem ↓] Go.wp_at_zero Go.wp_at_succ

/-- what del makes of a tree -/
def DelR (w : World) (b d : Nat) (t : Tree) (L : List Nat) (k : ByteArray) (w' : World) : Prop :=
  ∃ t' L', TreeP w' b t' L' ∧ okT d t' ∧ L'.Nodup ∧ Turn L w w' L' ∧ t'.its = delS k t.its ∧ t.xs.length ≤ t'.xs.length + 1 ∧ (getS k t.its = none → t.xs.length ≤ t'.xs.length)

def NDelOK (d : Nat) : Prop := ∀ (w : World) (b : Nat) (t : Tree) (L : List Nat) (k : ByteArray), TreeP w b t L → okT d t → L.Nodup → Rising t.its → (∀ x ∈ t.its, x.1.size ≤ 1000000) → k.size ≤ 1000000 → (d = 0 ∨ 1 ≤ t.xs.length) →
  Calls Tryz.prog 147 #[.pointer (some ⟨b, 0, none⟩), .string k] w fun e w' => e = .returned (.bool (getS k t.its).isSome) ∧ DelR w b d t L k w'

/-- one child turned -/
theorem child_turn {w : World} {b : Nat} {xs : List Itm} {A B : List Tree} {t : Tree} {L : List Nat} (h : TreeP w b (.mk xs (A ++ t :: B)) L) (hn : L.Nodup) :
    ∃ gu cu c Lc, w.cell? ⟨b, 1, none⟩ = some (.slice (some ⟨gu, 0, none⟩) (A ++ t :: B).length cu) ∧ (A ++ t :: B).length ≤ cu ∧ w.cell? ⟨gu, A.length, none⟩ = some (.pointer (some ⟨c, 0, none⟩)) ∧ TreeP w c t Lc ∧ Lc.Nodup ∧
      ∀ (w' : World) (t' : Tree) (Lc' : List Nat), TreeP w' c t' Lc' → Lc'.Nodup → Turn Lc w w' Lc' → ∃ L', TreeP w' b (.mk xs (A ++ t' :: B)) L' ∧ L'.Nodup ∧ Turn L w w' L' := by
  obtain ⟨v, u, bs, Ls, h1, h2, hp⟩ := h.open
  have hl := h2.len
  obtain ⟨bA, c, bB, LA, Lc, LB, rfl, hbA, k1, k2, k3, kp⟩ := h2.mid
  have hN := h1
  obtain ⟨g, cap, e, hc, _⟩ := Nd.uform (x := ⟨b, v, xs, u, bA ++ c :: bB⟩) hN (by simp)
  have hk := Nd.kid (x := ⟨b, v, xs, u, bA ++ c :: bB⟩) hN e (b1 := bA) (c := c) (b2 := bB) rfl
  have x1 := (Nd.cv (x := ⟨b, v, xs, u, bA ++ c :: bB⟩) hN).2.1
  dsimp only at e hc x1
  rw [e, hl] at x1
  rw [hbA] at hk
  have hcm : L.Perm (Lc ++ (nodeL b v u ++ (LA ++ LB))) := hp.trans ((kp.append_left _).trans (List.perm_append_comm_assoc _ _ _))
  have hnd := (hcm.nodup_iff).1 hn
  refine ⟨g, cap, c, Lc, x1, by rw [← hl]; exact hc, hk, k2, (List.nodup_append.1 hnd).1, fun w' t' Lc' ht' hn' hT => ?_⟩
  have hlt : ∀ k ∈ nodeL b v u ++ (LA ++ LB), k < w.heap.size := fun k hk => by
    rcases List.mem_append.1 hk with hk | hk
    · exact h1.lts k hk
    · rcases List.mem_append.1 hk with hk | hk
      · exact k1.lts k hk
      · exact k3.lts k hk
  obtain ⟨q1, q2, q3⟩ := turn_frame hnd hT hn' hlt
  have m1 := h1.mod hT.1 (fun k hk => q3 k (List.mem_append_left _ hk))
  have m2 := k1.mod hT.1 (fun k hk => q3 k (by simp [hk]))
  have m3 := k3.mod hT.1 (fun k hk => q3 k (by simp [hk]))
  refine ⟨_, (treeP_of m1 (TreesP.of_mid m2 ht' m3)).perm (List.Perm.symm ?_), q1, q2.perm hcm.symm (List.Perm.refl _)⟩
  exact List.perm_append_comm_assoc _ _ _

theorem delS_same {k : ByteArray} {l : List Itm} (h : getS k l = none) : delS k l = l := delS_none (get_none_any h)

set_option maxRecDepth 100000 in
set_option maxHeartbeats 8000000 in
theorem del_leaf_ok : NDelOK 0 := by
  intro w b t L k ht ho hn hr hs hk _
  obtain ⟨xs, ts⟩ := t
  unfold okT at ho
  obtain ⟨rfl, hw⟩ := ho
  rw [its_leaf] at hr hs ⊢
  have ht0 := ht
  obtain ⟨v, u, bs, Ls, h1, h2, hp⟩ := ht.open
  have hbs : bs = [] := List.eq_nil_of_length_eq_zero h2.len
  subst hbs
  unfold TreesP at h2
  subst h2
  rw [List.append_nil] at hp
  have hplace := place_any h1 k (by omega) hk hs
  have hleaf := fun W (hm : Mod NoB w W) => leaf_node (NodeAt.mod h1 hm (fun _ _ e => e))
  have HPL := Lib.hid hplace; have HLF := Lib.hid hleaf
  clear hplace hleaf
  rcases plc_spec (k := k) hr with ⟨x1, vv, x2, rfl, e2, e3, e4⟩ | ⟨x1, x2, rfl, e2, e3, e4⟩
  · rw [e2] at HPL
    dsimp only at HPL
    obtain ⟨gv, cv, ev, lv, _, _, gvn⟩ := Nd.vform (x := ⟨b, v, x1 ++ (k, vv) :: x2, u, []⟩) h1 (by simp)
    dsimp only at ev lv gvn
    obtain ⟨c0, c1, f0, f1, hlt⟩ := Nd.cv (x := ⟨b, v, x1 ++ (k, vv) :: x2, u, []⟩) h1
    dsimp only at c0 c1 f0 f1 hlt
    have hnn := (hp.nodup_iff).1 hn
    have hgb := (gvn hnn).1
    obtain ⟨n, hnl⟩ : ∃ n, n = (x1 ++ (k, vv) :: x2).length := ⟨_, rfl⟩
    rw [← hnl] at ev lv
    rw [ev] at c0
    have hin : x1.length < n := by rw [hnl]; simp
    have hw1 : IntKind.i64.wrap ((x1.length : Int) + 1) = (x1.length : Int) + 1 := (wraps_small x1.length (by omega)).2.1
    have hdel : ∀ W, Mod NoB w W → Calls Tryz.prog 195 #[.slice (some ⟨gv, 0, none⟩) n cv, .int .i64 (x1.length : Int), .int .i64 ((x1.length : Int) + 1)] W (fun e w' => e = .returned (.slice (some ⟨gv, 0, none⟩) (n - 1) cv) ∧ RowIt w' (.slice (some ⟨gv, 0, none⟩) (n - 1) cv) (n - 1) (((x1 ++ (k, vv) :: x2).flatMap encIt).take (x1.length * 2) ++ ((x1 ++ (k, vv) :: x2).flatMap encIt).drop (x1.length * 2 + 2)) ∧ Mod (· = gv) W w') := fun W hm =>
      delAtIt (i := x1.length) (by have := Nd.row (x := ⟨b, v, x1 ++ (k, vv) :: x2, u, []⟩) h1 W hm; dsimp only at this; rwa [ev, ← hnl] at this) (flat_one (fun _ _ hu => oneIt hu)) hin
    have e6 : ((x1 ++ (k, vv) :: x2).flatMap encIt).take (x1.length * 2) ++ ((x1 ++ (k, vv) :: x2).flatMap encIt).drop (x1.length * 2 + 2) = (x1 ++ x2).flatMap encIt := by
      rw [show x1.length * 2 + 2 = (x1.length + 1) * 2 by omega, flat_take (k := 2) (fun _ => rfl), flat_drop (k := 2) (fun _ => rfl), ← List.flatMap_append]
      congr 1
      simp
    rw [e6] at hdel
    have hsome := set_item (v := vv) hr
    have H1 := Lib.hid h1; have HDEL := Lib.hid hdel; have HNN := Lib.hid hnn; have EV := Lib.hid ev; have HP := Lib.hid hp; have HNL := Lib.hid hnl; have HGB := Lib.hid hgb; have HS := Lib.hid hsome; have HW := Lib.hid hw
    have hbo : (getS k (x1 ++ (k, vv) :: x2)).isSome = true := by rw [hsome.2.1]; rfl
    have HBO := Lib.hid hbo
    have BB : Hid (w.heap[b]? = some (.cells #[.slice (some ⟨gv, 0, none⟩) n cv, u] 190 (0, 0))) := Lib.hid (by have := h1.1; rw [ev] at this; exact this)
    clear ht ht0 hn hr hs h1 hp hdel hnn ev hnl gvn hgb hsome hbo e6 e2 e3 e4 c1 f1 hw
    go_enter Tryz.func147, Tryz.ntmps147
    go_wp2_with (first
      | (go_at_call 194; refine HPL.out.mono ?_; rintro e w1 ⟨rfl, hm1⟩; have HM1 := Lib.hid hm1; have k0 := hm1.cellS c0; have kf := (hm1.frozen (p := ⟨b, 0, none⟩) hlt (fun x => x)).trans f0; clear hm1)
      | (go_at_call 148; refine (HLF.out _ HM1.out).mono ?_; rintro e w2 ⟨rfl, rfl⟩)
      | (go_at_call 195; refine (HDEL.out _ HM1.out).mono ?_; rintro e w5 ⟨rfl, hr5, hm5⟩; have kb := heap_keep2 BB.out hm5 HM1.out (fun e => HGB.out e.symm); have k5 : w5.cell? ⟨b, 0, none⟩ = some (.slice (some ⟨gv, 0, none⟩) n cv) := cell_of kb 0 rfl; have kf5 := frozen_of kb 0; have HR5 := Lib.hid hr5; have HM5 := Lib.hid (then2 (Mod.refl NoB w) hm5 HM1.out); clear hr5 hm5 kb))
    go_ret
    have hl2 : (x1 ++ x2).length = n - 1 := by have := HNL.out; rw [this]; simp
    obtain ⟨_, q1, q2, q3⟩ := chg_items (x := ⟨b, .slice (some ⟨gv, 0, none⟩) n cv, x1 ++ (k, vv) :: x2, u, []⟩) (v' := .slice (some ⟨gv, 0, none⟩) (n - 1) cv) (xs' := x1 ++ x2) (by have := H1.out; rw [EV.out] at this; exact this) (by have := HNN.out; rw [EV.out] at this; exact this) (HM5.out.mono (fun k _ e => by subst e; simp [ownL, Value.ownBlock])) (by rw [hl2]; exact HR5.out) (fun k hk => .inl hk)
    have htr := treeP_of (Ls := []) (ts := []) q1 (TreesP.nil _)
    have hpp := HP.out
    rw [EV.out] at hpp
    refine ⟨by rw [HBO.out]; rfl, .mk (x1 ++ x2) [], _, htr, ?_, by simpa using q2, ?_, ?_, by simp; omega, fun e => ?_⟩
    · unfold okT
      refine ⟨rfl, ?_⟩
      have := HW.out
      simp at this ⊢
      omega
    · rw [List.append_nil]
      exact q3.perm hpp.symm (List.Perm.refl _)
    · rw [its_leaf, its_leaf]
      exact HS.out.2.2.symm
    · rw [its_leaf] at e
      have := HBO.out
      rw [e] at this
      cases this
  · rw [e2] at HPL
    dsimp only at HPL
    have hnone : getS k (x1 ++ x2) = none := getS_none fun x hx => by
      rcases List.mem_append.1 hx with hx | hx
      · exact e3.ne x hx
      · exact e4.ne x hx
    have HT := Lib.hid ht0; have HN := Lib.hid hn; have HNO := Lib.hid hnone; have HW := Lib.hid hw
    clear ht ht0 hn hr hs h1 hp e2 e3 e4 hw hnone
    go_enter Tryz.func147, Tryz.ntmps147
    go_wp2_with (first
      | (go_at_call 194; refine HPL.out.mono ?_; rintro e w1 ⟨rfl, hm1⟩; have HM1 := Lib.hid hm1; clear hm1)
      | (go_at_call 148; refine (HLF.out _ HM1.out).mono ?_; rintro e w2 ⟨rfl, rfl⟩))
    go_ret
    refine ⟨by rw [HNO.out]; rfl, .mk (x1 ++ x2) [], L, HT.out.mod HM1.out (fun _ _ e => e), ?_, HN.out, Turn.of_no HM1.out, ?_, Nat.le_succ _, fun _ => Nat.le_refl _⟩
    · unfold okT
      exact ⟨rfl, HW.out⟩
    · rw [its_leaf, delS_same HNO.out]

/-- the key is not in the node itself -/
theorem del_down_ok {d : Nat} (ih : NDelOK d) {w : World} {b : Nat} {x1 x2 : List Itm} {A B : List Tree} {tc : Tree} {L : List Nat} {k : ByteArray} (ht : TreeP w b (.mk (x1 ++ x2) (A ++ tc :: B)) L) (ho : okT (d + 1) (.mk (x1 ++ x2) (A ++ tc :: B))) (hn : L.Nodup) (hr : Rising (Tree.mk (x1 ++ x2) (A ++ tc :: B)).its)
    (hs : ∀ x ∈ (Tree.mk (x1 ++ x2) (A ++ tc :: B)).its, x.1.size ≤ 1000000) (hk : k.size ≤ 1000000) (hne : 1 ≤ (x1 ++ x2).length) (hA : A.length = x1.length) (hB : B.length = x2.length) (e2 : plc k (x1 ++ x2) = (x1.length, false)) (e3 : AllLt x1 k) (e4 : AllGt x2 k) :
    Calls Tryz.prog 147 #[.pointer (some ⟨b, 0, none⟩), .string k] w fun e w' => e = .returned (.bool (getS k (Tree.mk (x1 ++ x2) (A ++ tc :: B)).its).isSome) ∧ DelR w b (d + 1) (.mk (x1 ++ x2) (A ++ tc :: B)) L k w' := by
  obtain ⟨r1, r2, r3⟩ := around hA hB hr e3 e4
  have hok := ho
  unfold okT at ho
  obtain ⟨o1, o2, o3⟩ := ho
  have htc := o3 tc (by simp)
  obtain ⟨v, u, bs, Ls, h1, h2, hp⟩ := ht.open
  have hl := h2.len
  have hplace := place_any h1 k (by omega) hk (fun x hx => hs x (hok.mem hx))
  rw [e2] at hplace
  have hleaf := fun W (hm : Mod NoB w W) => leaf_node (NodeAt.mod h1 hm (fun _ _ e => e))
  have hb0 : ¬ bs.length = 0 := by rw [hl]; simp
  obtain ⟨gu, cu, c, Lc, c1, hcu, ck, tcx, tcn, hback⟩ := child_turn ht hn
  have hget : getS k (Tree.mk (x1 ++ x2) (A ++ tc :: B)).its = getS k tc.its := by rw [its_focus hA hB, getS_mid r1 r2]
  have hdelS : delS k (Tree.mk (x1 ++ x2) (A ++ tc :: B)).its = preT x1 A ++ delS k tc.its ++ postT x2 B := by rw [its_focus hA hB, delS_mid r1 r2]
  have hcall := fun W (hm : Mod NoB w W) => ih W c tc Lc k (tcx.mod hm (fun _ _ e => e)) htc.1 tcn r3 (fun x hx => hs x (by rw [its_focus hA hB]; simp [hx])) hk (.inr (by have := htc.2; omega))
  rw [hget]
  have hAx : x1.length < (A ++ tc :: B).length := by simp; omega
  obtain ⟨n, hnn⟩ : ∃ n, n = (A ++ tc :: B).length := ⟨_, rfl⟩
  have hn7 : n ≤ 7 := by rw [hnn, o1]; omega
  rw [← hnn] at c1 hcu hAx
  rw [hA] at ck
  have HPL := Lib.hid hplace; have HLF := Lib.hid hleaf; have HCALL := Lib.hid hcall; have HB0 := Lib.hid hb0; have HBK := Lib.hid hback
  have HT := Lib.hid ht; have HN := Lib.hid hn; have HOK := Lib.hid hok; have HDS := Lib.hid hdelS; have HGET := Lib.hid hget; have HO3 := Lib.hid o3; have HO1 := Lib.hid o1; have HO2 := Lib.hid o2; have HNE := Lib.hid hne; have HAA := Lib.hid hA; have HBB := Lib.hid hB
  clear ht hok hn hr hs h1 h2 hp hl hplace hleaf hcall hback tcx tcn hget hdelS r1 r2 r3 o1 o2 o3 e2 e3 e4 htc hnn
  -- what comes behind the child's turn
  have hfin : ∀ (w3 w' : World) (hm : Mod NoB w w3), DelR w3 c d tc Lc k w' → ∃ tc' L2, TreeP w' b (.mk (x1 ++ x2) (A ++ tc' :: B)) L2 ∧ L2.Nodup ∧ Turn L w w' L2 ∧ okT d tc' ∧ tc'.its = delS k tc.its ∧ tc.xs.length ≤ tc'.xs.length + 1 ∧ (getS k tc.its = none → tc.xs.length ≤ tc'.xs.length) := by
    rintro w3 w' hm ⟨tc', Lc', q1, q2, q3, q4, q5, q6, q7⟩
    obtain ⟨L2, z1, z2, z3⟩ := HBK.out w' tc' Lc' q1 q3 ((Turn.of_no hm).trans q4)
    exact ⟨tc', L2, z1, z2, z3, q2, q5, q6, q7⟩
  have HFIN := Lib.hid hfin
  clear hfin
  cases hg : getS k tc.its with
  | none =>
    have HG := Lib.hid hg
    rw [hg] at HCALL
    clear hg
    go_enter Tryz.func147, Tryz.ntmps147
    go_wp2_with (first
      | (go_at_call 194; refine HPL.out.mono ?_; rintro e w1 ⟨rfl, hm1⟩; have HM1 := Lib.hid hm1; have k1 := hm1.cellS c1; have k2 := hm1.cellS ck; clear hm1)
      | (go_at_call 148; refine (HLF.out _ HM1.out).mono ?_; rintro e w2 ⟨rfl, rfl⟩; have hb1 := HB0.out)
      | (go_at_call 147; refine (HCALL.out _ HM1.out).mono ?_; rintro e w3 ⟨rfl, hd⟩; have HD := Lib.hid hd; clear hd))
    go_ret
    obtain ⟨tc', L2, z1, z2, z3, z4, z5, z6, z7⟩ := HFIN.out _ _ HM1.out HD.out
    refine ⟨rfl, _, L2, z1, ?_, z2, z3, ?_, Nat.le_succ _, fun _ => Nat.le_refl _⟩
    · unfold okT
      refine ⟨by have := HO1.out; simpa using this, HO2.out, fun s hs => ?_⟩
      rcases List.mem_append.1 hs with hs | hs
      · exact HO3.out s (by simp [hs])
      · rcases List.mem_cons.1 hs with rfl | hs
        · exact ⟨z4, Nat.le_trans (HO3.out tc (by simp)).2 (z7 HG.out)⟩
        · exact HO3.out s (by simp [hs])
    · rw [HDS.out, its_focus HAA.out HBB.out, z5]
  | some vv =>
    rw [hg] at HCALL
    have HG := Lib.hid hg
    clear hg
    go_enter Tryz.func147, Tryz.ntmps147
    go_wp2_with (first
      | (go_at_call 194; refine HPL.out.mono ?_; rintro e w1 ⟨rfl, hm1⟩; have HM1 := Lib.hid hm1; have k1 := hm1.cellS c1; have k2 := hm1.cellS ck; clear hm1)
      | (go_at_call 148; refine (HLF.out _ HM1.out).mono ?_; rintro e w2 ⟨rfl, rfl⟩; have hb1 := HB0.out)
      | (go_at_call 147; refine (HCALL.out _ HM1.out).mono ?_; rintro e w3 ⟨rfl, hd⟩; obtain ⟨tc', L2, z1, z2, z3, z4, z5, z6, z7⟩ := HFIN.out _ _ HM1.out hd; have HF := Lib.hid (fill_ok (d := d) z1 z2 (by have := HO1.out; simpa using this) HO2.out HNE.out z4 (by have := (HO3.out tc (by simp)).2; omega) (fun q hq => HO3.out q (by simp at hq ⊢; rcases hq with e | e <;> simp [e]))); rw [HAA.out] at HF; have Z3 := Lib.hid z3; have Z5 := Lib.hid z5; clear hd z1 z2 z3 z4 z5 z6 z7)
      | (go_at_call 197; refine HF.out.mono ?_; rintro e w4 ⟨⟨fv, rfl⟩, hf⟩; have HFR := Lib.hid hf; clear hf))
    go_ret
    obtain ⟨t', L', y1, y2, y3, y4, y5, y6⟩ := HFR.out
    refine ⟨rfl, t', L', y1, y2, y3, Z3.out.trans y4, ?_, y6, fun e => ?_⟩
    · rw [HDS.out, y5, its_focus HAA.out HBB.out, Z5.out]
    · rw [HGET.out, HG.out] at e
      cases e

/-- an item of a node stored -/
theorem set_tree {w : World} {b : Nat} {x1 x2 : List Itm} {y : Itm} {ts : List Tree} {L : List Nat} (h : TreeP w b (.mk (x1 ++ y :: x2) ts) L) (hn : L.Nodup) :
    ∃ g cap, w.cell? ⟨b, 0, none⟩ = some (.slice (some ⟨g, 0, none⟩) (x1 ++ y :: x2).length cap) ∧ (x1 ++ y :: x2).length ≤ cap ∧ w.cell? ⟨g, x1.length * 2, none⟩ = some (.string y.1) ∧ w.cell? ⟨g, x1.length * 2 + 1, none⟩ = some (.string y.2) ∧
      w.frozen? ⟨g, x1.length * 2, none⟩ = false ∧ w.frozen? ⟨g, x1.length * 2 + 1, none⟩ = false ∧ g < w.heap.size ∧
      ∀ (W : World) (z : Itm), Mod NoB w W → TreeP ((W.setCell ⟨g, x1.length * 2, none⟩ (.string z.1)).setCell ⟨g, x1.length * 2 + 1, none⟩ (.string z.2)) b (.mk (x1 ++ z :: x2) ts) L ∧ Turn L w ((W.setCell ⟨g, x1.length * 2, none⟩ (.string z.1)).setCell ⟨g, x1.length * 2 + 1, none⟩ (.string z.2)) L := by
  obtain ⟨v, u, bs, Ls, h1, h2, hp⟩ := h.open
  obtain ⟨g, cap, ev, lv, gL, gv, gn⟩ := Nd.vform (x := ⟨b, v, x1 ++ y :: x2, u, bs⟩) h1 (by simp)
  obtain ⟨i0, i1, iff⟩ := Nd.item (x := ⟨b, v, x1 ++ y :: x2, u, bs⟩) h1 ev rfl
  have x1c := (Nd.cv (x := ⟨b, v, x1 ++ y :: x2, u, bs⟩) h1).1
  have hnd := (hp.nodup_iff).1 hn
  obtain ⟨n1, n2, n3⟩ := List.nodup_append.1 hnd
  dsimp only at ev lv gL gv gn x1c
  rw [ev] at x1c
  refine ⟨g, cap, x1c, lv, i0, i1, iff _, iff _, h1.lts g gL, fun W z hm => ?_⟩
  have hc := chg_setItem (z := z) (x := ⟨b, v, x1 ++ y :: x2, u, bs⟩) (NodeAt.mod h1 hm (fun _ _ e => e)) n1 ev rfl rfl
  obtain ⟨_, q1, q2, q3⟩ := hc
  have hlt : ∀ k ∈ Ls, k < W.heap.size := fun k hk => Nat.lt_of_lt_of_le (h2.lts k hk) hm.size
  obtain ⟨f1, f2, f3⟩ := turn_frame hnd q3 q2 hlt
  exact ⟨(treeP_of q1 ((h2.mod hm (fun _ _ e => e)).mod q3.1 f3)).perm hp, (Turn.of_no hm).trans (f2.perm hp.symm hp)⟩

/-- the key is in the node itself -/
theorem del_at_ok {d : Nat} (ih : NDelOK d) {w : World} {b : Nat} {x1 x2 : List Itm} {vv : ByteArray} {A B : List Tree} {tc s : Tree} {L : List Nat} {k : ByteArray} (ht : TreeP w b (.mk (x1 ++ (k, vv) :: x2) (A ++ tc :: s :: B)) L) (ho : okT (d + 1) (.mk (x1 ++ (k, vv) :: x2) (A ++ tc :: s :: B))) (hn : L.Nodup) (hr : Rising (Tree.mk (x1 ++ (k, vv) :: x2) (A ++ tc :: s :: B)).its)
    (hs : ∀ x ∈ (Tree.mk (x1 ++ (k, vv) :: x2) (A ++ tc :: s :: B)).its, x.1.size ≤ 1000000) (hk : k.size ≤ 1000000) (hA : A.length = x1.length) (hB : B.length = x2.length) (e2 : plc k (x1 ++ (k, vv) :: x2) = (x1.length, true)) :
    Calls Tryz.prog 147 #[.pointer (some ⟨b, 0, none⟩), .string k] w fun e w' => e = .returned (.bool (getS k (Tree.mk (x1 ++ (k, vv) :: x2) (A ++ tc :: s :: B)).its).isSome) ∧ DelR w b (d + 1) (.mk (x1 ++ (k, vv) :: x2) (A ++ tc :: s :: B)) L k w' := by
  have hok := ho
  unfold okT at ho
  obtain ⟨o1, o2, o3⟩ := ho
  have htc := o3 tc (by simp)
  obtain ⟨P, z, hz⟩ := htc.1.its_ne (by intro e; have := htc.2; rw [e] at this; simp at this)
  obtain ⟨v, u, bs, Ls, h1, h2, hp⟩ := ht.open
  have hl := h2.len
  have hplace := place_any h1 k (by omega) hk (fun x hx => hs x (hok.mem hx))
  rw [e2] at hplace
  have hleaf := fun W (hm : Mod NoB w W) => leaf_node (NodeAt.mod h1 hm (fun _ _ e => e))
  have hb0 : ¬ bs.length = 0 := by rw [hl]; simp
  obtain ⟨gu, cu, c, Lc, c1, hcu, ck, tcx, tcn, _⟩ := child_turn ht hn
  have hlast := fun W (hm : Mod NoB w W) => last_ok (w := W) (tcx.mod hm (fun _ _ e => e)) htc.1 (by omega) hz
  obtain ⟨g, cap, g0, gl, gi0, gi1, gf0, gf1, glt, hset⟩ := set_tree ht hn
  -- the items
  have hrz : Rising (P ++ [z]) := by
    rw [its_pair hA hB, hz, rising_append, rising_append, rising_append] at hr
    exact hr.1.2.1.1
  have hdz : delS z.1 tc.its = P := by
    have := (set_item (v := z.2) (show Rising (P ++ (z.1, z.2) :: []) from hrz)).2.2
    rw [hz]
    simpa using this
  have hgz : getS z.1 tc.its = some z.2 := by
    have := (set_item (v := z.2) (show Rising (P ++ (z.1, z.2) :: []) from hrz)).2.1
    rw [hz]
    exact this
  have hold : (Tree.mk (x1 ++ (k, vv) :: x2) (A ++ tc :: s :: B)).its = (preT x1 A ++ (P ++ [z])) ++ (k, vv) :: (s.its ++ postT x2 B) := by
    rw [its_pair hA hB, hz]; simp
  have hdelS : delS k (Tree.mk (x1 ++ (k, vv) :: x2) (A ++ tc :: s :: B)).its = (preT x1 A ++ (P ++ [z])) ++ (s.its ++ postT x2 B) := by
    rw [hold] at hr ⊢
    exact (set_item (v := vv) hr).2.2
  have hgetS : getS k (Tree.mk (x1 ++ (k, vv) :: x2) (A ++ tc :: s :: B)).its = some vv := by
    rw [hold] at hr ⊢
    exact (set_item (v := vv) hr).2.1
  have hnew : ∀ tc' : Tree, tc'.its = P → (Tree.mk (x1 ++ z :: x2) (A ++ tc' :: s :: B)).its = (preT x1 A ++ (P ++ [z])) ++ (s.its ++ postT x2 B) := fun tc' e => by
    rw [its_pair hA hB, e]; simp
  have hzs : z.1.size ≤ 1000000 := hs z (by rw [hold]; simp)
  have htcs : ∀ x ∈ tc.its, x.1.size ≤ 1000000 := fun x hx => hs x (by rw [hold]; rw [hz] at hx; simp only [List.mem_append] at hx ⊢; exact .inl (.inr hx))
  have hxl : x1.length < (x1 ++ (k, vv) :: x2).length := by simp
  have hAx : x1.length < (A ++ tc :: s :: B).length := by simp; omega
  have hLlt : ∀ q ∈ L, q < w.heap.size := ht.lts
  obtain ⟨n, hnn⟩ : ∃ n, n = (A ++ tc :: s :: B).length := ⟨_, rfl⟩
  obtain ⟨m, hmm⟩ : ∃ m, m = (x1 ++ (k, vv) :: x2).length := ⟨_, rfl⟩
  have hn7 : n ≤ 7 := by rw [hnn, o1]; omega
  have hm6 : m ≤ 6 := by rw [hmm]; exact o2
  rw [← hnn] at c1 hcu hAx
  rw [← hmm] at g0 gl hxl
  rw [hA] at ck
  rw [hgetS]
  have HPL := Lib.hid hplace; have HLF := Lib.hid hleaf; have HB0 := Lib.hid hb0; have HLAST := Lib.hid hlast; have HSET := Lib.hid hset
  have HT := Lib.hid ht; have HN := Lib.hid hn; have HOK := Lib.hid hok; have HDS := Lib.hid hdelS; have HGET := Lib.hid hgetS; have HO3 := Lib.hid o3; have HO1 := Lib.hid o1; have HO2 := Lib.hid o2; have HAA := Lib.hid hA; have HBB := Lib.hid hB
  have HNEW := Lib.hid hnew; have HDZ := Lib.hid hdz; have HGZ := Lib.hid hgz; have HRZ := Lib.hid hrz; have HZ := Lib.hid hz; have HZS := Lib.hid hzs; have HTCS := Lib.hid htcs; have HTC := Lib.hid htc; have HLT := Lib.hid hLlt
  clear ht hok hn hr hs h1 h2 hp hl hplace hleaf hlast hset tcx tcn hgetS hdelS hold hnew o1 o2 o3 e2 htc hnn hmm hdz hgz hrz hz hzs htcs hb0 hLlt
  go_enter Tryz.func147, Tryz.ntmps147
  go_upto_region 8 with (first
      | (go_at_call 194; refine HPL.out.mono ?_; rintro e w1 ⟨rfl, hm1⟩; have HM1 := Lib.hid hm1; have k1 := hm1.cellS c1; have k2 := hm1.cellS ck; clear hm1)
      | (go_at_call 148; refine (HLF.out _ HM1.out).mono ?_; rintro e w2 ⟨rfl, rfl⟩; have hb1 := HB0.out)
      | (go_at_call 196; refine (HLAST.out _ HM1.out).mono ?_; rintro e w3 ⟨rfl, hm3⟩; have HM3 := Lib.hid (HM1.out.trans hm3); clear hm3))
  obtain ⟨r, hr⟩ : ∃ r, r = w3.heap.size := ⟨_, rfl⟩
  obtain ⟨Wa, hWa⟩ : ∃ Wa, Wa = w3.alloc (.cells #[.string z.1, .string z.2] 73) := ⟨_, rfl⟩
  have hra : Wa.heap[r]? = some (.cells #[.string z.1, .string z.2] 73 (0, 0)) := by rw [hWa, hr]; exact heap_alloc_new _ _
  have hma : Mod NoB w Wa := by rw [hWa]; exact HM3.out.alloc _
  have hrw : w.heap.size ≤ r := by rw [hr]; exact HM3.out.size
  rw [← hr, ← hWa]
  have a0 := hma.cellS g0
  have ai0 := hma.cellS gi0
  have ai1 := hma.cellS gi1
  have af0 := (hma.frozen (p := ⟨g, x1.length * 2, none⟩) glt (fun x => x)).trans gf0
  have af1 := (hma.frozen (p := ⟨g, x1.length * 2 + 1, none⟩) glt (fun x => x)).trans gf1
  have r0 : Wa.cell? ⟨r, 0, none⟩ = some (.string z.1) := cell_of hra 0 rfl
  have r1 : Wa.cell? ⟨r, 1, none⟩ = some (.string z.2) := cell_of hra 1 rfl
  have hgr : r ≠ g := by omega
  have hxi : (x1.length : Int) < (m : Int) := by omega
  have HMA := Lib.hid hma; have HRA := Lib.hid hra; have HRW := Lib.hid hrw
  clear k1 k2 hr hWa hma hra g0 gi0 gi1 gf0 gf1
  go_cut [] (fun wx => TreeP wx b (.mk (x1 ++ z :: x2) (A ++ tc :: s :: B)) L ∧ Turn L w wx L ∧ wx.heap[r]? = some (.cells #[.string z.1, .string z.2] 73 (0, 0)))
  case first =>
    go_region_law (fail)
    all_goals
      go_wp2_with fail
      go_meet
      have hd : Mod NoB ((Wa.setCell ⟨g, x1.length * 2, none⟩ (.string z.1)).setCell ⟨g, x1.length * 2 + 1, none⟩ (.string z.2)) ((Wa.setCell ⟨g, x1.length * 2, none⟩ (.string z.1)).setCell ⟨g, x1.length * 2 + 1, none⟩ (.string z.2)).drew := (Mod.refl _ _).drew
      obtain ⟨y1, y2⟩ := HSET.out Wa z HMA.out
      exact ⟨y1.mod hd (fun _ _ e => e), y2.trans (Turn.of_no hd), by show ((Wa.setCell ⟨g, x1.length * 2, none⟩ (.string z.1)).setCell ⟨g, x1.length * 2 + 1, none⟩ (.string z.2)).heap[r]? = _; rw [heap_set_other hgr, heap_set_other hgr]; exact HRA.out⟩
  case rest =>
    obtain ⟨W5, rfl⟩ : ∃ W5 : World, W5 = wc := ⟨_, rfl⟩
    obtain ⟨y1, y2, y3⟩ := hcut
    clear a0 ai0 ai1 af0 af1 r0 r1 c1 ck hcu hAx
    obtain ⟨gu5, cu5, c5, Lc5, c1, hcu, ck, tcx, tcn, hback⟩ := child_turn y1 HN.out
    have hcall := fun W (hm : Mod NoB W5 W) => ih W c5 tc Lc5 z.1 (tcx.mod hm (fun _ _ e => e)) HTC.out.1 tcn (by rw [HZ.out]; exact HRZ.out) HTCS.out HZS.out (.inr (by have := HTC.out.2; omega))
    have r0 : W5.cell? ⟨r, 0, none⟩ = some (.string z.1) := cell_of y3 0 rfl
    have hAx : x1.length < (A ++ tc :: s :: B).length := by have := HAA.out; simp; omega
    have hn7 : (A ++ tc :: s :: B).length ≤ 7 := by rw [HO1.out]; have := HO2.out; omega
    obtain ⟨n5, hn5⟩ : ∃ n, n = (A ++ tc :: s :: B).length := ⟨_, rfl⟩
    rw [← hn5] at c1 hcu hAx hn7
    rw [HAA.out] at ck
    have HCALL := Lib.hid hcall; have HBK := Lib.hid hback; have Y2 := Lib.hid y2
    clear y1 y2 y3 tcx tcn hback hcall hn5
    go_upto_region 9 with (fail)
    have hrest : ∀ w' w6, Mod NoB W5 w' → DelR w' c5 d tc Lc5 z.1 w6 → ∃ tc' L2, tc'.its = P ∧ Turn L w w6 L2 ∧ Calls Tryz.prog 197 #[.pointer (some ⟨b, 0, none⟩), .int .i64 (x1.length : Int)] w6 (fun e w' => (∃ v, e = .returned v) ∧ FillR w6 b d (x1 ++ z :: x2) (A ++ tc' :: s :: B) L2 w') := by
      rintro w' w6 hm ⟨tc', Lc', q1, q2, q3, q4, q5, q6, q7⟩
      obtain ⟨L2, z1, z2, z3⟩ := HBK.out _ tc' Lc' q1 q3 ((Turn.of_no hm).trans q4)
      have HF := fill_ok (d := d) z1 z2 (by have := HO1.out; simpa using this) (by have := HO2.out; simpa using this) (by simp; omega) q2 (by have := HTC.out.2; omega) (fun q hq => HO3.out q (by simp at hq ⊢; rcases hq with e | e | e <;> simp [e]))
      rw [HAA.out] at HF
      exact ⟨tc', L2, q5.trans HDZ.out, Y2.out.trans z3, HF⟩
    have HREST := Lib.hid hrest
    clear hrest
    go_region_law ((first | (go_simp; go_at_call 147; go_loud (refine (HCALL.out _ (by repeat (first | exact Mod.refl _ _ | refine Mod.alloc ?_ _ | refine Mod.drew ?_ | refine Mod.drewN ?_ _))).mono ?_; rintro e w6 ⟨rfl, hd6⟩; obtain ⟨tc', L2, z5, z3, hf⟩ := HREST.out _ w6 (by repeat (first | exact Mod.refl _ _ | refine Mod.alloc ?_ _ | refine Mod.drew ?_ | refine Mod.drewN ?_ _)) hd6; have HF := Lib.hid hf; have Z3 := Lib.hid z3; have Z5 := Lib.hid z5; clear hd6 hf z3 z5))))
    all_goals
      go_wp2_with (go_at_call 197; refine HF.out.mono ?_; rintro e w4 ⟨⟨fv, rfl⟩, hf⟩; have HFR := Lib.hid hf; clear hf)
      go_ret
      obtain ⟨t', L', y1, y2, y3, y4, y5, y6⟩ := HFR.out
      refine ⟨rfl, t', L', y1, y2, y3, Z3.out.trans y4, ?_, ?_, fun e => ?_⟩
      · rw [y5, HNEW.out tc' Z5.out, HDS.out]
      · simp at y6 ⊢; exact y6
      · rw [HGET.out] at e
        cases e

theorem del_ok : (d : Nat) → NDelOK d
  | 0 => del_leaf_ok
  | d + 1 => by
    have ih := del_ok d
    intro w b t L k ht ho hn hr hs hk hne
    obtain ⟨xs, ts⟩ := t
    have hok := ho
    unfold okT at ho
    obtain ⟨o1, o2, o3⟩ := ho
    have hne' : 1 ≤ xs.length := by rcases hne with e | e; · omega
                                    · exact e
    rcases plc_spec (k := k) (rising_xs hr) with ⟨x1, vv, x2, rfl, e2, e3, e4⟩ | ⟨x1, x2, rfl, e2, e3, e4⟩
    · have hlen : ts.length = x1.length + x2.length + 2 := by rw [o1]; simp; omega
      obtain ⟨A, tc, s, B, rfl, hA, hB⟩ : ∃ A tc s B, ts = A ++ tc :: s :: B ∧ A.length = x1.length ∧ B.length = x2.length := by
        refine ⟨ts.take x1.length, ts[x1.length]'(by omega), ts[x1.length + 1]'(by omega), ts.drop (x1.length + 2), ?_, by rw [List.length_take]; omega, by rw [List.length_drop]; omega⟩
        rw [List.getElem_cons_drop, List.getElem_cons_drop, List.take_append_drop]
      exact del_at_ok ih ht hok hn hr hs hk hA hB e2
    · have hlen : ts.length = x1.length + x2.length + 1 := by rw [o1, List.length_append]
      obtain ⟨A, tc, B, rfl, hA, hB⟩ : ∃ A tc B, ts = A ++ tc :: B ∧ A.length = x1.length ∧ B.length = x2.length := by
        refine ⟨ts.take x1.length, ts[x1.length]'(by omega), ts.drop (x1.length + 1), ?_, by rw [List.length_take]; omega, by rw [List.length_drop]; omega⟩
        rw [List.getElem_cons_drop, List.take_append_drop]
      exact del_down_ok ih ht hok hn hr hs hk hne' hA hB e2 e3 e4
end Go.Proofs.YtpcmbnbdppembaaGreatDoor

/- (*shelf.Shelf).Del, of every shelf; cut.Out of every shelf; a hold's Lose of every shelf. -/
namespace Go.Proofs.YtpcmbnbdppembaaGreatDoor
set_option linter.unusedSimpArgs false
set_option linter.unusedVariables false
open Go.RowKit Go.Shelf
attribute [local go_sem ↓] Go.wp_at_zero Go.wp_at_succ

/-- what Del gives -/
def SDelE (w : World) (s : Nat) (most : Int) (L : List Nat) (k : ByteArray) (xs : List Itm) (e : Ending) (w' : World) : Prop :=
  e = .returned (.bool (getS k xs).isSome) ∧ ∃ tr' n' L', ShelfAt w' s most tr' n' L' ∧ L'.Nodup ∧ Turn L w w' L' ∧ ShOK tr' (delS k xs) n'

theorem delS_small {k : ByteArray} {xs : List Itm} (h : ∀ x ∈ xs, x.1.size ≤ 16) : ∀ x ∈ delS k xs, x.1.size ≤ 16 := fun x hx => h x ((List.mem_filter.1 hx).1)

/-- a tree whose top has no item -/
theorem top_empty {d : Nat} {t : Tree} (ho : okT d t) (h0 : t.xs = []) : (t.ts = [] ∧ t.its = []) ∨ ∃ t0 d', d = d' + 1 ∧ t.ts = [t0] ∧ t.its = t0.its ∧ okT d' t0 ∧ 3 ≤ t0.xs.length := by
  obtain ⟨xs, ts⟩ := t
  dsimp only [Tree.xs] at h0
  subst h0
  cases d with
  | zero =>
    unfold okT at ho
    obtain ⟨rfl, _⟩ := ho
    exact .inl ⟨rfl, its_leaf _⟩
  | succ d =>
    unfold okT at ho
    obtain ⟨o1, _, o3⟩ := ho
    obtain ⟨t0, rfl⟩ : ∃ t0, ts = [t0] := List.length_eq_one_iff.1 (by simpa using o1)
    have := o3 t0 (by simp)
    exact .inr ⟨t0, d, rfl, rfl, by rw [its_mk, itsIn_one], this.1, this.2⟩

set_option maxRecDepth 100000 in
set_option maxHeartbeats 8000000 in
theorem sdel_none {w : World} {s n : Nat} {most : Int} {L : List Nat} (h : ShelfAt w s most none n L) (k : ByteArray) :
    Calls Tryz.prog 59 #[.pointer (some ⟨s, 0, none⟩), .string k] w fun e w' => e = .returned (.bool false) ∧ Mod NoB w w' := by
  unfold ShelfAt at h
  obtain ⟨h1, rfl⟩ := h
  have c2 : w.cell? ⟨s, 2, none⟩ = some (.pointer none) := cell_of h1 2 rfl
  clear h1
  go_enter Tryz.func59, Tryz.ntmps59
  go_wp2_with fail
  go_ret
  exact ⟨rfl, Mod.refl _ _⟩

/-- what a top of a tree says -/
theorem top_cells {w : World} {b : Nat} {t : Tree} {L : List Nat} (h : TreeP w b t L) : ∃ a cap bs v u, w.cell? ⟨b, 0, none⟩ = some (.slice a t.xs.length cap) ∧ NodeAt w b v t.xs u bs ∧ bs.length = t.ts.length := by
  obtain ⟨xs, ts⟩ := t
  obtain ⟨v, u, bs, Ls, h1, h2, hp⟩ := h.open
  obtain ⟨a, cap, e⟩ := Nd.vany (x := ⟨b, v, xs, u, bs⟩) h1
  have := (Nd.cv (x := ⟨b, v, xs, u, bs⟩) h1).1
  dsimp only at e this
  rw [e] at this
  exact ⟨a, cap, bs, v, u, this, h1, h2.len⟩

/-- a tree under a top without items -/
theorem only_child {w : World} {b : Nat} {xs : List Itm} {t0 : Tree} {L : List Nat} (h : TreeP w b (.mk xs [t0]) L) : ∃ gu cu c Lc, w.cell? ⟨b, 1, none⟩ = some (.slice (some ⟨gu, 0, none⟩) 1 cu) ∧ 1 ≤ cu ∧ w.cell? ⟨gu, 0, none⟩ = some (.pointer (some ⟨c, 0, none⟩)) ∧ TreeP w c t0 Lc ∧ (∀ k ∈ Lc, k ∈ L) ∧ (L.Nodup → Lc.Nodup) := by
  obtain ⟨v, u, bs, Ls, h1, h2, hp⟩ := h.open
  have hl := h2.len
  obtain ⟨bA, c, bB, LA, Lc, LB, rfl, hbA, k1, k2, k3, kp⟩ := TreesP.mid (A := []) (B := []) h2
  obtain ⟨g, cap, e, hc, _⟩ := Nd.uform (x := ⟨b, v, xs, u, bA ++ c :: bB⟩) h1 (by simp)
  have hk := Nd.kid (x := ⟨b, v, xs, u, bA ++ c :: bB⟩) h1 e (b1 := bA) (c := c) (b2 := bB) rfl
  have x1 := (Nd.cv (x := ⟨b, v, xs, u, bA ++ c :: bB⟩) h1).2.1
  dsimp only at e hc x1
  rw [e, hl] at x1
  rw [hbA] at hk
  rw [hl] at hc
  refine ⟨g, cap, c, Lc, x1, hc, hk, k2, fun q hq => hp.mem_iff.2 (List.mem_append_right _ (kp.mem_iff.2 (List.mem_append_left _ hq))), fun hn => ?_⟩
  have := (List.nodup_append.1 ((hp.nodup_iff).1 hn)).2.1
  exact (List.nodup_append.1 ((kp.nodup_iff).1 this)).1

set_option maxRecDepth 100000 in
set_option maxHeartbeats 8000000 in
theorem sdel_some {w : World} {s n b d : Nat} {most : Int} {t : Tree} {Lt : List Nat} (hs : w.heap[s]? = some (.cells #[.int .i64 most, .int .i64 n, .pointer (some ⟨b, 0, none⟩)] 192 (0, 0))) (ht : TreeP w b t Lt) (hnd : (s :: Lt).Nodup)
    (ho : okT d t) (hr : Rising t.its) (hsm : ∀ x ∈ t.its, x.1.size ≤ 16) (hn : n = t.its.length) (hne : 1 ≤ t.xs.length) (k : ByteArray) (hk : k.size ≤ 1000000) (hbig : t.its.length ≤ 1000000) :
    Calls Tryz.prog 59 #[.pointer (some ⟨s, 0, none⟩), .string k] w (SDelE w s most (s :: Lt) k t.its) := by
  have hsL : s ∉ Lt := (List.nodup_cons.1 hnd).1
  have hLn := (List.nodup_cons.1 hnd).2
  have hlt := ht.lts
  have hsw : s < w.heap.size := (Array.getElem?_eq_some_iff.1 hs).1
  have c2 : w.cell? ⟨s, 2, none⟩ = some (.pointer (some ⟨b, 0, none⟩)) := cell_of hs 2 rfl
  have hcall := del_ok d w b t Lt k ht ho hLn hr (fun x hx => Nat.le_trans (hsm x hx) (by decide)) hk (.inr hne)
  -- the shelf's cells stay
  have hshelf : ∀ w', Mod (· ∈ Lt) w w' → w'.heap[s]? = some (.cells #[.int .i64 most, .int .i64 n, .pointer (some ⟨b, 0, none⟩)] 192 (0, 0)) := fun w' hm => by
    rw [hm.block s hsw hsL]; exact hs
  have hsX : ∀ w' L', Turn Lt w w' L' → s ∉ L' := fun w' L' hT e => by
    rcases hT.2 s e with h | h
    · exact hsL h
    · omega
  cases hg : getS k t.its with
  | none =>
    rw [hg] at hcall
    have HCALL := Lib.hid hcall; have HSH := Lib.hid hshelf; have HSX := Lib.hid hsX; have HG := Lib.hid hg; have HR := Lib.hid hr; have HSM := Lib.hid hsm; have HN := Lib.hid hn; have HNE := Lib.hid hne
    clear hs ht hnd ho hr hsm hn hne hcall hshelf hsX hg hlt hbig hLn
    go_enter Tryz.func59, Tryz.ntmps59
    go_wp2_with (go_at_call 147; refine HCALL.out.mono ?_; rintro e w1 ⟨rfl, hd⟩; have HD := Lib.hid hd; clear hd)
    go_ret
    obtain ⟨t', L', q1, q2, q3, q4, q5, q6, q7⟩ := HD.out
    obtain ⟨L2, y1, y2, y3⟩ := shelf_of (HSH.out _ q4.1) q1 q3 (HSX.out _ _ q4)
    have e : delS k t.its = t.its := delS_same HG.out
    refine ⟨by rw [HG.out]; rfl, some t', n, s :: L2, y1, y2, turn_cons (q4.1.mono (fun _ _ h => List.mem_cons_of_mem _ h)) q4.2 y3, ?_⟩
    rw [e] at q5 ⊢
    exact ⟨HN.out, HR.out, HSM.out, d, q2, q5, Nat.le_trans HNE.out (q7 HG.out)⟩
  | some vv =>
    rw [hg] at hcall
    have hdl := delS_length hr hg
    obtain ⟨m, hm⟩ : ∃ m, n = m + 1 := ⟨(delS k t.its).length, by omega⟩
    subst hm
    have hml : (delS k t.its).length = m := by omega
    have hmb : m ≤ 1000000 := by omega
    have hw1 : IntKind.i64.wrap (m : Int) = (m : Int) := IntWalk.i64_in _ ⟨by omega, by omega⟩
    have HCALL := Lib.hid hcall; have HSH := Lib.hid hshelf; have HSX := Lib.hid hsX; have HG := Lib.hid hg; have HR := Lib.hid hr; have HSM := Lib.hid hsm; have HML := Lib.hid hml
    clear hs ht hnd ho hr hsm hn hne hcall hshelf hsX hg hlt hdl hbig hLn hml
    go_enter Tryz.func59, Tryz.ntmps59
    go_upto_region 3 with (go_at_call 147; refine HCALL.out.mono ?_; rintro e w1 ⟨rfl, hd⟩; have HD := Lib.hid hd; clear hd)
    obtain ⟨t', L', q1, q2, q3, q4, q5, q6, q7⟩ := HD.out
    have hs1 := HSH.out _ q4.1
    have hsx := HSX.out _ _ q4
    have d1 : w1.cell? ⟨s, 1, none⟩ = some (.int .i64 ((m : Int) + 1)) := cell_of hs1 1 (by simp)
    have d2 : w1.cell? ⟨s, 2, none⟩ = some (.pointer (some ⟨b, 0, none⟩)) := cell_of hs1 2 rfl
    have f1 := frozen_of hs1 1
    have f2 := frozen_of hs1 2
    -- behind the count
    have hw2 : ∀ u : Value, Mod (· = s) w1 (w1.setCell ⟨s, 1, none⟩ u) := fun u => Mod.setCell (S := (· = s)) (Mod.refl _ _) (by intro _; rfl) _
    have ht2 : TreeP (w1.setCell ⟨s, 1, none⟩ (.int .i64 (m : Int))) b t' L' := q1.mod (hw2 _) (fun q hq e => hsx (e ▸ hq))
    have hs2 : (w1.setCell ⟨s, 1, none⟩ (.int .i64 (m : Int))).heap[s]? = some (.cells #[.int .i64 most, .int .i64 m, .pointer (some ⟨b, 0, none⟩)] 192 (0, 0)) := by
      have := heap_set hs1 1 (.int .i64 (m : Int))
      simpa using this
    have hm2 : Mod (· ∈ s :: Lt) w (w1.setCell ⟨s, 1, none⟩ (.int .i64 (m : Int))) := (q4.1.mono (fun _ _ h => List.mem_cons_of_mem _ h)).then (hw2 _) (fun q _ e => by rw [e]; exact List.mem_cons_self)
    obtain ⟨a, cap, bs, v, u, tc0, tn, tl⟩ := top_cells ht2
    have hbs : b ≠ s := fun e => hsx (by
      have hx := ht2
      obtain ⟨xs', ts'⟩ := t'
      obtain ⟨_, _, _, _, _, _, hp⟩ := hx.open
      exact hp.mem_iff.2 (by simp [nodeL, e]))
    have T1 := Lib.hid q1; have Q2 := Lib.hid q2; have Q3 := Lib.hid q3; have Q4 := Lib.hid q4; have Q5 := Lib.hid q5; have HT2 := Lib.hid ht2; have HS2 := Lib.hid hs2; have HM2 := Lib.hid hm2; have HX := Lib.hid hsx; have HLF := Lib.hid (leaf_node tn); have TL := Lib.hid tl
    have hshok : ∀ tr', (match tr' with | none => delS k t.its = [] | some t'' => ∃ d, okT d t'' ∧ t''.its = delS k t.its ∧ 1 ≤ t''.xs.length) → ShOK tr' (delS k t.its) m := fun tr' h => ⟨HML.out.symm, rising_delS HR.out, delS_small HSM.out, h⟩
    have HSK := Lib.hid hshok
    have u2 : (w1.setCell ⟨s, 1, none⟩ (.int .i64 (m : Int))).cell? ⟨s, 2, none⟩ = some (.pointer (some ⟨b, 0, none⟩)) := cell_of hs2 2 rfl
    have uf2 := frozen_of hs2 2
    clear q1 q2 q3 q4 q5 q6 q7 hs1 hsx hw2 ht2 hs2 hm2 tn tl HD hshok
    by_cases hx0 : 0 < t'.xs.length
    · go_wp2_with fail
      go_ret
      obtain ⟨L2, y1, y2, y3⟩ := shelf_of HS2.out HT2.out Q3.out HX.out
      exact ⟨by rw [HG.out]; rfl, some t', m, s :: L2, y1, y2, turn_cons HM2.out Q4.out.2 y3, HSK.out (some t') ⟨d, Q2.out, Q5.out, hx0⟩⟩
    · have hxe : t'.xs = [] := List.eq_nil_of_length_eq_zero (by omega)
      have hx1 : t'.xs.length = 0 := by omega
      rcases top_empty Q2.out hxe with ⟨e1, e2⟩ | ⟨t0, d', rfl, e1, e2, e3, e4⟩
      · have hb0 : bs.length = 0 := by rw [TL.out, e1]; rfl
        have E2 := Lib.hid e2
        clear hxe e1 e2
        go_wp2_with (go_at_call 148; refine HLF.out.mono ?_; rintro e w5 ⟨rfl, rfl⟩)
        go_ret
        have hm3 : Mod (· = s) (w1.setCell ⟨s, 1, none⟩ (.int .i64 (m : Int))) ((w1.setCell ⟨s, 1, none⟩ (.int .i64 (m : Int))).setCell ⟨s, 2, none⟩ (.pointer none)) := Mod.setCell (S := (· = s)) (Mod.refl _ _) (by intro _; rfl) _
        have hs3 : ((w1.setCell ⟨s, 1, none⟩ (.int .i64 (m : Int))).setCell ⟨s, 2, none⟩ (.pointer none)).heap[s]? = some (.cells #[.int .i64 most, .int .i64 m, .pointer none] 192 (0, 0)) := by
          have := heap_set HS2.out 2 (.pointer none)
          simpa using this
        refine ⟨by rw [HG.out]; rfl, none, m, [s], ⟨hs3, rfl⟩, by simp, ⟨HM2.out.then hm3 (fun q _ e => by rw [e]; exact List.mem_cons_self), fun q hq => .inl (by simp at hq; simp [hq])⟩, HSK.out none (by rw [← Q5.out]; exact E2.out)⟩
      · have hb0 : ¬ bs.length = 0 := by rw [TL.out, e1]; simp
        obtain ⟨gu, cu, c, Lc, k1, k2, k3, k4, k5, k6⟩ := only_child (xs := []) (t0 := t0) (L := L') (w := w1.setCell ⟨s, 1, none⟩ (.int .i64 (m : Int))) (b := b) (by
          have := HT2.out
          obtain ⟨xs', ts'⟩ := t'
          dsimp only [Tree.xs, Tree.ts] at hxe e1
          subst hxe; subst e1
          exact this)
        have E2 := Lib.hid e2; have E3 := Lib.hid e3; have E4 := Lib.hid e4; have K4 := Lib.hid k4; have K5 := Lib.hid k5; have K6 := Lib.hid k6
        clear hxe e1 e2 e3 e4 k4 k5 k6
        go_wp2_with (go_at_call 148; refine HLF.out.mono ?_; rintro e w5 ⟨rfl, rfl⟩)
        go_ret
        have hm3 : Mod (· = s) (w1.setCell ⟨s, 1, none⟩ (.int .i64 (m : Int))) ((w1.setCell ⟨s, 1, none⟩ (.int .i64 (m : Int))).setCell ⟨s, 2, none⟩ (.pointer (some ⟨c, 0, none⟩))) := Mod.setCell (S := (· = s)) (Mod.refl _ _) (by intro _; rfl) _
        have hs3 : ((w1.setCell ⟨s, 1, none⟩ (.int .i64 (m : Int))).setCell ⟨s, 2, none⟩ (.pointer (some ⟨c, 0, none⟩))).heap[s]? = some (.cells #[.int .i64 most, .int .i64 m, .pointer (some ⟨c, 0, none⟩)] 192 (0, 0)) := by
          have := heap_set HS2.out 2 (.pointer (some ⟨c, 0, none⟩))
          simpa using this
        obtain ⟨L2, y1, y2, y3⟩ := shelf_of hs3 (K4.out.mod hm3 (fun q hq e => HX.out (e ▸ K5.out q hq))) (K6.out Q3.out) (fun e => HX.out (K5.out s e))
        refine ⟨by rw [HG.out]; rfl, some t0, m, s :: L2, y1, y2, turn_cons (HM2.out.then hm3 (fun q _ e => by rw [e]; exact List.mem_cons_self)) (fun q hq => Q4.out.2 q (K5.out q hq)) y3, HSK.out (some t0) ⟨d', E3.out, by rw [← E2.out, Q5.out], by have := E4.out; omega⟩⟩

theorem sdel_any {w : World} {s : Nat} {most : Int} {tr : Option Tree} {n : Nat} {L : List Nat} {xs : List Itm} (h : ShelfAt w s most tr n L) (hn : L.Nodup) (ho : ShOK tr xs n) (k : ByteArray) (hk : k.size ≤ 1000000) (hbig : xs.length ≤ 1000000) :
    Calls Tryz.prog 59 #[.pointer (some ⟨s, 0, none⟩), .string k] w (SDelE w s most L k xs) := by
  cases tr with
  | none =>
    have hx : xs = [] := ho.2.2.2
    subst hx
    refine (sdel_none h k).mono ?_
    rintro e w' ⟨rfl, hm⟩
    exact ⟨rfl, none, n, L, h.mod hm (fun _ _ e => e), hn, Turn.of_no hm, ho⟩
  | some t =>
    obtain ⟨o1, o2, o3, d, q1, q2, q3⟩ := ho
    subst q2
    unfold ShelfAt at h
    obtain ⟨b, Lt, h1, h2, rfl⟩ := h
    exact sdel_some h1 (treeP_at h2) hn q1 o2 o3 o1 q3 k hk hbig
end Go.Proofs.YtpcmbnbdppembaaGreatDoor
