/- (*shelf.node).merge. -/
import Derived.Test.YtpcmbnbdppembaaGreatDoorDelTree
namespace Go.Proofs.YtpcmbnbdppembaaGreatDoor
set_option linter.unusedSimpArgs false
set_option linter.unusedVariables false
open Go.RowKit Go.Shelf
attribute [local go_sem ↓] Go.wp_at_zero Go.wp_at_succ

/-- what merge makes of three nodes -/
def MergeR (w : World) (D : List Nat) (x a c : Nd) (x1 x2 : List Itm) (y : Itm) (bA bB : List Nat) (w' : World) : Prop :=
  ∃ x' a', Three w D w' x' a' c ∧ x'.b = x.b ∧ x'.xs = x1 ++ x2 ∧ x'.bs = bA ++ a.b :: bB ∧ a'.b = a.b ∧ a'.xs = a.xs ++ y :: c.xs ∧ a'.bs = a.bs ++ c.bs

set_option maxRecDepth 100000 in
set_option maxHeartbeats 16000000 in
theorem merge_ok {w : World} {x a c : Nd} (h : Three w (x.L ++ (a.L ++ c.L)) w x a c) {x1 x2 : List Itm} {y : Itm} {bA bB : List Nat} {kt : Int} (hx : x.xs = x1 ++ y :: x2) (hb : x.bs = bA ++ a.b :: c.b :: bB) (hA : bA.length = x1.length)
    (hc : c.xs ≠ []) (ha : a.xs ≠ []) (hw : x.bs.length ≤ 10) (hwx : x.xs.length ≤ 10) (hwa : a.xs.length ≤ 10) (hwb : a.bs.length ≤ 10) (hwc : c.xs.length ≤ 10) (hwd : c.bs.length ≤ 10) (hkt : kt = (x1.length : Int)) :
    Calls Tryz.prog 219 #[.pointer (some ⟨x.b, 0, none⟩), .int .i64 kt] w fun e w' => (∃ v, e = .returned v) ∧ MergeR w (x.L ++ (a.L ++ c.L)) x a c x1 x2 y bA bB w' := by
  obtain ⟨gx, cx, ex, lx, gxL, _, gxn⟩ := Nd.vform h.1 (by rw [hx]; simp)
  obtain ⟨gu, cu, eu, lu, guL, _, gun⟩ := Nd.uform h.1 (by rw [hb]; simp)
  obtain ⟨ga, ca, ea, la, gaL, _, gan⟩ := Nd.vform h.2.1 ha
  obtain ⟨gc, cc, ec, lc, gcL, gcv, gcn⟩ := Nd.vform h.2.2.1 hc
  obtain ⟨oau, cau, eau⟩ := Nd.uany h.2.1
  obtain ⟨ocu, ccu, ecu⟩ := Nd.uany h.2.2.1
  obtain ⟨xc0, xc1, xf0, xf1, xlt⟩ := Nd.cv h.1
  obtain ⟨ac0, ac1, af0, af1, alt⟩ := Nd.cv h.2.1
  obtain ⟨cc0, cc1, cf0, cf1, clt⟩ := Nd.cv h.2.2.1
  have uk0 := Nd.kid h.1 eu (b1 := bA) (b2 := c.b :: bB) hb
  have uk1 := Nd.kid h.1 eu (b1 := bA ++ [a.b]) (c := c.b) (b2 := bB) (by simp [hb])
  obtain ⟨xi0, xi1, xif⟩ := Nd.item h.1 ex hx
  have exl : x.xs.length = x1.length + x2.length + 1 := by rw [hx]; simp; omega
  have ebl : x.bs.length = x1.length + bB.length + 2 := by rw [hb]; simp; omega
  rw [ex] at xc0; rw [eu] at xc1; rw [ea] at ac0; rw [ec] at cc0
  obtain ⟨nx, hnx⟩ : ∃ nx, nx = x.xs.length := ⟨_, rfl⟩
  obtain ⟨nu, hnu⟩ : ∃ nu, nu = x.bs.length := ⟨_, rfl⟩
  obtain ⟨na, hna⟩ : ∃ na, na = a.xs.length := ⟨_, rfl⟩
  obtain ⟨nc, hnc⟩ : ∃ nc, nc = c.xs.length := ⟨_, rfl⟩
  obtain ⟨nau, hnau⟩ : ∃ nau, nau = a.bs.length := ⟨_, rfl⟩
  obtain ⟨ncu, hncu⟩ : ∃ ncu, ncu = c.bs.length := ⟨_, rfl⟩
  obtain ⟨bx, hbx⟩ : ∃ bx, bx = x.b := ⟨_, rfl⟩
  obtain ⟨ba, hba⟩ : ∃ ba, ba = a.b := ⟨_, rfl⟩
  obtain ⟨bc, hbc⟩ : ∃ bc, bc = c.b := ⟨_, rfl⟩
  have harow := fun W hm => Nd.row h.2.1 W hm
  have hcrow := fun W hm => Nd.row h.2.2.1 W hm
  simp only [← hnx, ← hnu, ← hna, ← hnc, ← hnau, ← hncu, ← hbx, ← hba, ← hbc, List.length_append, List.length_cons, List.length_nil, hA, Nat.zero_add] at hw hwx hwa hwb hwc hwd lx lu la lc xc0 xc1 xf0 xf1 xlt ac0 ac1 af0 af1 alt cc0 cc1 cf0 cf1 clt uk0 uk1 exl ebl hb ex eu ea ec eau ecu gan harow hcrow ⊢
  subst hkt
  rw [ea] at harow
  rw [ec] at hcrow
  have hcat : ∀ W, Mod NoB w W → W.heap[w.heap.size]? = some (.cells #[.string y.1, .string y.2] 73 (0, 0)) → W.heap[w.heap.size + 1]? = some (.cells #[.slice (some ⟨ga, 0, none⟩) na ca, .slice (some ⟨w.heap.size, 0, none⟩) 1 1, .slice (some ⟨gc, 0, none⟩) nc cc] 22 (0, 0)) →
      Calls Tryz.prog 231 #[.slice (some ⟨w.heap.size + 1, 0, none⟩) 3 3] W (FreshIt W (na + 1 + nc) ((a.xs ++ y :: c.xs).flatMap encIt)) := by
    intro W hm h1 h2
    have := concatIt (w := W) (g := w.heap.size + 1) (cp := 3) (rs := [(.slice (some ⟨ga, 0, none⟩) na ca, na, a.xs.flatMap encIt), (.slice (some ⟨w.heap.size, 0, none⟩) 1 1, 1, encIt y), (.slice (some ⟨gc, 0, none⟩) nc cc, nc, c.xs.flatMap encIt)]) (fun j r hj => by
        match j, hj with
        | 0, hj => simp only [List.getElem?_cons_zero, Option.some.injEq] at hj; subst hj; exact cell_of h2 0 rfl
        | 1, hj => simp only [List.getElem?_cons_succ, List.getElem?_cons_zero, Option.some.injEq] at hj; subst hj; exact cell_of h2 1 rfl
        | 2, hj => simp only [List.getElem?_cons_succ, List.getElem?_cons_zero, Option.some.injEq] at hj; subst hj; exact cell_of h2 2 rfl
        | j + 3, hj => simp at hj) (fun r hr => by
        simp only [List.mem_cons, List.not_mem_nil, or_false] at hr
        rcases hr with rfl | rfl | rfl
        · exact ⟨Read.ofRow (harow W hm), by rw [flat_length (k := 2) (fun _ => rfl), ← hna], flat_one (fun _ _ hu => oneIt hu)⟩
        · exact ⟨.inr ⟨_, _, rfl, fun q x hq => World.news_of_block h1 q x hq⟩, rfl, fun _ hu => oneIt hu⟩
        · exact ⟨Read.ofRow (hcrow W hm), by rw [flat_length (k := 2) (fun _ => rfl), ← hnc], flat_one (fun _ _ hu => oneIt hu)⟩) (by simp) (by simp [sumNIt]; omega)
    have e1 : sumNIt [(Value.slice (some ⟨ga, 0, none⟩) na ca, na, a.xs.flatMap encIt), (.slice (some ⟨w.heap.size, 0, none⟩) 1 1, 1, encIt y), (.slice (some ⟨gc, 0, none⟩) nc cc, nc, c.xs.flatMap encIt)] = na + 1 + nc := by simp [sumNIt]; omega
    rw [e1] at this
    have e2 : List.flatMap (fun r : PartIt => r.2.2) [(Value.slice (some ⟨ga, 0, none⟩) na ca, na, a.xs.flatMap encIt), (.slice (some ⟨w.heap.size, 0, none⟩) 1 1, 1, encIt y), (.slice (some ⟨gc, 0, none⟩) nc cc, nc, c.xs.flatMap encIt)] = (a.xs ++ y :: c.xs).flatMap encIt := by simp
    rw [e2] at this
    exact this
  have H := Lib.hid h; have HX := Lib.hid hx; have HB := Lib.hid hb; have HAA := Lib.hid ha; have HC := Lib.hid hc; have EX := Lib.hid ex; have EU := Lib.hid eu; have EA := Lib.hid ea; have EC := Lib.hid ec; have EAU := Lib.hid eau; have ECU := Lib.hid ecu; have HBX := Lib.hid hbx; have HBA := Lib.hid hba; have HBC := Lib.hid hbc; have HA := Lib.hid hA; have HNX := Lib.hid hnx; have HNU := Lib.hid hnu; have HNA := Lib.hid hna; have HNC := Lib.hid hnc; have HNAU := Lib.hid hnau; have HNCU := Lib.hid hncu; have EXL := Lib.hid exl; have EBL := Lib.hid ebl; have HCAT := Lib.hid hcat
  have ac0a : ∀ n o, ((w.drewN n).alloc o).cell? ⟨ba, 0, none⟩ = some (.slice (some ⟨ga, 0, none⟩) na ca) := fun n o => (((Mod.refl NoB w).drewN n).alloc o).cellS ac0
  have cc0a : ∀ n o, ((w.drewN n).alloc o).cell? ⟨bc, 0, none⟩ = some (.slice (some ⟨gc, 0, none⟩) nc cc) := fun n o => (((Mod.refl NoB w).drewN n).alloc o).cellS cc0
  have hw4 : IntKind.i64.wrap ((x1.length : Int) + 1) = (x1.length : Int) + 1 := IntWalk.i64_in _ ⟨by omega, by omega⟩
  have hw5 : IntKind.i64.wrap ((x1.length : Int) + 2) = (x1.length : Int) + 2 := IntWalk.i64_in _ ⟨by omega, by omega⟩
  have hi1 : x1.length < nx := by omega
  have hw1 : IntKind.i64.wrap (x1.length : Int) = (x1.length : Int) := IntWalk.i64_in _ ⟨by omega, by omega⟩
  have hi2 : x1.length < nu := by omega
  have hi3 : (x1.length : Int) + 1 < (nu : Int) := by omega
  clear h hx hb ha hc ex eu ea ec eau ecu hbx hba hbc hA hnx hnu hna hnc hnau hncu harow hcrow hcat gcn gan gxn gun gxL guL gaL gcL gcv xif exl ebl
  go_enter Tryz.func219, Tryz.ntmps219
  go_wp2_with fail
  go_quiet (fail)
  go_wp2_with fail
  go_cut [] (fun wx => ∃ a3 : Nd, Three w (x.L ++ (a.L ++ c.L)) wx x a3 c ∧ a3.b = ba ∧ a3.xs = a.xs ++ y :: c.xs ∧ a3.u = a.u ∧ a3.bs = a.bs)
  case first =>
    go_region_law ((go_simp; go_at_call 231; go_loud (refine (HCAT.out _ (by repeat (first | exact Mod.refl _ _ | refine Mod.alloc ?_ _ | refine Mod.drew ?_ | refine Mod.drewN ?_ _)) (by rw [Below.heap_alloc _ _ _ (by simp)]; exact heap_alloc_new _ _) (by exact heap_two2 _ _ _)).mono ?_; rintro e w4 ⟨v4, rfl, hr, hm, hn4⟩; obtain ⟨g4, cap4, rfl⟩ := (ownsRow_form hr).resolve_left (fun h => absurd h.2 (by omega)); have HM4 := Lib.hid (show Mod NoB w w4 from Mod.trans (by repeat (first | exact Mod.refl _ _ | refine Mod.alloc ?_ _ | refine Mod.drew ?_ | refine Mod.drewN ?_ _)) hm); have k0 := HM4.out.cellS ac0; have kf := (HM4.out.frozen (p := ⟨ba, 0, none⟩) alt (fun x => x)).trans af0; have HR4 := Lib.hid hr; have HN4 := Lib.hid (show ∀ k ∈ ownL _, w.heap.size ≤ k from fun k hk => Nat.le_trans (Mod.size (S := NoB) (by repeat (first | exact Mod.refl _ _ | refine Mod.alloc ?_ _ | refine Mod.drew ?_ | refine Mod.drewN ?_ _))) (hn4 k hk)); clear hr hm hn4)))
    all_goals
      go_wp2_with fail
      go_meet
      have hcc := Three.a H.out (chg_items (v' := .slice (some ⟨g4, 0, none⟩) (na + 1 + nc) cap4) (xs' := a.xs ++ y :: c.xs) H.out.2.1 H.out.na (HM4.out.mono (fun _ _ e => e.elim)) (by have := HR4.out; have e : (a.xs ++ y :: c.xs).length = na + 1 + nc := by { rw [List.length_append, List.length_cons, ← HNA.out, ← HNC.out]; omega }; rw [e]; exact this) (fun k hk => .inr (HN4.out k hk)))
      rw [← HBA.out] at hcc
      first
        | exact ⟨_, hcc, rfl, rfl, rfl, rfl⟩
        | exact ⟨_, hcc.quiet ((Mod.refl _ _).drew), rfl, rfl, rfl, rfl⟩
  case rest =>
    obtain ⟨W3, rfl⟩ : ∃ W3 : World, W3 = wc := ⟨_, rfl⟩
    obtain ⟨a3, h3, e3b, e3x, e3u, e3s⟩ := hcut
    clear xi0 xi1 xc0 xc1 xf0 xf1 ac0 ac1 af0 af1 cc0 cc1 cf0 cf1 uk0 uk1 ac0a cc0a HCAT
    obtain ⟨ac0, ac1, af0, af1, alt3⟩ := Nd.cv h3.2.1
    obtain ⟨cc0, cc1, cf0, cf1, clt3⟩ := Nd.cv h3.2.2.1
    rw [e3u, EAU.out, e3b] at ac1; rw [e3b] at af1 alt3
    rw [ECU.out, ← HBC.out] at cc1; rw [← HBC.out] at cf1
    have harow := fun W hm => Nd.rowU h3.2.1 W hm
    have hcrow := fun W hm => Nd.rowU h3.2.2.1 W hm
    rw [e3u, EAU.out, e3s, ← HNAU.out] at harow
    rw [ECU.out, ← HNCU.out] at hcrow
    have hcat : ∀ W, Mod NoB W3 W → W.heap[W3.heap.size]? = some (.cells #[.slice oau nau cau, .slice ocu ncu ccu] 188 (0, 0)) →
        Calls Tryz.prog 232 #[.slice (some ⟨W3.heap.size, 0, none⟩) 2 2] W (FreshNd W (nau + ncu) ((a.bs ++ c.bs).flatMap encNd)) := by
      intro W hm h2
      have := concatNd (w := W) (g := W3.heap.size) (cp := 2) (rs := [(.slice oau nau cau, nau, a.bs.flatMap encNd), (.slice ocu ncu ccu, ncu, c.bs.flatMap encNd)]) (fun j r hj => by
          match j, hj with
          | 0, hj => simp only [List.getElem?_cons_zero, Option.some.injEq] at hj; subst hj; exact cell_of h2 0 rfl
          | 1, hj => simp only [List.getElem?_cons_succ, List.getElem?_cons_zero, Option.some.injEq] at hj; subst hj; exact cell_of h2 1 rfl
          | j + 2, hj => simp at hj) (fun r hr => by
          simp only [List.mem_cons, List.not_mem_nil, or_false] at hr
          rcases hr with rfl | rfl
          · exact ⟨Read.ofRow (harow W hm), by rw [flat_length (k := 1) (fun _ => rfl), ← HNAU.out], flat_one (fun _ _ hu => oneNd hu)⟩
          · exact ⟨Read.ofRow (hcrow W hm), by rw [flat_length (k := 1) (fun _ => rfl), ← HNCU.out], flat_one (fun _ _ hu => oneNd hu)⟩) (by simp) (by simp [sumNNd]; omega)
      have e1 : sumNNd [(Value.slice oau nau cau, nau, a.bs.flatMap encNd), (.slice ocu ncu ccu, ncu, c.bs.flatMap encNd)] = nau + ncu := by simp [sumNNd]
      rw [e1] at this
      have e2 : List.flatMap (fun r : PartNd => r.2.2) [(Value.slice oau nau cau, nau, a.bs.flatMap encNd), (.slice ocu ncu ccu, ncu, c.bs.flatMap encNd)] = (a.bs ++ c.bs).flatMap encNd := by simp
      rw [e2] at this
      exact this
    have H3 := Lib.hid h3; have E3B := Lib.hid e3b; have E3X := Lib.hid e3x; have E3U := Lib.hid e3u; have E3S := Lib.hid e3s; have HCAT := Lib.hid hcat
    clear h3 e3b e3x e3u e3s ac0 cc0 af0 cf0 harow hcrow hcat
    go_wp2_with fail
    go_cut [] (fun wx => ∃ a5 : Nd, Three w (x.L ++ (a.L ++ c.L)) wx x a5 c ∧ a5.b = ba ∧ a5.xs = a3.xs ∧ a5.bs = a.bs ++ c.bs)
    case first =>
      go_region_law ((go_simp; go_at_call 232; go_loud (refine (HCAT.out _ (by repeat (first | exact Mod.refl _ _ | refine Mod.alloc ?_ _ | refine Mod.drew ?_ | refine Mod.drewN ?_ _)) (by exact heap_alloc_new _ _)).mono ?_; rintro e w4 ⟨v4, rfl, hr, hm, hn4⟩; obtain ⟨o4, cap4, rfl⟩ : ∃ o cap, v4 = .slice o (nau + ncu) cap := ((ownsRow_form hr).elim (fun h => ⟨none, 0, by rw [h.1, h.2]⟩) (fun ⟨g, cap, h⟩ => ⟨_, cap, h⟩)); have HM4 := Lib.hid (show Mod NoB W3 w4 from Mod.trans (by repeat (first | exact Mod.refl _ _ | refine Mod.alloc ?_ _ | refine Mod.drew ?_ | refine Mod.drewN ?_ _)) hm); have k0 := HM4.out.cellS ac1; have kf := (HM4.out.frozen (p := ⟨ba, 1, none⟩) alt3 (fun x => x)).trans af1; have HR4 := Lib.hid hr; have HN4 := Lib.hid (show ∀ k ∈ ownL _, W3.heap.size ≤ k from fun k hk => Nat.le_trans (Mod.size (S := NoB) (by repeat (first | exact Mod.refl _ _ | refine Mod.alloc ?_ _ | refine Mod.drew ?_ | refine Mod.drewN ?_ _))) (hn4 k hk)); clear hr hm hn4)))
      all_goals
        go_wp2_with fail
        go_meet
        have hcc := Three.a H3.out (chg_below (u' := .slice o4 (nau + ncu) cap4) (bs' := a.bs ++ c.bs) H3.out.2.1 H3.out.na (HM4.out.mono (fun _ _ e => e.elim)) (by have := HR4.out; rw [List.length_append, ← HNAU.out, ← HNCU.out]; exact this) (fun k hk => .inr (HN4.out k hk)))
        rw [E3B.out] at hcc
        first
          | exact ⟨_, hcc, rfl, rfl, rfl⟩
          | exact ⟨_, hcc.quiet ((Mod.refl _ _).drew), rfl, rfl, rfl⟩
    case rest =>
      obtain ⟨W5, rfl⟩ : ∃ W5 : World, W5 = wc := ⟨_, rfl⟩
      obtain ⟨a5, h5, e5b, e5x, e5s⟩ := hcut
      clear ac1 cc1 af1 cf1 HCAT
      obtain ⟨xc0, xc1, xf0, xf1, xlt5⟩ := Nd.cv h5.1
      rw [EX.out, ← HBX.out] at xc0; rw [← HBX.out] at xf0
      have hgxb : gx ≠ bx := by
        obtain ⟨g', c', e', _, _, _, q⟩ := (Nd.vform h5.1 (by rw [HX.out]; simp))
        rw [EX.out] at e'
        simp only [Value.slice.injEq, Option.some.injEq, Addr.mk.injEq, and_true] at e'
        rw [HBX.out, e'.1]
        exact (q h5.nx).1
      have BX : Hid (W5.heap[bx]? = some (.cells #[.slice (some ⟨gx, 0, none⟩) nx cx, x.u] 190 (0, 0))) := Lib.hid (by have := h5.1.1; rw [EX.out, ← HBX.out] at this; exact this)
      have hdel : ∀ W, Mod NoB W5 W → Calls Tryz.prog 195 #[.slice (some ⟨gx, 0, none⟩) nx cx, .int .i64 (x1.length : Int), .int .i64 ((x1.length : Int) + 1)] W (fun e w' => e = .returned (.slice (some ⟨gx, 0, none⟩) (nx - 1) cx) ∧ RowIt w' (.slice (some ⟨gx, 0, none⟩) (nx - 1) cx) (nx - 1) ((x.xs.flatMap encIt).take (x1.length * 2) ++ (x.xs.flatMap encIt).drop (x1.length * 2 + 2)) ∧ Mod (· = gx) W w') := fun W hm =>
        delAtIt (i := x1.length) (by have := Nd.row h5.1 W hm; rwa [EX.out, ← HNX.out] at this) (flat_one (fun _ _ hu => oneIt hu)) hi1
      have e6 : (x.xs.flatMap encIt).take (x1.length * 2) ++ (x.xs.flatMap encIt).drop (x1.length * 2 + 2) = (x1 ++ x2).flatMap encIt := by
        rw [show x1.length * 2 + 2 = (x1.length + 1) * 2 by omega, flat_take (k := 2) (fun _ => rfl), flat_drop (k := 2) (fun _ => rfl), ← List.flatMap_append, HX.out]
        congr 1
        simp
      rw [e6] at hdel
      have H5 := Lib.hid h5; have E5B := Lib.hid e5b; have E5X := Lib.hid e5x; have E5S := Lib.hid e5s; have HDEL := Lib.hid hdel
      clear h5 e5b e5x e5s xc1 xf1 hdel e6
      go_wp2_with fail
      refine (HDEL.out _ (by repeat (first | exact Mod.refl _ _ | refine Mod.alloc ?_ _ | refine Mod.drew ?_ | refine Mod.drewN ?_ _))).mono ?_
      rintro e w6 ⟨rfl, hr6, hm6⟩
      have kb := heap_keep2 BX.out hm6 (by repeat (first | exact Mod.refl _ _ | refine Mod.alloc ?_ _ | refine Mod.drew ?_ | refine Mod.drewN ?_ _)) (fun e => hgxb e.symm)
      have kz0 : w6.cell? ⟨bx, 0, none⟩ = some (.slice (some ⟨gx, 0, none⟩) nx cx) := cell_of kb 0 rfl
      have kf := frozen_of kb 0
      have hxl : (x1 ++ x2).length = nx - 1 := by have := EXL.out; rw [List.length_append]; omega
      have h7 := Three.x H5.out (chg_items (v' := .slice (some ⟨gx, 0, none⟩) (nx - 1) cx) (xs' := x1 ++ x2) (w1 := w6) H5.out.1 H5.out.nx (by rw [EX.out]; exact (then2 (Mod.refl NoB W5) hm6 (by repeat (first | exact Mod.refl _ _ | refine Mod.alloc ?_ _ | refine Mod.drew ?_ | refine Mod.drewN ?_ _))).mono (fun k _ e => by subst e; simp [ownL, Value.ownBlock])) (by rw [hxl]; exact hr6) (fun k hk => .inl (by rw [EX.out]; exact hk)))
      rw [← HBX.out] at h7
      have H7 := Lib.hid h7
      clear hr6 hm6 kb h7 hxl xc0 xf0
      go_upto_region 4 with (fail)
      obtain ⟨W7, hW7⟩ : ∃ W7, W7 = w6.setCell ⟨bx, 0, none⟩ (.slice (some ⟨gx, 0, none⟩) (nx - 1) cx) := ⟨_, rfl⟩
      rw [← hW7] at H7 ⊢
      obtain ⟨x7, hx7⟩ : ∃ x7 : Nd, x7 = ⟨bx, .slice (some ⟨gx, 0, none⟩) (nx - 1) cx, x1 ++ x2, x.u, x.bs⟩ := ⟨_, rfl⟩
      rw [← hx7] at H7
      have e7b : x7.b = bx := by rw [hx7]
      have e7x : x7.xs = x1 ++ x2 := by rw [hx7]
      have e7u : x7.u = .slice (some ⟨gu, 0, none⟩) nu cu := by rw [hx7]; exact EU.out
      have e7s : x7.bs = x.bs := by rw [hx7]
      have h7 := H7.out
      clear hW7 hx7 kz0 kf
      obtain ⟨xc0, xc1, xf0, xf1, xlt7⟩ := Nd.cv h7.1
      rw [e7u, e7b] at xc1; rw [e7b] at xf1
      have hgub : gu ≠ bx := by
        obtain ⟨g', c', e', _, _, _, q⟩ := (Nd.uform h7.1 (by rw [e7s, HB.out]; simp))
        rw [e7u] at e'
        simp only [Value.slice.injEq, Option.some.injEq, Addr.mk.injEq, and_true] at e'
        rw [← e7b, e'.1]
        exact (q h7.nx).1
      have BX2 : Hid (W7.heap[bx]? = some (.cells #[x7.v, .slice (some ⟨gu, 0, none⟩) nu cu] 190 (0, 0))) := Lib.hid (by have := h7.1.1; rw [e7u, e7b] at this; exact this)
      have hdel : ∀ W, Mod NoB W7 W → Calls Tryz.prog 230 #[.slice (some ⟨gu, 0, none⟩) nu cu, .int .i64 ((x1.length : Int) + 1), .int .i64 ((x1.length : Int) + 2)] W (fun e w' => e = .returned (.slice (some ⟨gu, 0, none⟩) (nu - 1) cu) ∧ RowNd w' (.slice (some ⟨gu, 0, none⟩) (nu - 1) cu) (nu - 1) ((x7.bs.flatMap encNd).take ((x1.length + 1) * 1) ++ (x7.bs.flatMap encNd).drop ((x1.length + 1) * 1 + 1)) ∧ Mod (· = gu) W w') := fun W hm => by
        have := delAtNd (i := x1.length + 1) (n := nu) (by have := Nd.rowU h7.1 W hm; rw [e7u] at this; rw [show x7.bs.length = nu by rw [e7s, HNU.out]] at this; exact this) (flat_one (fun _ _ hu => oneNd hu)) (by omega)
        rw [show ((x1.length + 1 : Nat) : Int) = (x1.length : Int) + 1 by omega, show (x1.length : Int) + 1 + 1 = (x1.length : Int) + 2 by omega] at this
        exact this
      have e6 : (x7.bs.flatMap encNd).take ((x1.length + 1) * 1) ++ (x7.bs.flatMap encNd).drop ((x1.length + 1) * 1 + 1) = (bA ++ ba :: bB).flatMap encNd := by
        rw [show (x1.length + 1) * 1 + 1 = (x1.length + 2) * 1 by omega, flat_take (k := 1) (fun _ => rfl), flat_drop (k := 1) (fun _ => rfl), ← List.flatMap_append, e7s, HB.out, ← HA.out]
        congr 1
        simp only [List.take_append, List.drop_append, List.take_of_length_le (show bA.length ≤ bA.length + 1 by omega), List.drop_eq_nil_of_le (show bA.length ≤ bA.length + 2 by omega), Nat.add_sub_cancel_left]
        simp
      rw [e6] at hdel
      have E7B := Lib.hid e7b; have E7X := Lib.hid e7x; have E7U := Lib.hid e7u; have E7S := Lib.hid e7s; have HDEL2 := Lib.hid hdel
      clear h7 e7b e7x e7u e7s xc0 xf0 hdel e6 HDEL
      go_wp2_with fail
      refine (HDEL2.out _ (by repeat (first | exact Mod.refl _ _ | refine Mod.alloc ?_ _ | refine Mod.drew ?_ | refine Mod.drewN ?_ _))).mono ?_
      rintro e w8 ⟨rfl, hr8, hm8⟩
      have kb := heap_keep2 BX2.out hm8 (by repeat (first | exact Mod.refl _ _ | refine Mod.alloc ?_ _ | refine Mod.drew ?_ | refine Mod.drewN ?_ _)) (fun e => hgub e.symm)
      have kz1 : w8.cell? ⟨bx, 1, none⟩ = some (.slice (some ⟨gu, 0, none⟩) nu cu) := cell_of kb 1 rfl
      have kf := frozen_of kb 1
      have hbl : (bA ++ ba :: bB).length = nu - 1 := by have := EBL.out; have := HA.out; rw [List.length_append, List.length_cons]; omega
      have h9 := Three.x H7.out (chg_below (u' := .slice (some ⟨gu, 0, none⟩) (nu - 1) cu) (bs' := bA ++ ba :: bB) (w1 := w8) H7.out.1 H7.out.nx (by rw [E7U.out]; exact (then2 (Mod.refl NoB W7) hm8 (by repeat (first | exact Mod.refl _ _ | refine Mod.alloc ?_ _ | refine Mod.drew ?_ | refine Mod.drewN ?_ _))).mono (fun k _ e => by subst e; simp [ownL, Value.ownBlock])) (by rw [hbl]; exact hr8) (fun k hk => .inl (by rw [E7U.out]; exact hk)))
      rw [E7B.out] at h9
      have H9 := Lib.hid h9
      clear hr8 hm8 kb h9 hbl xc1 xf1
      go_wp2_with fail
      refine bodyPost_end (results_none rfl _ _ _) rfl ⟨⟨_, rfl⟩, _, a5, H9.out, HBX.out, E7X.out, ?_, ?_, ?_, E5S.out⟩
      · rw [← HBA.out]
      · rw [E5B.out, HBA.out]
      · rw [E5X.out, E3X.out]
end Go.Proofs.YtpcmbnbdppembaaGreatDoor
