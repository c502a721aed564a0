/- (*shelf.node).fromRight. -/
import Derived.Test.YtpcmbnbdppembaaGreatDoorDelTree
namespace Go.Proofs.YtpcmbnbdppembaaGreatDoor
set_option linter.unusedSimpArgs false
set_option linter.unusedVariables false
open Go.RowKit Go.Shelf
attribute [local go_sem ↓] Go.wp_at_zero Go.wp_at_succ

/-- what fromRight makes of three nodes -/
def RightR (w : World) (D : List Nat) (x a c : Nd) (x1 x2 cl : List Itm) (y z : Itm) (kz kc : List Nat) (w' : World) : Prop :=
  ∃ x' a' c', Three w D w' x' a' c' ∧ x'.b = x.b ∧ x'.xs = x1 ++ z :: x2 ∧ x'.bs = x.bs ∧ a'.b = a.b ∧ a'.xs = a.xs ++ [y] ∧ a'.bs = a.bs ++ kz ∧ c'.b = c.b ∧ c'.xs = cl ∧ c'.bs = kc

set_option maxRecDepth 100000 in
set_option maxHeartbeats 16000000 in
theorem fromRight_ok {w : World} {x a c : Nd} (h : Three w (x.L ++ (a.L ++ c.L)) w x a c) {x1 x2 cl : List Itm} {y z : Itm} {bA bB kc kz : List Nat} {kt : Int} (hx : x.xs = x1 ++ y :: x2) (hb : x.bs = bA ++ a.b :: c.b :: bB) (hA : bA.length = x1.length)
    (hc : c.xs = z :: cl) (hk : c.bs = kz ++ kc) (hkz : (kc = [] ∧ kz = [] ∧ a.bs = []) ∨ (kz.length = 1 ∧ a.bs ≠ [])) (ha : a.xs ≠ []) (hw : x.bs.length ≤ 10) (hwx : x.xs.length ≤ 10) (hwa : a.xs.length ≤ 10) (hwb : a.bs.length ≤ 10) (hwc : c.xs.length ≤ 10) (hwd : c.bs.length ≤ 10) (hkt : kt = (x1.length : Int)) :
    Calls Tryz.prog 218 #[.pointer (some ⟨x.b, 0, none⟩), .int .i64 kt] w fun e w' => (∃ v, e = .returned v) ∧ RightR w (x.L ++ (a.L ++ c.L)) x a c x1 x2 cl y z kz kc w' := by
  obtain ⟨i0, z0, hii, hz0, hzi1, hzi2, hzi3⟩ := partsIt
  obtain ⟨i1, z1, hii1, hz1, hzj1, hzj2, hzj3⟩ := partsNd
  have HI := Lib.hid hii; have HZ0 := Lib.hid hz0; have HZ1 := Lib.hid hzi1; have HZ2 := Lib.hid hzi2
  have HJ := Lib.hid hii1; have HY0 := Lib.hid hz1; have HY1 := Lib.hid hzj1; have HY2 := Lib.hid hzj2
  clear hii hz0 hzi1 hzi2 hii1 hz1 hzj1 hzj2
  obtain ⟨gx, cx, ex, lx, gxL, _, gxn⟩ := Nd.vform h.1 (by rw [hx]; simp)
  obtain ⟨gu, cu, eu, lu, guL, _, gun⟩ := Nd.uform h.1 (by rw [hb]; simp)
  obtain ⟨ga, ca, ea, la, gaL, _, gan⟩ := Nd.vform h.2.1 ha
  obtain ⟨gc, cc, ec, lc, gcL, gcv, gcn⟩ := Nd.vform h.2.2.1 (by rw [hc]; simp)
  obtain ⟨xc0, xc1, xf0, xf1, xlt⟩ := Nd.cv h.1
  obtain ⟨ac0, ac1, af0, af1, alt⟩ := Nd.cv h.2.1
  obtain ⟨cc0, cc1, cf0, cf1, clt⟩ := Nd.cv h.2.2.1
  have uk0 := Nd.kid h.1 eu (b1 := bA) (b2 := c.b :: bB) hb
  have uk1 := Nd.kid h.1 eu (b1 := bA ++ [a.b]) (c := c.b) (b2 := bB) (by simp [hb])
  obtain ⟨xi0, xi1, xif⟩ := Nd.item h.1 ex hx
  have exl : x.xs.length = x1.length + x2.length + 1 := by rw [hx]; simp; omega
  have ebl : x.bs.length = x1.length + bB.length + 2 := by rw [hb]; simp; omega
  have ecl : c.xs.length = cl.length + 1 := by rw [hc]; simp
  rw [ex] at xc0; rw [eu] at xc1; rw [ea] at ac0; rw [ec] at cc0
  obtain ⟨nx, hnx⟩ : ∃ nx, nx = x.xs.length := ⟨_, rfl⟩
  obtain ⟨nu, hnu⟩ : ∃ nu, nu = x.bs.length := ⟨_, rfl⟩
  obtain ⟨na, hna⟩ : ∃ na, na = a.xs.length := ⟨_, rfl⟩
  obtain ⟨nc, hnc⟩ : ∃ nc, nc = c.xs.length := ⟨_, rfl⟩
  obtain ⟨bx, hbx⟩ : ∃ bx, bx = x.b := ⟨_, rfl⟩
  obtain ⟨ba, hba⟩ : ∃ ba, ba = a.b := ⟨_, rfl⟩
  obtain ⟨bc, hbc⟩ : ∃ bc, bc = c.b := ⟨_, rfl⟩
  have hgaw : ga < w.heap.size := h.2.1.lts ga gaL
  have harow := fun W hm => Nd.row h.2.1 W hm
  simp only [← hnx, ← hnu, ← hna, ← hnc, ← hbx, ← hba, ← hbc, List.length_append, List.length_cons, List.length_nil, hA, Nat.zero_add] at hw hwx hwa hwc lx lu la lc xc0 xc1 xf0 xf1 xlt ac0 ac1 af0 af1 alt cc0 cc1 cf0 cf1 clt uk0 uk1 exl ebl ecl hb ex eu ea ec gan harow hgaw ⊢
  subst hkt
  rw [ea] at harow
  have H := Lib.hid h; have HX := Lib.hid hx; have HB := Lib.hid hb; have HAA := Lib.hid ha; have HK := Lib.hid hk; have HKZ := Lib.hid hkz; have HC := Lib.hid hc; have EX := Lib.hid ex; have EU := Lib.hid eu; have EA := Lib.hid ea; have EC := Lib.hid ec; have HBX := Lib.hid hbx; have HBA := Lib.hid hba; have HBC := Lib.hid hbc; have HA := Lib.hid hA; have HNX := Lib.hid hnx; have HNU := Lib.hid hnu; have HNA := Lib.hid hna; have HNC := Lib.hid hnc; have HAROW := Lib.hid harow; have EXL := Lib.hid exl; have EBL := Lib.hid ebl; have ECL := Lib.hid ecl
  have hgab : ga ≠ ba := (gan h.na).1
  have ac0a : ∀ n o, ((w.drewN n).alloc o).cell? ⟨ba, 0, none⟩ = some (.slice (some ⟨ga, 0, none⟩) na ca) := fun n o => (((Mod.refl NoB w).drewN n).alloc o).cellS ac0
  have hi1 : x1.length < nx := by omega
  have hw1 : IntKind.i64.wrap (x1.length : Int) = (x1.length : Int) := IntWalk.i64_in _ ⟨by omega, by omega⟩
  have hi2 : x1.length < nu := by omega
  have hi3 : (x1.length : Int) + 1 < (nu : Int) := by omega
  have hi4 : 0 < nc := by omega
  clear h hx hb ha hk hkz hc ex eu ea ec hbx hba hbc hA hnx hnu hna hnc harow gcn gan gxn gun gxL guL gaL gcL gcv xif exl ebl ecl
  go_enter Tryz.func218, Tryz.ntmps218
  go_wp2_with fail
  go_quiet (fail)
  go_wp2_with fail
  have BC : Hid (w.heap[ba]? = some (.cells #[.slice (some ⟨ga, 0, none⟩) na ca, a.u] 190 (0, 0))) := Lib.hid (by have := H.out.2.1.1; rw [EA.out, ← HBA.out] at this; exact this)
  have HBO : Hid (ba ∉ ownL (.slice (some ⟨ga, 0, none⟩) na ca)) := Lib.hid (fun e => hgab (by have : ba = ga := (by simpa [ownL, Value.ownBlock] using e); exact this.symm))
  go_cut [] (fun wx => ∃ a3 : Nd, Three w (x.L ++ (a.L ++ c.L)) wx x a3 c ∧ a3.b = ba ∧ a3.xs = a.xs ++ [y] ∧ a3.u = a.u ∧ a3.bs = a.bs)
  case first =>
    go_region_law ((first | (go_loud (refine step_appended (by rfl) (.tmp 25) (.tmp 33) 22 (by rfl) 73 i0 z0 2 tySIt HI.out HZ0.out HZ1.out HZ2.out hzi3 (by decide) (.slice (some ⟨ga, 0, none⟩) na ca) na (a.xs.flatMap encIt) (by simp [Act.eval, Act.put]) (HAROW.out _ (by repeat (first | exact Mod.refl _ _ | refine Mod.alloc ?_ _ | refine Mod.drew ?_ | refine Mod.drewN ?_ _))) (.slice (some ⟨w.heap.size, 0, none⟩) 1 1) 1 (encIt y) (by simp [Act.eval, Act.put]) (.inr ⟨_, _, rfl, fun q x hq => World.news_of_block (heap_alloc_new _ _) q x hq⟩) rfl (fun _ hu => oneIt hu) (by omega) ?_); intro u9 w9 hA; obtain ⟨g9, cap9, rfl⟩ := (ownsRow_form hA.own).resolve_left (fun h => absurd h.2 (by omega)); have hk9 := heap_keep2 BC.out hA.mod (by repeat (first | exact Mod.refl _ _ | refine Mod.alloc ?_ _ | refine Mod.drew ?_ | refine Mod.drewN ?_ _)) HBO.out; have e9 : w9.cell? ⟨ba, 0, none⟩ = some (.slice (some ⟨ga, 0, none⟩) na ca) := cell_of hk9 0 rfl; have ef9 := frozen_of hk9 0; have HM9 := Lib.hid (then2 (Mod.refl NoB w) hA.mod (by repeat (first | exact Mod.refl _ _ | refine Mod.alloc ?_ _ | refine Mod.drew ?_ | refine Mod.drewN ?_ _))); have HR9 := Lib.hid hA.own; have HN9 := Lib.hid (fun k hk => c_new (w3 := w) (hA.new k hk) (by repeat (first | exact Mod.refl _ _ | refine Mod.alloc ?_ _ | refine Mod.drew ?_ | refine Mod.drewN ?_ _))); clear hA hk9)))
    all_goals
      go_wp2_with fail
      go_meet
      have hcc := Three.a H.out (chg_items (v' := .slice (some ⟨g9, 0, none⟩) (na + 1) cap9) (xs' := a.xs ++ [y]) H.out.2.1 H.out.na (by rw [EA.out]; exact HM9.out) (by have := HR9.out; rw [List.length_append, ← HNA.out]; simpa using this) (fun k hk => by rw [EA.out]; exact HN9.out k hk))
      rw [← HBA.out] at hcc
      first
        | exact ⟨_, hcc, rfl, rfl, rfl, rfl⟩
        | exact ⟨_, hcc.quiet ((Mod.refl _ _).drew), rfl, rfl, rfl, rfl⟩
  case rest =>
    obtain ⟨W3, rfl⟩ : ∃ W3 : World, W3 = wc := ⟨_, rfl⟩
    obtain ⟨a3, h3, e3b, e3x, e3u, e3s⟩ := hcut
    have H3 := Lib.hid h3; have E3B := Lib.hid e3b; have E3X := Lib.hid e3x; have E3U := Lib.hid e3u; have E3S := Lib.hid e3s
    clear xi0 xi1 xc0 xc1 xf0 xf1 ac0 ac1 af0 af1 cc0 cc1 cf0 cf1 uk0 uk1 ac0a HAROW BC HBO
    obtain ⟨xc0, xc1, xf0, xf1, xlt3⟩ := Nd.cv h3.1
    obtain ⟨cc0, cc1, cf0, cf1, clt3⟩ := Nd.cv h3.2.2.1
    rw [EX.out, ← HBX.out] at xc0; rw [← HBX.out] at xf0
    rw [EC.out, ← HBC.out] at cc0; rw [← HBC.out] at cf0
    obtain ⟨xi0, xi1, xif⟩ := Nd.item h3.1 EX.out HX.out
    obtain ⟨ci0, ci1, cif⟩ := Nd.item h3.2.2.1 EC.out (x1 := []) HC.out
    simp only [List.length_nil, Nat.zero_mul, Nat.zero_add] at ci0 ci1
    have xif0 := xif (x1.length * 2)
    have xif1 := xif (x1.length * 2 + 1)
    clear h3 e3b e3x e3u e3s xc1 cc1 xf1 cf1 xif cif
    go_wp2_with fail
    go_cut [] (fun wx => Three w (x.L ++ (a.L ++ c.L)) wx { x with xs := x1 ++ z :: x2 } a3 c)
    case first =>
      go_region_law (fail)
      all_goals
        go_wp2_with fail
        go_meet
        exact Three.quiet (Three.x H3.out (by have := chg_setItem (z := z) H3.out.1 H3.out.nx (by rw [EX.out, HNX.out]) HX.out rfl; exact this)) ((Mod.refl _ _).drew)
    case rest =>
      obtain ⟨W4, rfl⟩ : ∃ W4 : World, W4 = wc := ⟨_, rfl⟩
      obtain ⟨x4, hx4⟩ : ∃ x4 : Nd, x4 = { x with xs := x1 ++ z :: x2 } := ⟨_, rfl⟩
      rw [← hx4] at hcut
      have e4b : x4.b = x.b := by rw [hx4]
      have e4x : x4.xs = x1 ++ z :: x2 := by rw [hx4]
      have e4s : x4.bs = x.bs := by rw [hx4]
      clear xc0 xf0 cc0 cf0 xi0 xi1 ci0 ci1 xif0 xif1
      obtain ⟨cc0, cc1, cf0, cf1, clt4⟩ := Nd.cv hcut.2.2.1
      rw [EC.out, ← HBC.out] at cc0; rw [← HBC.out] at cf0
      have hgcb : gc ≠ bc := by
        have := (Nd.vform hcut.2.2.1 (by rw [HC.out]; simp))
        obtain ⟨g', c', e', _, _, _, q⟩ := this
        rw [EC.out] at e'
        simp only [Value.slice.injEq, Option.some.injEq, Addr.mk.injEq, and_true] at e'
        rw [HBC.out, e'.1]
        exact (q hcut.nc).1
      have BC : Hid (W4.heap[bc]? = some (.cells #[.slice (some ⟨gc, 0, none⟩) nc cc, c.u] 190 (0, 0))) := Lib.hid (by have := hcut.2.2.1.1; rw [EC.out, ← HBC.out] at this; exact this)
      have hdel : ∀ W, Mod NoB W4 W → Calls Tryz.prog 195 #[.slice (some ⟨gc, 0, none⟩) nc cc, .int .i64 0, .int .i64 1] W (fun e w' => e = .returned (.slice (some ⟨gc, 0, none⟩) (nc - 1) cc) ∧ RowIt w' (.slice (some ⟨gc, 0, none⟩) (nc - 1) cc) (nc - 1) ((c.xs.flatMap encIt).take (0 * 2) ++ (c.xs.flatMap encIt).drop (0 * 2 + 2)) ∧ Mod (· = gc) W w') := fun W hm =>
        delAtIt (i := 0) (by have := Nd.row hcut.2.2.1 W hm; rwa [EC.out, ← HNC.out] at this) (flat_one (fun _ _ hu => oneIt hu)) (by omega)
      have e6 : (c.xs.flatMap encIt).take (0 * 2) ++ (c.xs.flatMap encIt).drop (0 * 2 + 2) = cl.flatMap encIt := by rw [HC.out]; rfl
      rw [e6] at hdel
      have H4 := Lib.hid hcut; have E4B := Lib.hid e4b; have E4X := Lib.hid e4x; have E4S := Lib.hid e4s; have HDEL := Lib.hid hdel
      clear hcut hx4 e4b e4x e4s cc1 cf1 hdel e6
      go_wp2_with fail
      refine (HDEL.out _ (by repeat (first | exact Mod.refl _ _ | refine Mod.alloc ?_ _ | refine Mod.drew ?_ | refine Mod.drewN ?_ _))).mono ?_
      rintro e w5 ⟨rfl, hr5, hm5⟩
      have kb := heap_keep2 BC.out hm5 (by repeat (first | exact Mod.refl _ _ | refine Mod.alloc ?_ _ | refine Mod.drew ?_ | refine Mod.drewN ?_ _)) (fun e => hgcb e.symm)
      have kz0 : w5.cell? ⟨bc, 0, none⟩ = some (.slice (some ⟨gc, 0, none⟩) nc cc) := cell_of kb 0 rfl
      have kf := frozen_of kb 0
      have hcl : cl.length = nc - 1 := by have := ECL.out; omega
      have h6 := Three.c H4.out (chg_items (v' := .slice (some ⟨gc, 0, none⟩) (nc - 1) cc) (xs' := cl) (w1 := w5) H4.out.2.2.1 H4.out.nc (by rw [EC.out]; exact (then2 (Mod.refl NoB W4) hm5 (by repeat (first | exact Mod.refl _ _ | refine Mod.alloc ?_ _ | refine Mod.drew ?_ | refine Mod.drewN ?_ _))).mono (fun k _ e => by subst e; simp [ownL, Value.ownBlock])) (by rw [hcl]; exact hr5) (fun k hk => .inl (by rw [EC.out]; exact hk)))
      rw [← HBC.out] at h6
      have H6 := Lib.hid h6
      have HLF := Lib.hid (leaf_node h6.2.2.1)
      clear hr5 hm5 kb h6 hcl cc0 cf0
      rcases HKZ.out with ⟨q1, q2, q3⟩ | ⟨q2, q3⟩
      · have hbl : c.bs.length = 0 := by rw [HK.out, q1, q2]; rfl
        have Q1 := Lib.hid q1; have Q2 := Lib.hid q2; have Q3 := Lib.hid q3
        clear q1 q2 q3
        go_wp2_with (go_at_call 148; refine HLF.out.mono ?_; rintro e w6 ⟨rfl, rfl⟩)
        refine bodyPost_end (results_none rfl _ _ _) rfl ⟨⟨_, rfl⟩, x4, a3, _, H6.out, E4B.out, E4X.out, E4S.out, ?_, E3X.out, ?_, HBC.out, rfl, ?_⟩
        · rw [E3B.out, HBA.out]
        · rw [E3S.out, Q2.out, List.append_nil]
        · show c.bs = kc
          rw [HK.out, Q2.out]; rfl
      · have hbl : ¬ c.bs.length = 0 := by rw [HK.out, List.length_append]; omega
        obtain ⟨k0, rfl⟩ : ∃ k0, kz = [k0] := List.length_eq_one_iff.1 q2
        have Q3 := Lib.hid q3
        clear q2 q3
        go_wp2_with (go_at_call 148; refine HLF.out.mono ?_; rintro e w6 ⟨rfl, rfl⟩)
        obtain ⟨W6, hW6⟩ : ∃ W6, W6 = w5.setCell ⟨bc, 0, none⟩ (.slice (some ⟨gc, 0, none⟩) (nc - 1) cc) := ⟨_, rfl⟩
        rw [← hW6] at H6 ⊢
        obtain ⟨c6, hc6⟩ : ∃ c6 : Nd, c6 = ⟨bc, .slice (some ⟨gc, 0, none⟩) (nc - 1) cc, cl, c.u, c.bs⟩ := ⟨_, rfl⟩
        rw [← hc6] at H6
        have e6b : c6.b = bc := by rw [hc6]
        have e6x : c6.xs = cl := by rw [hc6]
        have e6s : c6.bs = k0 :: kc := by rw [hc6]; exact HK.out
        have e6l : c6.bs.length ≤ 10 := by rw [hc6]; exact hwd
        have h6 := H6.out
        obtain ⟨gcu, ccu, ecu, lcu, _, _, gcun⟩ := Nd.uform h6.2.2.1 (by rw [e6s]; simp)
        obtain ⟨gau, cau, eau, lau, _, _, gaun⟩ := Nd.uform h6.2.1 (by rw [E3S.out]; exact Q3.out)
        obtain ⟨ac0', ac1, af0', af1, alt6⟩ := Nd.cv h6.2.1
        obtain ⟨cc0, cc1, cf0, cf1, clt6⟩ := Nd.cv h6.2.2.1
        have ck := Nd.kid h6.2.2.1 ecu (b1 := []) (c := k0) (b2 := kc) (by rw [e6s]; rfl)
        rw [eau, E3B.out] at ac1; rw [E3B.out] at af1 alt6
        rw [ecu, e6b] at cc1; rw [e6b] at cf1 clt6
        simp only [List.length_nil] at ck
        obtain ⟨ncu, hncu⟩ : ∃ n, n = c6.bs.length := ⟨_, rfl⟩
        obtain ⟨nau, hnau⟩ : ∃ n, n = a3.bs.length := ⟨_, rfl⟩
        rw [← hncu] at cc1 lcu ecu e6l
        rw [← hnau] at ac1 lau eau
        have hnau10 : nau ≤ 10 := by rw [hnau, E3S.out]; exact hwb
        have hncu0 : 0 < ncu := by rw [hncu, e6s]; simp
        have hgab2 : gau ≠ ba := by rw [← E3B.out]; exact (gaun h6.na).1
        have harow := fun W hm => Nd.rowU h6.2.1 W hm
        rw [← hnau, eau] at harow
        have BA : Hid (W6.heap[ba]? = some (.cells #[a3.v, .slice (some ⟨gau, 0, none⟩) nau cau] 190 (0, 0))) := Lib.hid (by have := h6.2.1.1; rw [eau, E3B.out] at this; exact this)
        have HBO2 : Hid (ba ∉ ownL (.slice (some ⟨gau, 0, none⟩) nau cau)) := Lib.hid (fun e => hgab2 (by have : ba = gau := (by simpa [ownL, Value.ownBlock] using e); exact this.symm))
        have ac1a : ∀ n o, ((W6.drewN n).alloc o).cell? ⟨ba, 1, none⟩ = some (.slice (some ⟨gau, 0, none⟩) nau cau) := fun n o => (((Mod.refl NoB W6).drewN n).alloc o).cellS ac1
        have ac1b : ∀ o, (W6.alloc o).cell? ⟨ba, 1, none⟩ = some (.slice (some ⟨gau, 0, none⟩) nau cau) := fun o => ((Mod.refl NoB W6).alloc o).cellS ac1
        have E6B := Lib.hid e6b; have E6X := Lib.hid e6x; have E6S := Lib.hid e6s; have ECU := Lib.hid ecu; have EAU := Lib.hid eau; have HNCU := Lib.hid hncu; have HNAU := Lib.hid hnau; have HAROW := Lib.hid harow
        clear h6 e6b e6x e6s ecu eau hncu hnau harow gcun gaun ac0' af0' cc0 cf0 HLF hc6 hW6 kf
        go_cut [] (fun wx => ∃ a8 : Nd, Three w (x.L ++ (a.L ++ c.L)) wx x4 a8 c6 ∧ a8.b = ba ∧ a8.xs = a3.xs ∧ a8.bs = a3.bs ++ [k0])
        case first =>
          go_region_law ((first | (go_loud (refine step_appended (by rfl) (.tmp 64) (.tmp 71) 188 (by rfl) 185 i1 z1 1 tySNd HJ.out HY0.out HY1.out HY2.out hzj3 (by decide) (.slice (some ⟨gau, 0, none⟩) nau cau) nau (a3.bs.flatMap encNd) (by simp [Act.eval, Act.put]) (HAROW.out _ (by repeat (first | exact Mod.refl _ _ | refine Mod.alloc ?_ _ | refine Mod.drew ?_ | refine Mod.drewN ?_ _))) (.slice (some ⟨W6.heap.size, 0, none⟩) 1 1) 1 (encNd k0) (by simp [Act.eval, Act.put]) (.inr ⟨_, _, rfl, fun q x hq => World.news_of_block (heap_alloc_new _ _) q x hq⟩) rfl (fun _ hu => oneNd hu) (by omega) ?_); intro u9 w9 hA; obtain ⟨g9, cap9, rfl⟩ := (ownsRow_form hA.own).resolve_left (fun h => absurd h.2 (by omega)); have hk9 := heap_keep2 BA.out hA.mod (by repeat (first | exact Mod.refl _ _ | refine Mod.alloc ?_ _ | refine Mod.drew ?_ | refine Mod.drewN ?_ _)) HBO2.out; have e9 : w9.cell? ⟨ba, 1, none⟩ = some (.slice (some ⟨gau, 0, none⟩) nau cau) := cell_of hk9 1 rfl; have ef9 := frozen_of hk9 1; have HM9 := Lib.hid (then2 (Mod.refl NoB W6) hA.mod (by repeat (first | exact Mod.refl _ _ | refine Mod.alloc ?_ _ | refine Mod.drew ?_ | refine Mod.drewN ?_ _))); have HR9 := Lib.hid hA.own; have HN9 := Lib.hid (fun k hk => c_new (w3 := W6) (hA.new k hk) (by repeat (first | exact Mod.refl _ _ | refine Mod.alloc ?_ _ | refine Mod.drew ?_ | refine Mod.drewN ?_ _))); clear hA hk9)))
          all_goals
            go_wp2_with fail
            go_meet
            have hcc := Three.a H6.out (chg_below (u' := .slice (some ⟨g9, 0, none⟩) (nau + 1) cap9) (bs' := a3.bs ++ [k0]) H6.out.2.1 H6.out.na (by rw [EAU.out]; exact HM9.out) (by have := HR9.out; rw [List.length_append, ← HNAU.out]; simpa using this) (fun k hk => by rw [EAU.out]; exact HN9.out k hk))
            rw [E3B.out] at hcc
            first
              | exact ⟨_, hcc, rfl, rfl, rfl⟩
              | exact ⟨_, hcc.quiet ((Mod.refl _ _).drew), rfl, rfl, rfl⟩
        case rest =>
          obtain ⟨W8, rfl⟩ : ∃ W8 : World, W8 = wc := ⟨_, rfl⟩
          obtain ⟨a8, h8, e8b, e8x, e8s⟩ := hcut
          clear ac1 af1 cc1 cf1 ck BA HBO2 ac1a ac1b HAROW
          obtain ⟨cc0, cc1, cf0, cf1, clt8⟩ := Nd.cv h8.2.2.1
          rw [ECU.out, E6B.out] at cc1; rw [E6B.out] at cf1
          have hgcb : gcu ≠ bc := by
            obtain ⟨g', c', e', _, _, _, q⟩ := (Nd.uform h8.2.2.1 (by rw [E6S.out]; simp))
            rw [ECU.out] at e'
            simp only [Value.slice.injEq, Option.some.injEq, Addr.mk.injEq, and_true] at e'
            rw [← E6B.out, e'.1]
            exact (q h8.nc).1
          have BC : Hid (W8.heap[bc]? = some (.cells #[c6.v, .slice (some ⟨gcu, 0, none⟩) ncu ccu] 190 (0, 0))) := Lib.hid (by have := h8.2.2.1.1; rw [ECU.out, E6B.out] at this; exact this)
          have hdel : ∀ W, Mod NoB W8 W → Calls Tryz.prog 230 #[.slice (some ⟨gcu, 0, none⟩) ncu ccu, .int .i64 0, .int .i64 1] W (fun e w' => e = .returned (.slice (some ⟨gcu, 0, none⟩) (ncu - 1) ccu) ∧ RowNd w' (.slice (some ⟨gcu, 0, none⟩) (ncu - 1) ccu) (ncu - 1) ((c6.bs.flatMap encNd).take (0 * 1) ++ (c6.bs.flatMap encNd).drop (0 * 1 + 1)) ∧ Mod (· = gcu) W w') := fun W hm =>
            delAtNd (i := 0) (by have := Nd.rowU h8.2.2.1 W hm; rwa [ECU.out, ← HNCU.out] at this) (flat_one (fun _ _ hu => oneNd hu)) hncu0
          have e6 : (c6.bs.flatMap encNd).take (0 * 1) ++ (c6.bs.flatMap encNd).drop (0 * 1 + 1) = kc.flatMap encNd := by rw [E6S.out]; rfl
          rw [e6] at hdel
          have H8 := Lib.hid h8; have E8B := Lib.hid e8b; have E8X := Lib.hid e8x; have E8S := Lib.hid e8s; have HDEL2 := Lib.hid hdel
          clear h8 e8b e8x e8s cc0 cf0 hdel e6
          go_wp2_with fail
          refine (HDEL2.out _ (by repeat (first | exact Mod.refl _ _ | refine Mod.alloc ?_ _ | refine Mod.drew ?_ | refine Mod.drewN ?_ _))).mono ?_
          rintro e w9 ⟨rfl, hr9, hm9⟩
          have kb := heap_keep2 BC.out hm9 (by repeat (first | exact Mod.refl _ _ | refine Mod.alloc ?_ _ | refine Mod.drew ?_ | refine Mod.drewN ?_ _)) (fun e => hgcb e.symm)
          have kc1 : w9.cell? ⟨bc, 1, none⟩ = some (.slice (some ⟨gcu, 0, none⟩) ncu ccu) := cell_of kb 1 rfl
          have kcf := frozen_of kb 1
          have hcl : kc.length = ncu - 1 := by have := HNCU.out; rw [E6S.out] at this; simp at this; omega
          have h9 := Three.c H8.out (chg_below (u' := .slice (some ⟨gcu, 0, none⟩) (ncu - 1) ccu) (bs' := kc) (w1 := w9) H8.out.2.2.1 H8.out.nc (by rw [ECU.out]; exact (then2 (Mod.refl NoB W8) hm9 (by repeat (first | exact Mod.refl _ _ | refine Mod.alloc ?_ _ | refine Mod.drew ?_ | refine Mod.drewN ?_ _))).mono (fun k _ e => by subst e; simp [ownL, Value.ownBlock])) (by rw [hcl]; exact hr9) (fun k hk => .inl (by rw [ECU.out]; exact hk)))
          rw [E6B.out] at h9
          have H9 := Lib.hid h9
          clear hr9 hm9 kb h9 hcl cc1 cf1
          go_wp2_with fail
          refine bodyPost_end (results_none rfl _ _ _) rfl ⟨⟨_, rfl⟩, x4, a8, _, H9.out, E4B.out, E4X.out, E4S.out, ?_, ?_, ?_, HBC.out, E6X.out, rfl⟩
          · rw [E8B.out, HBA.out]
          · rw [E8X.out, E3X.out]
          · rw [E8S.out, E3S.out]
end Go.Proofs.YtpcmbnbdppembaaGreatDoor
