/- (*shelf.node).fromLeft. -/
import Derived.Test.YtpcmbnbdppembaaGreatDoorDelTree
namespace Go.Proofs.YtpcmbnbdppembaaGreatDoor
set_option linter.unusedSimpArgs false
set_option linter.unusedVariables false
open Go.RowKit Go.Shelf
attribute [local go_sem ↓] Go.wp_at_zero Go.wp_at_succ

/-- what fromLeft makes of three nodes -/
def LeftR (w : World) (D : List Nat) (x a c : Nd) (x1 x2 al : List Itm) (y z : Itm) (ka kz : List Nat) (w' : World) : Prop :=
  ∃ x' a' c', Three w D w' x' a' c' ∧ x'.b = x.b ∧ x'.xs = x1 ++ z :: x2 ∧ x'.bs = x.bs ∧ a'.b = a.b ∧ a'.xs = al ∧ a'.bs = ka ∧ c'.b = c.b ∧ c'.xs = y :: c.xs ∧ c'.bs = kz ++ c.bs

set_option maxRecDepth 100000 in
set_option maxHeartbeats 16000000 in
theorem fromLeft_ok {w : World} {x a c : Nd} (h : Three w (x.L ++ (a.L ++ c.L)) w x a c) {x1 x2 al : List Itm} {y z : Itm} {bA bB ka kz : List Nat} {kt : Int} (hx : x.xs = x1 ++ y :: x2) (hb : x.bs = bA ++ a.b :: c.b :: bB) (hA : bA.length = x1.length)
    (ha : a.xs = al ++ [z]) (hk : a.bs = ka ++ kz) (hkz : (ka = [] ∧ kz = [] ∧ c.bs = []) ∨ (ka.length = al.length + 1 ∧ kz.length = 1 ∧ c.bs ≠ [])) (hc : c.xs ≠ []) (hw : x.bs.length ≤ 10) (hwx : x.xs.length ≤ 10) (hwa : a.xs.length ≤ 10) (hwb : a.bs.length ≤ 10) (hwc : c.xs.length ≤ 10) (hwd : c.bs.length ≤ 10) (hkt : kt = (x1.length : Int) + 1) :
    Calls Tryz.prog 217 #[.pointer (some ⟨x.b, 0, none⟩), .int .i64 kt] w fun e w' => (∃ v, e = .returned v) ∧ LeftR w (x.L ++ (a.L ++ c.L)) x a c x1 x2 al y z ka kz w' := by
  obtain ⟨gx, cx, ex, lx, gxL, _, gxn⟩ := Nd.vform h.1 (by rw [hx]; simp)
  obtain ⟨gu, cu, eu, lu, guL, _, gun⟩ := Nd.uform h.1 (by rw [hb]; simp)
  obtain ⟨ga, ca, ea, la, gaL, _, gan⟩ := Nd.vform h.2.1 (by rw [ha]; simp)
  obtain ⟨gc, cc, ec, lc, gcL, gcv, gcn⟩ := Nd.vform h.2.2.1 hc
  obtain ⟨xc0, xc1, xf0, xf1, xlt⟩ := Nd.cv h.1
  obtain ⟨ac0, ac1, af0, af1, alt⟩ := Nd.cv h.2.1
  obtain ⟨cc0, cc1, cf0, cf1, clt⟩ := Nd.cv h.2.2.1
  have uk0 := Nd.kid h.1 eu (b1 := bA) (b2 := c.b :: bB) hb
  have uk1 := Nd.kid h.1 eu (b1 := bA ++ [a.b]) (c := c.b) (b2 := bB) (by simp [hb])
  obtain ⟨xi0, xi1, xif⟩ := Nd.item h.1 ex hx
  have exl : x.xs.length = x1.length + x2.length + 1 := by rw [hx]; simp; omega
  have ebl : x.bs.length = x1.length + bB.length + 2 := by rw [hb]; simp; omega
  have eal : a.xs.length = al.length + 1 := by rw [ha]; simp
  rw [ex] at xc0; rw [eu] at xc1; rw [ea] at ac0; rw [ec] at cc0
  obtain ⟨nx, hnx⟩ : ∃ nx, nx = x.xs.length := ⟨_, rfl⟩
  obtain ⟨nu, hnu⟩ : ∃ nu, nu = x.bs.length := ⟨_, rfl⟩
  obtain ⟨na, hna⟩ : ∃ na, na = a.xs.length := ⟨_, rfl⟩
  obtain ⟨nc, hnc⟩ : ∃ nc, nc = c.xs.length := ⟨_, rfl⟩
  obtain ⟨bx, hbx⟩ : ∃ bx, bx = x.b := ⟨_, rfl⟩
  obtain ⟨ba, hba⟩ : ∃ ba, ba = a.b := ⟨_, rfl⟩
  obtain ⟨bc, hbc⟩ : ∃ bc, bc = c.b := ⟨_, rfl⟩
  have hgcw : gc < w.heap.size := h.2.2.1.lts gc gcL
  have hcrow := fun W hm => Nd.row h.2.2.1 W hm
  simp only [← hnx, ← hnu, ← hna, ← hnc, ← hbx, ← hba, ← hbc, List.length_append, List.length_cons, List.length_nil, hA, Nat.zero_add] at hw hwx hwa hwc lx lu la lc xc0 xc1 xf0 xf1 xlt ac0 ac1 af0 af1 alt cc0 cc1 cf0 cf1 clt uk0 uk1 exl ebl eal hb ex eu ea ec gcn hcrow hgcw ⊢
  subst hkt
  have hins : ∀ (W : World), Mod NoB w W → W.heap[w.heap.size]? = some (.cells #[.string y.1, .string y.2] 73 (0, 0)) →
      Calls Tryz.prog 209 #[.slice (some ⟨gc, 0, none⟩) nc cc, .int .i64 0, .slice (some ⟨w.heap.size, 0, none⟩) 1 1] W (InsIt W (.slice (some ⟨gc, 0, none⟩) nc cc) nc ((c.xs.flatMap encIt).take (0 * 2) ++ (encIt y ++ (c.xs.flatMap encIt).drop (0 * 2)))) := fun (W : World) (hm : Mod NoB w W) (hg : W.heap[w.heap.size]? = some (.cells #[.string y.1, .string y.2] 73 (0, 0))) =>
    insIt (v := .slice (some ⟨gc, 0, none⟩) nc cc) (n := nc) (i := 0) (g := w.heap.size) (news := encIt y) (by have := hcrow W hm; rwa [ec] at this) (flat_one (fun _ _ hu => oneIt hu)) (Nat.zero_le _) (by omega) hg rfl (fun _ hu => oneIt hu) (by simp [ownL, Value.ownBlock]; omega)
  simp only [Nat.zero_mul, List.take_zero, List.drop_zero, List.nil_append] at hins
  have H := Lib.hid h; have HINS := Lib.hid hins; have HX := Lib.hid hx; have HB := Lib.hid hb; have HAA := Lib.hid ha; have HK := Lib.hid hk; have HKZ := Lib.hid hkz; have HC := Lib.hid hc; have EX := Lib.hid ex; have EU := Lib.hid eu; have EA := Lib.hid ea; have EC := Lib.hid ec; have HBX := Lib.hid hbx; have HBA := Lib.hid hba; have HBC := Lib.hid hbc; have HA := Lib.hid hA; have HNX := Lib.hid hnx; have HNU := Lib.hid hnu; have HNA := Lib.hid hna; have HNC := Lib.hid hnc
  have GCN := Lib.hid (gcn h.nc)
  have hgcb : gc ≠ bc := (gcn h.nc).1
  have cc0a : ∀ n o, ((w.drewN n).alloc o).cell? ⟨bc, 0, none⟩ = some (.slice (some ⟨gc, 0, none⟩) nc cc) := fun n o => (((Mod.refl NoB w).drewN n).alloc o).cellS cc0
  have hi1 : (x1.length : Int) < (x1.length : Int) + (x2.length : Int) + 1 := by omega
  have hw1 : IntKind.i64.wrap (x1.length : Int) = (x1.length : Int) := IntWalk.i64_in _ ⟨by omega, by omega⟩
  have hw2 : IntKind.i64.wrap (al.length : Int) = (al.length : Int) := IntWalk.i64_in _ ⟨by omega, by omega⟩
  have hi2 : (al.length : Int) < (al.length : Int) + 1 := by omega
  have hi3 : x1.length + 1 < nu := by omega
  clear h hins hx hb ha hk hkz hc ex eu ea ec hbx hba hbc hA hnx hnu hna hnc hcrow gcn gan gxn gun gxL guL gaL gcL gcv xif
  go_enter Tryz.func217, Tryz.ntmps217
  go_wp2_with fail
  go_quiet (fail)
  go_wp2_with fail
  have hob : ∀ k ∈ ownL (.slice (some ⟨gc, 0, none⟩) nc cc), k = gc := fun k hk => by simpa [ownL, Value.ownBlock] using hk
  have BC : Hid (w.heap[bc]? = some (.cells #[.slice (some ⟨gc, 0, none⟩) nc cc, c.u] 190 (0, 0))) := Lib.hid (by have := H.out.2.2.1.1; rw [EC.out, ← HBC.out] at this; exact this)
  have HBO : Hid (bc ∉ ownL (.slice (some ⟨gc, 0, none⟩) nc cc)) := Lib.hid (fun e => hgcb (hob _ e).symm)
  clear hob
  go_cut [] (fun wx => ∃ c3 : Nd, Three w (x.L ++ (a.L ++ c.L)) wx x a c3 ∧ c3.b = bc ∧ c3.xs = y :: c.xs ∧ c3.u = c.u ∧ c3.bs = c.bs)
  case first =>
    go_region_law ((go_simp; go_at_call 209; go_loud (refine (HINS.out _ (by repeat (first | exact Mod.refl _ _ | refine Mod.alloc ?_ _ | refine Mod.drew ?_ | refine Mod.drewN ?_ _)) (by exact heap_alloc_new _ _)).mono ?_; rintro e w4 ⟨g4, cap4, rfl, hr, hm, hc4⟩; have kb := heap_keep2 BC.out hm (by repeat (first | exact Mod.refl _ _ | refine Mod.alloc ?_ _ | refine Mod.drew ?_ | refine Mod.drewN ?_ _)) HBO.out; have k0 : w4.cell? ⟨bc, 0, none⟩ = some (.slice (some ⟨gc, 0, none⟩) nc cc) := cell_of kb 0 rfl; have kf := frozen_of kb 0; have HR4 := Lib.hid hr; have HM4 := Lib.hid (then2 (Mod.refl NoB w) hm (by repeat (first | exact Mod.refl _ _ | refine Mod.alloc ?_ _ | refine Mod.drew ?_ | refine Mod.drewN ?_ _))); have HC4 := Lib.hid (c_new (w3 := w) hc4 (by repeat (first | exact Mod.refl _ _ | refine Mod.alloc ?_ _ | refine Mod.drew ?_ | refine Mod.drewN ?_ _))); clear hr hm hc4 kb)))
    all_goals
      go_wp2_with fail
      go_meet
      have hcc := Three.c H.out (chg_items (v' := .slice (some ⟨g4, 0, none⟩) (nc + 1) cap4) (xs' := y :: c.xs) H.out.2.2.1 H.out.nc (by rw [EC.out]; exact HM4.out) (by have := HR4.out; rw [List.length_cons, ← HNC.out]; simpa using this) (fun k hk => by simp [ownL, Value.ownBlock] at hk; subst hk; rw [EC.out]; exact HC4.out))
      rw [← HBC.out] at hcc
      exact ⟨_, hcc, rfl, rfl, rfl, rfl⟩
  case rest =>
    obtain ⟨W3, rfl⟩ : ∃ W3 : World, W3 = wc := ⟨_, rfl⟩
    obtain ⟨c3, h3, e3b, e3x, e3u, e3s⟩ := hcut
    have H3 := Lib.hid h3; have E3B := Lib.hid e3b; have E3X := Lib.hid e3x; have E3U := Lib.hid e3u; have E3S := Lib.hid e3s
    clear xi0 xi1 xc0 xc1 xf0 xf1 ac0 ac1 af0 af1 cc0 cc1 cf0 cf1 uk0 uk1 cc0a HINS BC HBO
    obtain ⟨xc0, xc1, xf0, xf1, xlt3⟩ := Nd.cv h3.1
    obtain ⟨ac0, ac1, af0, af1, alt3⟩ := Nd.cv h3.2.1
    rw [EX.out, ← HBX.out] at xc0; rw [← HBX.out] at xf0
    rw [EA.out, ← HBA.out] at ac0; rw [← HBA.out] at af0
    obtain ⟨xi0, xi1, xif⟩ := Nd.item h3.1 EX.out HX.out
    obtain ⟨ai0, ai1, aif⟩ := Nd.item h3.2.1 EA.out HAA.out
    have xif0 := xif (x1.length * 2)
    have xif1 := xif (x1.length * 2 + 1)
    clear h3 e3b e3x e3u e3s xc1 ac1 xf1 af1 xif aif
    go_wp2_with fail
    go_cut [] (fun wx => Three w (x.L ++ (a.L ++ c.L)) wx { x with xs := x1 ++ z :: x2 } a c3)
    case first =>
      go_region_law (fail)
      all_goals
        go_wp2_with fail
        go_meet
        exact Three.quiet (Three.x H3.out (by have := chg_setItem (z := z) H3.out.1 H3.out.nx (by rw [EX.out, HNX.out]) HX.out rfl; exact this)) ((Mod.refl _ _).drew)
    case rest =>
      obtain ⟨W4, rfl⟩ : ∃ W4 : World, W4 = wc := ⟨_, rfl⟩
      obtain ⟨x4, hx4⟩ : ∃ x4 : Nd, x4 = { x with xs := x1 ++ z :: x2 } := ⟨_, rfl⟩
      rw [← hx4] at hcut
      have e4b : x4.b = x.b := by rw [hx4]
      have e4x : x4.xs = x1 ++ z :: x2 := by rw [hx4]
      have e4s : x4.bs = x.bs := by rw [hx4]
      have h5 := Three.a hcut (chg_cutItems (m := al.length) (xs' := al) (ys := [z]) hcut.2.1 hcut.na (by rw [EA.out, HNA.out]) HAA.out rfl)
      clear xc0 xf0 ac0 af0 xi0 xi1 ai0 ai1 xif0 xif1
      obtain ⟨ac0, ac1, af0, af1, alt4⟩ := Nd.cv hcut.2.1
      rw [EA.out, ← HBA.out] at ac0; rw [← HBA.out] at af0
      rw [← HBA.out] at h5
      have hla : al.length ≤ na := by omega
      have hla2 : al.length ≤ ca := by omega
      have H5 := Lib.hid h5; have E4B := Lib.hid e4b; have E4X := Lib.hid e4x; have E4S := Lib.hid e4s
      have HLF := Lib.hid (leaf_node h5.2.1)
      clear hcut h5 hx4 e4b e4x e4s ac1 af1
      rcases HKZ.out with ⟨q1, q2, q3⟩ | ⟨q1, q2, q3⟩
      · have hbl : a.bs.length = 0 := by rw [HK.out, q1, q2]; rfl
        have Q1 := Lib.hid q1; have Q2 := Lib.hid q2; have Q3 := Lib.hid q3
        clear q1 q2 q3
        go_wp2_with (go_at_call 148; refine HLF.out.mono ?_; rintro e w5 ⟨rfl, rfl⟩)
        refine bodyPost_end (results_none rfl _ _ _) rfl ⟨⟨_, rfl⟩, x4, _, c3, H5.out, E4B.out, E4X.out, E4S.out, HBA.out, rfl, ?_, ?_, E3X.out, ?_⟩
        · show a.bs = ka
          rw [HK.out, Q2.out, List.append_nil]
        · rw [E3B.out, HBC.out]
        · rw [E3S.out, Q2.out]; rfl
      · have hbl : ¬ a.bs.length = 0 := by rw [HK.out, List.length_append]; omega
        obtain ⟨k0, rfl⟩ : ∃ k0, kz = [k0] := List.length_eq_one_iff.1 q2
        have Q1 := Lib.hid q1; have Q3 := Lib.hid q3
        clear q1 q2 q3
        go_wp2_with (go_at_call 148; refine HLF.out.mono ?_; rintro e w5 ⟨rfl, rfl⟩)
        obtain ⟨W5, hW5⟩ : ∃ W5, W5 = W4.setCell ⟨ba, 0, none⟩ (.slice (some ⟨ga, 0, none⟩) al.length ca) := ⟨_, rfl⟩
        rw [← hW5] at H5 ⊢
        obtain ⟨a5, ha5⟩ : ∃ a5 : Nd, a5 = ⟨ba, .slice (some ⟨ga, 0, none⟩) al.length ca, al, a.u, a.bs⟩ := ⟨_, rfl⟩
        rw [← ha5] at H5
        have e5b : a5.b = ba := by rw [ha5]
        have e5x : a5.xs = al := by rw [ha5]
        have e5s : a5.bs = ka ++ [k0] := by rw [ha5]; exact HK.out
        have h5 := H5.out
        obtain ⟨gcu, ccu, ecu, lcu, _, _, gcun⟩ := Nd.uform h5.2.2.1 (by rw [E3S.out]; exact Q3.out)
        obtain ⟨gau, cau, eau, lau, _, _, gaun⟩ := Nd.uform h5.2.1 (by rw [e5s]; simp)
        obtain ⟨ac0', ac1, af0', af1, alt5⟩ := Nd.cv h5.2.1
        obtain ⟨cc0, cc1, cf0, cf1, clt5⟩ := Nd.cv h5.2.2.1
        have ak := Nd.kid h5.2.1 eau (b1 := ka) (c := k0) (b2 := []) (by rw [e5s])
        rw [eau, e5b] at ac1; rw [e5b] at af1
        rw [ecu, E3B.out] at cc1; rw [E3B.out] at cf1 clt5
        rw [Q1.out] at ak
        have eln : a5.bs.length = al.length + 2 := by rw [e5s, List.length_append, Q1.out]; rfl
        rw [eln] at ac1 lau eau
        obtain ⟨ncu, hncu⟩ : ∃ n, n = c3.bs.length := ⟨_, rfl⟩
        rw [← hncu] at cc1 lcu ecu
        have hncu10 : ncu ≤ 10 := by rw [hncu, E3S.out]; exact hwd
        have hgcw5 : gcu < W5.heap.size := h5.2.2.1.lts gcu (by simp [Nd.L, nodeL, ecu, ownL, Value.ownBlock])
        have hcrow := fun W hm => Nd.rowU h5.2.2.1 W hm
        rw [← hncu, ecu] at hcrow
        have hins : ∀ (W : World), Mod NoB W5 W → W.heap[W5.heap.size]? = some (.cells #[.pointer (some ⟨k0, 0, none⟩)] 185 (0, 0)) →
            Calls Tryz.prog 210 #[.slice (some ⟨gcu, 0, none⟩) ncu ccu, .int .i64 0, .slice (some ⟨W5.heap.size, 0, none⟩) 1 1] W (InsNd W (.slice (some ⟨gcu, 0, none⟩) ncu ccu) ncu ((c3.bs.flatMap encNd).take (0 * 1) ++ (encNd k0 ++ (c3.bs.flatMap encNd).drop (0 * 1)))) := fun W hm hg =>
          insNd (v := .slice (some ⟨gcu, 0, none⟩) ncu ccu) (n := ncu) (i := 0) (g := W5.heap.size) (news := encNd k0) (hcrow W hm) (flat_one (fun _ _ hu => oneNd hu)) (Nat.zero_le _) (by omega) hg rfl (fun _ hu => oneNd hu) (by simp [ownL, Value.ownBlock]; omega)
        simp only [Nat.zero_mul, List.take_zero, List.drop_zero, List.nil_append] at hins
        have hgb : gcu ≠ bc := by rw [← E3B.out]; exact (gcun h5.nc).1
        have BC : Hid (W5.heap[bc]? = some (.cells #[c3.v, .slice (some ⟨gcu, 0, none⟩) ncu ccu] 190 (0, 0))) := Lib.hid (by have := h5.2.2.1.1; rw [ecu, E3B.out] at this; exact this)
        have HBO : Hid (bc ∉ ownL (.slice (some ⟨gcu, 0, none⟩) ncu ccu)) := Lib.hid (fun e => hgb (by have : bc = gcu := (by simpa [ownL, Value.ownBlock] using e); exact this.symm))
        have cc1a : ∀ n o, ((W5.drewN n).alloc o).cell? ⟨bc, 1, none⟩ = some (.slice (some ⟨gcu, 0, none⟩) ncu ccu) := fun n o => (((Mod.refl NoB W5).drewN n).alloc o).cellS cc1
        have cc1b : ∀ o, (W5.alloc o).cell? ⟨bc, 1, none⟩ = some (.slice (some ⟨gcu, 0, none⟩) ncu ccu) := fun o => ((Mod.refl NoB W5).alloc o).cellS cc1
        have hi4 : (al.length : Int) + 1 < (al.length : Int) + 2 := by omega
        have hi5 : 0 ≤ (al.length : Int) + 1 := by omega
        have hw3 : IntKind.i64.wrap ((al.length : Int) + 1) = (al.length : Int) + 1 := IntWalk.i64_in _ ⟨by omega, by omega⟩
        have hi6 : ((al.length : Int) + 1).toNat = al.length + 1 := by omega
        have hi7 : (al.length : Int) + 1 ≤ (cau : Int) := by omega
        have E5B := Lib.hid e5b; have E5X := Lib.hid e5x; have E5S := Lib.hid e5s; have ECU := Lib.hid ecu; have EAU := Lib.hid eau; have HINS := Lib.hid hins; have HNCU := Lib.hid hncu; have ELN := Lib.hid eln
        clear h5 e5b e5x e5s ecu eau hins hncu hcrow gcun gaun ac0' af0' ac0 af0 cc0 cf0 HLF ha5 eln hW5
        go_cut [] (fun wx => ∃ c8 : Nd, Three w (x.L ++ (a.L ++ c.L)) wx x4 a5 c8 ∧ c8.b = bc ∧ c8.xs = y :: c.xs ∧ c8.bs = k0 :: c.bs)
        case first =>
          go_region_law ((go_simp; go_at_call 210; go_loud (refine (HINS.out _ (by repeat (first | exact Mod.refl _ _ | refine Mod.alloc ?_ _ | refine Mod.drew ?_ | refine Mod.drewN ?_ _)) (by exact heap_alloc_new _ _)).mono ?_; rintro e w8 ⟨g8, cap8, rfl, hr, hm, hc8⟩; have kb := heap_keep2 BC.out hm (by repeat (first | exact Mod.refl _ _ | refine Mod.alloc ?_ _ | refine Mod.drew ?_ | refine Mod.drewN ?_ _)) HBO.out; have kc0 : w8.cell? ⟨bc, 1, none⟩ = some (.slice (some ⟨gcu, 0, none⟩) ncu ccu) := cell_of kb 1 rfl; have kf := frozen_of kb 1; have HR8 := Lib.hid hr; have HM8 := Lib.hid (then2 (Mod.refl NoB W5) hm (by repeat (first | exact Mod.refl _ _ | refine Mod.alloc ?_ _ | refine Mod.drew ?_ | refine Mod.drewN ?_ _))); have HC8 := Lib.hid (c_new (w3 := W5) hc8 (by repeat (first | exact Mod.refl _ _ | refine Mod.alloc ?_ _ | refine Mod.drew ?_ | refine Mod.drewN ?_ _))); clear hr hm hc8 kb)))
          all_goals
            go_wp2_with fail
            go_meet
            have hcc := Three.c H5.out (chg_below (u' := .slice (some ⟨g8, 0, none⟩) (ncu + 1) cap8) (bs' := k0 :: c3.bs) H5.out.2.2.1 H5.out.nc (by rw [ECU.out]; exact HM8.out) (by have := HR8.out; rw [List.length_cons, ← HNCU.out]; simpa using this) (fun k hk => by simp [ownL, Value.ownBlock] at hk; subst hk; rw [ECU.out]; exact HC8.out))
            rw [E3B.out] at hcc
            exact ⟨_, hcc, rfl, E3X.out, by rw [E3S.out]⟩
        case rest =>
          obtain ⟨W8, rfl⟩ : ∃ W8 : World, W8 = wc := ⟨_, rfl⟩
          obtain ⟨c8, h8, e8b, e8x, e8s⟩ := hcut
          clear ac1 af1 cc1 cf1 ak BC HBO cc1a cc1b HINS
          obtain ⟨ac0, ac1, af0, af1, alt8⟩ := Nd.cv h8.2.1
          rw [EAU.out, E5B.out] at ac1; rw [E5B.out] at af1
          have h9 := Three.a h8 (chg_cutBelow (m := al.length + 1) (bs' := ka) (ys := [k0]) h8.2.1 h8.na (by rw [EAU.out, ELN.out]) E5S.out Q1.out.symm)
          rw [E5B.out] at h9
          have H9 := Lib.hid h9; have E8B := Lib.hid e8b; have E8X := Lib.hid e8x; have E8S := Lib.hid e8s
          clear h8 h9 e8b e8x e8s ac0 af0
          go_wp2_with fail
          refine bodyPost_end (results_none rfl _ _ _) rfl ⟨⟨_, rfl⟩, x4, _, c8, H9.out, E4B.out, E4X.out, E4S.out, HBA.out, E5X.out, rfl, ?_, E8X.out, E8S.out⟩
          rw [E8B.out, HBC.out]
end Go.Proofs.YtpcmbnbdppembaaGreatDoor
