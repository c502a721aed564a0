/- (*shelf.node).put of a node that is no leaf. -/
import Derived.Test.YtmagddchjidamaaGreatDoorTreePut4
import Derived.Deep.DeepCutAuto
namespace Go.Proofs.YtmagddchjidamaaGreatDoor
set_option linter.unusedSimpArgs false
set_option linter.unusedVariables false
open Go.RowKit Go.Shelf
attribute [local go_sem ↓] Go.wp_at_zero Go.wp_at_succ

/-- what put gives of a node that is no leaf -/
def InPost (w : World) (b : Nat) (v u : Value) (x1 x2 : List Itm) (bA : List Nat) (c : Nat) (bB : List Nat) (d : Nat) (tc : Tree) (Lc : List Nat) (it : Itm) (e : Ending) (w' : World) : Prop :=
  ∃ up q LX w4 r, PutR w c d tc Lc it q up LX w4 ∧ NodeAt w4 b v (x1 ++ x2) u (bA ++ c :: bB) ∧ r ∉ LX ∧ w.heap.size ≤ r ∧ (∀ k ∈ LX, k ∉ nodeL b v u) ∧ Mod (fun k => k ∈ nodeL b v u ∨ k = r) w4 w' ∧
    ((q = none ∧ e = .returned (.tuple #[.agg #[.string ⟨#[]⟩, .string ⟨#[]⟩], .pointer none]) ∧ NodeAt w' b v (x1 ++ x2) u (bA ++ c :: bB)) ∨
     (∃ c2 v' u', q = some ⟨c2, 0, none⟩ ∧ e = .returned (.tuple #[.agg #[.string ⟨#[]⟩, .string ⟨#[]⟩], .pointer none]) ∧ (x1 ++ up :: x2).length ≤ 6 ∧ NodeAt w' b v' (x1 ++ up :: x2) u' (bA ++ c :: c2 :: bB) ∧ (nodeL b v' u').Nodup ∧ ∀ k ∈ nodeL b v' u', k ∈ nodeL b v u ∨ w4.heap.size ≤ k) ∨
     (∃ c2 up2 xl xr C v1 v2 u1 u2 bl br, q = some ⟨c2, 0, none⟩ ∧ e = .returned (.tuple #[.agg #[.string up2.1, .string up2.2], .pointer (some ⟨C, 0, none⟩)]) ∧ x1 ++ up :: x2 = xl ++ up2 :: xr ∧ xl.length = 3 ∧ xr.length = 3 ∧ bA ++ c :: c2 :: bB = bl ++ br ∧ bl.length = 4 ∧
       NodeAt w' b v1 xl u1 bl ∧ NodeAt w' C v2 xr u2 br ∧ (nodeL b v1 u1 ++ nodeL C v2 u2).Nodup ∧ ∀ k ∈ nodeL b v1 u1 ++ nodeL C v2 u2, k ∈ nodeL b v u ∨ w4.heap.size ≤ k))

set_option maxRecDepth 100000 in
set_option maxHeartbeats 16000000 in
theorem nput_in {w : World} {b c d : Nat} {v u : Value} {x1 x2 : List Itm} {bs bA bB : List Nat} {tc : Tree} {Lc : List Nat} (it : Itm) (h : NodeAt w b v (x1 ++ x2) u bs) (hnd : (nodeL b v u).Nodup) (hpl : plc it.1 (x1 ++ x2) = (x1.length, false)) (hw : (x1 ++ x2).length ≤ 6)
    (hk : it.1.size ≤ 1000000) (hs : ∀ x ∈ x1 ++ x2, x.1.size ≤ 1000000) (hbl : bs.length = (x1 ++ x2).length + 1) (hbs : bs = bA ++ c :: bB) (hbA : bA.length = x1.length) (hd : ∀ k ∈ Lc, k ∉ nodeL b v u) (hLc : ∀ k ∈ Lc, k < w.heap.size)
    (hput : ∀ W, Mod NoB w W → Calls Tryz.prog 90 #[.pointer (some ⟨c, 0, none⟩), .agg #[.string it.1, .string it.2]] W (PutE W c d tc Lc it)) :
    Calls Tryz.prog 90 #[.pointer (some ⟨b, 0, none⟩), .agg #[.string it.1, .string it.2]] w (InPost w b v u x1 x2 bA c bB d tc Lc it) := by
  have hbc : bs[x1.length]? = some c := by rw [hbs, ← hbA]; simp
  have hlt := h.lts
  have hb : b < w.heap.size := hlt b (by simp [nodeL])
  have hplace := fun W (hm : Mod NoB w W) => place_any (h.mod hm (fun _ _ x => x)) it.1 (by omega) hk hs
  have hleaf := fun W (hm : Mod NoB w W) => leaf_node (h.mod hm (fun _ _ x => x))
  have hbn : decide (bs.length = 0) = false := by rw [hbl]; simp
  rw [hpl] at hplace
  dsimp only at hplace
  simp only [hbn] at hleaf
  rcases ownsRow_form h.2.2 with ⟨_, h0⟩ | ⟨gu, cu, rfl⟩
  · omega
  have hcells := h.2.2.cells (g := gu) rfl x1.length (.pointer (some ⟨c, 0, none⟩)) (by simpa using flat_cell (k := 1) (enc := encNd) (fun _ => rfl) _ x1.length c hbc 0 _ rfl)
  rw [addr_lit, Nat.zero_add] at hcells
  have c1 : w.cell? ⟨b, 1, none⟩ = some (.slice (some ⟨gu, 0, none⟩) bs.length cu) := cell_of h.1 1 rfl
  obtain ⟨n, hn⟩ : ∃ n, n = bs.length := ⟨_, rfl⟩
  have hxn : x1.length < n := by rw [hn, hbl]; simp; omega
  have hn9 : n ≤ 9223372036854775807 := by rw [hn, hbl]; omega
  have hvs : ∃ a cap, v = .slice a (x1 ++ x2).length cap := by
    rcases ownsRow_form h.2.1 with ⟨e, e0⟩ | ⟨g, cap, e⟩
    · exact ⟨none, 0, by rw [e, e0]⟩
    · exact ⟨_, cap, e⟩
  obtain ⟨av, capv, rfl⟩ := hvs
  obtain ⟨m, hm⟩ : ∃ m, m = (x1 ++ x2).length := ⟨_, rfl⟩
  have hxm : x1.length ≤ m := by rw [hm]; simp
  rw [← hn] at c1 h hnd hd hlt ⊢
  rw [← hm] at hw h hnd hd hlt ⊢
  have H := Lib.hid h; have HND := Lib.hid hnd; have HPL := Lib.hid hplace; have HLF := Lib.hid hleaf; have HLT := Lib.hid hlt; have HPUT := Lib.hid hput; have HD := Lib.hid hd; have HLC := Lib.hid hLc; have HN := Lib.hid hn; have HBL := Lib.hid hbl; have HM := Lib.hid hm; have HBC := Lib.hid hbc; have HBS := Lib.hid hbs; have HBA := Lib.hid hbA
  have C1 := Lib.hid c1; have CC := Lib.hid hcells
  have hne : b ≠ w.heap.size := by omega
  have hne1 : b ≠ w.heap.size + 1 := by omega
  clear h hnd hplace hleaf hlt hput hd hLc hs hpl hn hbl hbc hbs hbA c1 hcells hbn hm
  go_enter Tryz.func90, Tryz.ntmps90
  go_wp2_with (first
    | (go_at_call 94; refine (HPL.out _ (by repeat (first | exact Mod.refl _ _ | refine Mod.alloc ?_ _ | refine Mod.drew ?_))).mono ?_; rintro e w2 ⟨rfl, hm2⟩; have HM2 := Lib.hid hm2; clear hm2)
    | (go_at_call 75; refine (HLF.out _ (Mod.trans (by repeat (first | exact Mod.refl _ _ | refine Mod.alloc ?_ _ | refine Mod.drew ?_)) HM2.out)).mono ?_; rintro e w3 ⟨rfl, rfl⟩))
  obtain ⟨b1, b2, b3, b4⟩ := two_new HM2.out
  have BR := Lib.hid b2; have M3 := Lib.hid b4; have B3 := Lib.hid b3
  have d1 : w3.cell? ⟨b, 1, none⟩ = some (.slice (some ⟨gu, 0, none⟩) n cu) := b4.cellS C1.out
  have dc : w3.cell? ⟨gu, x1.length, none⟩ = some (.pointer (some ⟨c, 0, none⟩)) := b4.cellS CC.out
  have p0 : w3.cell? ⟨w.heap.size, 0, none⟩ = some (.string it.1) := cell_of b1 0 rfl
  have p1 : w3.cell? ⟨w.heap.size, 1, none⟩ = some (.string it.2) := cell_of b1 1 rfl
  have hnU : ¬ w3.heap.size < w.heap.size := by omega
  have hne3 : w.heap.size ≠ w3.heap.size := by omega
  have hbn3 : b ≠ w3.heap.size := by omega
  have hgn3 : gu ≠ w3.heap.size := by have := HLT.out gu (by simp [nodeL, ownL, Value.ownBlock]); omega
  have d1a : ∀ o, (w3.alloc o).cell? ⟨b, 1, none⟩ = some (.slice (some ⟨gu, 0, none⟩) n cu) := fun o => ((Mod.refl NoB w3).alloc o).cellS d1
  have dca : ∀ o, (w3.alloc o).cell? ⟨gu, x1.length, none⟩ = some (.pointer (some ⟨c, 0, none⟩)) := fun o => ((Mod.refl NoB w3).alloc o).cellS dc
  have p0a : ∀ o, (w3.alloc o).cell? ⟨w.heap.size, 0, none⟩ = some (.string it.1) := fun o => ((Mod.refl NoB w3).alloc o).cellS p0
  have p1a : ∀ o, (w3.alloc o).cell? ⟨w.heap.size, 1, none⟩ = some (.string it.2) := fun o => ((Mod.refl NoB w3).alloc o).cellS p1
  clear b1 b2 b3 b4
  go_cut [8, 9] (fun s8 s9 wx => Cut4 w b (.slice av m capv) (.slice (some ⟨gu, 0, none⟩) n cu) (x1 ++ x2) bs c d tc Lc it (w.heap.size + 1) s8 s9 wx)
  case first =>
    go_region_law ((go_simp; go_at_call 90; go_loud (refine (HPUT.out _ (M3.out.trans (by repeat (first | exact Mod.refl _ _ | refine Mod.alloc ?_ _ | refine Mod.drew ?_)))).mono ?_; rintro e w4 ⟨up, q, LX, rfl, hP⟩; (try (have ku : w4.heap[w3.heap.size]? = some (.cells #[.string ⟨#[]⟩, .string ⟨#[]⟩] 43 (0, 0)) := heap_keep2 (w := w3.alloc (.cells #[.string ⟨#[]⟩, .string ⟨#[]⟩] 43)) (heap_alloc_new w3 _) hP.1.1 (Mod.refl NoB _) (fun e => absurd (HLC.out _ e) hnU); have ku0 : w4.cell? ⟨w3.heap.size, 0, none⟩ = some (.string ⟨#[]⟩) := cell_of ku 0 rfl; have ku1 : w4.cell? ⟨w3.heap.size, 1, none⟩ = some (.string ⟨#[]⟩) := cell_of ku 1 rfl; have kuf0 := frozen_of ku 0; have kuf1 := frozen_of ku 1; have KU := Lib.hid ku; clear ku)); (try (have ku : w4.heap[w3.heap.size]? = some (.cells #[.string ⟨#[]⟩, .string ⟨#[]⟩] 43 (0, 0)) := heap_keep2 (w := w3.alloc (.cells #[.string ⟨#[]⟩, .string ⟨#[]⟩] 43)) (heap_alloc_new w3 _) hP.1.1 ((Mod.refl NoB _).drew) (fun e => absurd (HLC.out _ e) hnU); have ku0 : w4.cell? ⟨w3.heap.size, 0, none⟩ = some (.string ⟨#[]⟩) := cell_of ku 0 rfl; have ku1 : w4.cell? ⟨w3.heap.size, 1, none⟩ = some (.string ⟨#[]⟩) := cell_of ku 1 rfl; have kuf0 := frozen_of ku 0; have kuf1 := frozen_of ku 1; have KU := Lib.hid ku; clear ku)); (try (have ku : w4.heap[w3.heap.size]? = some (.cells #[.string ⟨#[]⟩, .string ⟨#[]⟩] 43 (0, 0)) := heap_keep2 (w := w3.alloc (.cells #[.string ⟨#[]⟩, .string ⟨#[]⟩] 43)) (heap_alloc_new w3 _) hP.1.1 ((Mod.refl NoB _).drew.drew) (fun e => absurd (HLC.out _ e) hnU); have ku0 : w4.cell? ⟨w3.heap.size, 0, none⟩ = some (.string ⟨#[]⟩) := cell_of ku 0 rfl; have ku1 : w4.cell? ⟨w3.heap.size, 1, none⟩ = some (.string ⟨#[]⟩) := cell_of ku 1 rfl; have kuf0 := frozen_of ku 0; have kuf1 := frozen_of ku 1; have KU := Lib.hid ku; clear ku)); have HP := Lib.hid hP; clear hP)))
    all_goals
      go_wp2_with fail
      go_meet
      first
        | exact cut4_of H.out HD.out M3.out BR.out (Nat.le_succ _) HLC.out HP.out (by repeat (first | exact Mod.refl _ _ | refine Mod.alloc ?_ _ | refine Mod.drew ?_)) rfl
        | exact cut4_of2 H.out HD.out M3.out BR.out (Nat.le_succ _) HLC.out HP.out (by repeat (first | exact Mod.refl _ _ | refine Mod.alloc ?_ _ | refine Mod.drew ?_)) rfl (by simp) KU.out
  case rest =>
    obtain ⟨W4, rfl⟩ : ∃ W4 : World, W4 = wc := ⟨_, rfl⟩
    obtain ⟨up, q, LX, U, rfl, rfl, hP, hN, hR, hU, r1, r2, r3⟩ := hcut
    obtain ⟨r, hr⟩ : ∃ r, r = w.heap.size + 1 := ⟨_, rfl⟩
    rw [← hr] at hR r1 r2 ⊢
    clear HPL HLF d1 dc p0 p1 d1a dca p0a p1a hne hne1 hne3 hbn3 hgn3 hnU HM2 BR M3 B3 C1 CC HPUT hr
    have hrw : r < W4.heap.size := (Array.getElem?_eq_some_iff.1 hR).1
    have hUw : U < W4.heap.size := (Array.getElem?_eq_some_iff.1 hU).1
    have hbw : b < W4.heap.size := hN.lts b (by simp [nodeL])
    have hrn : r ∉ nodeL b (.slice av m capv) (.slice (some ⟨gu, 0, none⟩) n cu) := fun e => by have := HLT.out r e; omega
    have hrb : r ≠ b := fun e => hrn (by simp [nodeL, e])
    have z0 : W4.cell? ⟨r, 0, none⟩ = some (.string ⟨#[]⟩) := cell_of hR 0 rfl
    have z1 : W4.cell? ⟨r, 1, none⟩ = some (.string ⟨#[]⟩) := cell_of hR 1 rfl
    have zf0 := frozen_of hR 0
    have zf1 := frozen_of hR 1
    have c0 : W4.cell? ⟨b, 0, none⟩ = some (.slice av m capv) := cell_of hN.1 0 rfl
    have f0 := frozen_of hN.1 0
    have c1 : W4.cell? ⟨b, 1, none⟩ = some (.slice (some ⟨gu, 0, none⟩) n cu) := cell_of hN.1 1 rfl
    have f1 := frozen_of hN.1 1
    have HP := Lib.hid hP; have HN4 := Lib.hid hN; have HRR := Lib.hid hR; have HUU := Lib.hid hU; have R1 := Lib.hid r1; have R2 := Lib.hid r2; have R3 := Lib.hid r3; have RN := Lib.hid hrn
    clear hP hN hR hU r1 r2 r3 hrn
    rcases HP.out.2.2 with ⟨hq, hrest⟩ | ⟨c2, t1, t2, L1, L2, hq, hrest⟩
    · subst hq
      clear hrest
      go_wp2_with fail
      have hmr : Mod (· = r) W4 _ := Mod.setCell (S := (· = r)) (Mod.setCell (S := (· = r)) (Mod.refl _ W4) (p := ⟨r, 0, none⟩) (by intro _; rfl) (.string ⟨#[]⟩)) (p := ⟨r, 1, none⟩) (by intro _; rfl) (.string ⟨#[]⟩)
      refine bodyPost_ret (v := .tuple #[.agg #[.string ⟨#[]⟩, .string ⟨#[]⟩], .pointer none]) (by simp [results, Tryz.results90, go_sem, *]) rfl ⟨up, none, LX, W4, r, HP.out, ?_, R1.out, R2.out, R3.out, hmr.mono (fun _ _ e => .inr e), .inl ⟨rfl, rfl, ?_⟩⟩
      · rw [← HBS.out]; exact HN4.out
      · rw [← HBS.out]; exact HN4.out.mod hmr (fun k hk e => RN.out (e ▸ hk))
    · subst hq
      clear hrest
      have u0 : W4.cell? ⟨U, 0, none⟩ = some (.string up.1) := cell_of HUU.out 0 rfl
      have u1 : W4.cell? ⟨U, 1, none⟩ = some (.string up.2) := cell_of HUU.out 1 rfl
      have c0a : ∀ o, (W4.alloc o).cell? ⟨b, 0, none⟩ = some (.slice av m capv) := fun o => ((Mod.refl NoB W4).alloc o).cellS c0
      have hbg : b ≠ W4.heap.size := by omega
      have hbo : b ∉ ownL (.slice av m capv) := fun e => by
        have := HND.out
        simp only [nodeL, List.nodup_cons, List.mem_append, not_or] at this
        exact this.1.1 e
      have hro : r ∉ ownL (.slice av m capv) := fun e => RN.out (by simp [nodeL, e])
      have hgo : W4.heap.size ∉ ownL (.slice av m capv) := fun e => by
        have := HN4.out.lts W4.heap.size (by simp [nodeL, e])
        omega
      have HROW : Hid (∀ W, Mod NoB W4 W → RowIt W (.slice av m capv) m ((x1 ++ x2).flatMap encIt)) := Lib.hid (fun W hm => by have := (HN4.out.mod hm (fun _ _ x => x)).2.1; rw [← HM.out] at this; exact this)
      have HBO := Lib.hid hbo; have HRO := Lib.hid hro; have HGO := Lib.hid hgo
      have BB : Hid (W4.heap[b]? = some (.cells #[.slice av m capv, .slice (some ⟨gu, 0, none⟩) n cu] 126 (0, 0))) := Lib.hid HN4.out.1
      clear hbo hro hgo c1 f1 z0 z1 zf0 zf1
      go_wp2_with fail
      go_cut [] (fun wx => ∃ c' cap', NodeAt wx b (.slice (some ⟨c', 0, none⟩) (m + 1) cap') (x1 ++ up :: x2) (.slice (some ⟨gu, 0, none⟩) n cu) bs ∧ (nodeL b (.slice (some ⟨c', 0, none⟩) (m + 1) cap') (.slice (some ⟨gu, 0, none⟩) n cu)).Nodup ∧
        Turn (nodeL b (.slice av m capv) (.slice (some ⟨gu, 0, none⟩) n cu)) W4 wx (nodeL b (.slice (some ⟨c', 0, none⟩) (m + 1) cap') (.slice (some ⟨gu, 0, none⟩) n cu)) ∧
        wx.heap[r]? = some (.cells #[.string ⟨#[]⟩, .string ⟨#[]⟩] 43 (0, 0)) ∧ r ∉ nodeL b (.slice (some ⟨c', 0, none⟩) (m + 1) cap') (.slice (some ⟨gu, 0, none⟩) n cu))
      case first =>
        go_region_law ((go_simp; go_at_call 104; go_loud (refine (insIt (v := .slice av m capv) (n := m) (i := x1.length) (g := W4.heap.size) (news := encIt up) (HROW.out _ (by repeat (first | exact Mod.refl _ _ | refine Mod.alloc ?_ _ | refine Mod.drew ?_))) (flat_one (fun _ _ hu => oneIt hu)) hxm (by omega) (by exact heap_alloc_new _ _) rfl (fun _ hu => oneIt hu) HGO.out).mono ?_; rintro e w4 ⟨c', cap', rfl, hr, hm, hc⟩; have kb := heap_keep2 BB.out hm (by repeat (first | exact Mod.refl _ _ | refine Mod.alloc ?_ _ | refine Mod.drew ?_)) HBO.out; have kr := heap_keep2 HRR.out hm (by repeat (first | exact Mod.refl _ _ | refine Mod.alloc ?_ _ | refine Mod.drew ?_)) HRO.out; have k0 : w4.cell? ⟨b, 0, none⟩ = some (.slice av m capv) := cell_of kb 0 rfl; have kf := frozen_of kb 0; have KR := Lib.hid kr; have HR := Lib.hid hr; have HMW := Lib.hid (then2 (Mod.refl NoB W4) hm (by repeat (first | exact Mod.refl _ _ | refine Mod.alloc ?_ _ | refine Mod.drew ?_))); have HC := Lib.hid (c_new (w3 := W4) hc (by repeat (first | exact Mod.refl _ _ | refine Mod.alloc ?_ _ | refine Mod.drew ?_))); clear hr hm hc kb kr)))
        all_goals
          go_wp2_with fail
          go_meet
          obtain ⟨cap2, rfl, q⟩ := cut8_items (xs' := x1 ++ up :: x2) HN4.out HND.out HMW.out (by have := HR.out; rw [ins_flat] at this; exact this) (by rw [HM.out]; simp; omega) HC.out RN.out hrw KR.out
          exact ⟨c', _, q⟩
      case rest =>
        obtain ⟨c', cap', q1, q2, q3, q4, q5⟩ := hcut
        obtain ⟨W7, rfl⟩ : ∃ W7 : World, W7 = wc := ⟨_, rfl⟩
        have c1 : W7.cell? ⟨b, 1, none⟩ = some (.slice (some ⟨gu, 0, none⟩) n cu) := cell_of q1.1 1 rfl
        have hgu : gu ≠ b := fun e => by
          have := q2
          simp only [nodeL, List.nodup_cons, List.mem_append, not_or] at this
          exact this.1.2 (by simp [ownL, Value.ownBlock, e])
        have hru : r ≠ gu := fun e => q5 (by simp [nodeL, ownL, Value.ownBlock, e])
        have hgw : gu < W7.heap.size := q1.lts gu (by simp [nodeL, ownL, Value.ownBlock])
        have hbw7 : b < W7.heap.size := q1.lts b (by simp [nodeL])
        have hrw7 : r < W7.heap.size := (Array.getElem?_eq_some_iff.1 q4).1
        have hins := fun (W : World) (hm : Mod NoB W7 W) (hg : W.heap[W7.heap.size]? = some (.cells #[.pointer (some ⟨c2, 0, none⟩)] 109 (0, 0))) =>
          insNd (v := .slice (some ⟨gu, 0, none⟩) n cu) (i := x1.length + 1) (g := W7.heap.size) (news := encNd c2) (by have := (q1.mod hm (fun _ _ x => x)).2.2; rw [← HN.out] at this; exact this) (flat_one (fun _ _ hu => oneNd hu)) (by omega) (by have := HBL.out; have := HN.out; have := HM.out; omega) hg rfl (fun _ hu => oneNd hu) (by simp [ownL, Value.ownBlock]; omega)
        have ecast : (((x1.length + 1 : Nat)) : Int) = (x1.length : Int) + 1 := by omega
        simp only [ecast] at hins
        have Q1 := Lib.hid q1; have Q2 := Lib.hid q2; have Q3 := Lib.hid q3; have Q4 := Lib.hid q4; have Q5 := Lib.hid q5; have HINS := Lib.hid hins
        clear q1 q2 q3 q4 q5 hins ecast c0 f0 c0a hbg HROW HBO HRO HGO BB u0 u1
        go_upto_region 7 with (fail)
        go_cut [] (fun wx => ∃ gu' cu', NodeAt wx b (.slice (some ⟨c', 0, none⟩) (m + 1) cap') (x1 ++ up :: x2) (.slice (some ⟨gu', 0, none⟩) (n + 1) cu') (bA ++ c :: c2 :: bB) ∧ (nodeL b (.slice (some ⟨c', 0, none⟩) (m + 1) cap') (.slice (some ⟨gu', 0, none⟩) (n + 1) cu')).Nodup ∧
          Turn (nodeL b (.slice av m capv) (.slice (some ⟨gu, 0, none⟩) n cu)) W4 wx (nodeL b (.slice (some ⟨c', 0, none⟩) (m + 1) cap') (.slice (some ⟨gu', 0, none⟩) (n + 1) cu')) ∧
          wx.heap[r]? = some (.cells #[.string ⟨#[]⟩, .string ⟨#[]⟩] 43 (0, 0)) ∧ r ∉ nodeL b (.slice (some ⟨c', 0, none⟩) (m + 1) cap') (.slice (some ⟨gu', 0, none⟩) (n + 1) cu'))
        case first =>
          go_wp2_with fail
          refine (HINS.out _ ((Mod.refl _ _).alloc _) (heap_alloc_new W7 _)).mono ?_
          rintro e w8 ⟨g8, cap8, rfl, hr, hm, hc⟩
          have hgo : ∀ k ∈ ownL (.slice (some ⟨gu, 0, none⟩) n cu), k = gu := fun k hk => by simpa [ownL, Value.ownBlock] using hk
          have hm78 : Mod (· ∈ ownL (.slice (some ⟨gu, 0, none⟩) n cu)) W7 w8 := ((Mod.refl _ W7).alloc _).then hm (fun _ _ x => x)
          have kb := heap_keep Q1.out.1 (Mod.refl NoB _) hm78 (fun x => x) (fun e => hgu (hgo _ e).symm)
          have kr := heap_keep Q4.out (Mod.refl NoB _) hm78 (fun x => x) (fun e => hru (hgo _ e))
          have k1 : w8.cell? ⟨b, 1, none⟩ = some (.slice (some ⟨gu, 0, none⟩) n cu) := cell_of kb 1 rfl
          have kf := frozen_of kb 1
          have hrow : RowNd w8 (.slice (some ⟨g8, 0, none⟩) (n + 1) cap8) (bA ++ c :: c2 :: bB).length ((bA ++ c :: c2 :: bB).flatMap encNd) := by
            have e1 : bs = (bA ++ [c]) ++ bB := by rw [HBS.out]; simp
            have e2 := ins_flatNd (bA ++ [c]) bB c2
            have e3 : (bA ++ [c]).length = x1.length + 1 := by simp [HBA.out]
            rw [e3, ← e1] at e2
            rw [e2] at hr
            have e4 : bA ++ [c] ++ c2 :: bB = bA ++ c :: c2 :: bB := by simp
            rw [e4] at hr
            have e5 : (bA ++ c :: c2 :: bB).length = n + 1 := by rw [HN.out, HBS.out]; simp; omega
            rw [e5]
            exact hr
          have hnew : ∀ k ∈ ownL (.slice (some ⟨g8, 0, none⟩) (n + 1) cap8), k ∈ ownL (.slice (some ⟨gu, 0, none⟩) n cu) ∨ W7.heap.size ≤ k := fun k hk => by
            simp [ownL, Value.ownBlock] at hk
            subst hk
            exact hc.imp id (fun h => Nat.le_of_succ_le (by simpa using h))
          have HB := Lib.hid (node_below Q1.out Q2.out hm78 hrow hnew); have KR := Lib.hid kr; have HNEW := Lib.hid hnew
          clear hr hm hc hgo hm78 kb kr hrow hnew
          go_wp2_with fail
          go_meet
          obtain ⟨z1, z2, z3⟩ := HB.out
          refine ⟨g8, cap8, z1, z2, Q3.out.trans z3, ?_, fun e => ?_⟩
          · rw [heap_set_other hrb]; exact KR.out
          · have h5 := Q5.out
            simp only [nodeL, List.mem_cons, List.mem_append, not_or] at e h5
            rcases e with h | h | h
            · exact h5.1 h
            · exact h5.2.1 h
            · rcases HNEW.out _ h with h | h
              · exact h5.2.2 h
              · omega
        case rest =>
          obtain ⟨gu', cu', q1, q2, q3, q4, q5⟩ := hcut
          obtain ⟨W9, rfl⟩ : ∃ W9 : World, W9 = wc := ⟨_, rfl⟩
          clear HINS Q1 Q2 Q3 Q4 Q5 c1 hgu hru hgw hbw7 hrw7
          have e0 : W9.cell? ⟨b, 0, none⟩ = some (.slice (some ⟨c', 0, none⟩) (m + 1) cap') := cell_of q1.1 0 rfl
          have e1 : W9.cell? ⟨b, 1, none⟩ = some (.slice (some ⟨gu', 0, none⟩) (n + 1) cu') := cell_of q1.1 1 rfl
          have ef0 := frozen_of q1.1 0
          have ef1 := frozen_of q1.1 1
          have z0 : W9.cell? ⟨r, 0, none⟩ = some (.string ⟨#[]⟩) := cell_of q4 0 rfl
          have z1 : W9.cell? ⟨r, 1, none⟩ = some (.string ⟨#[]⟩) := cell_of q4 1 rfl
          have zf0 := frozen_of q4 0
          have zf1 := frozen_of q4 1
          have hbw9 : b < W9.heap.size := q1.lts b (by simp [nodeL])
          have hrw9 : r < W9.heap.size := (Array.getElem?_eq_some_iff.1 q4).1
          have Q1 := Lib.hid q1; have Q2 := Lib.hid q2; have Q3 := Lib.hid q3; have Q4 := Lib.hid q4; have Q5 := Lib.hid q5
          by_cases h6 : m + 1 ≤ 6
          · clear q1 q2 q3 q4 q5
            go_wp2_with fail
            have hmr : Mod (· = r) W9 _ := Mod.setCell (S := (· = r)) (Mod.setCell (S := (· = r)) (Mod.refl _ W9) (p := ⟨r, 0, none⟩) (by intro _; rfl) (.string ⟨#[]⟩)) (p := ⟨r, 1, none⟩) (by intro _; rfl) (.string ⟨#[]⟩)
            refine bodyPost_ret (v := .tuple #[.agg #[.string ⟨#[]⟩, .string ⟨#[]⟩], .pointer none]) (by simp [results, Tryz.results90, go_sem, *]) rfl ⟨up, _, LX, W4, r, HP.out, ?_, R1.out, R2.out, R3.out, (Q3.out.1.mono (fun _ _ x => .inl x)).trans (hmr.mono (fun _ _ e => .inr e)), .inr (.inl ⟨c2, _, _, rfl, rfl, ?_, Q1.out.mod hmr (fun k hk e => Q5.out (e ▸ hk)), Q2.out, Q3.out.2⟩)⟩
            · rw [← HBS.out]; exact HN4.out
            · have := HM.out; simp at this ⊢; omega
          · have hm7a : 7 ≤ m + 1 := by omega
            have hm7b : m + 1 ≤ 7 := by omega
            obtain ⟨M, hMM⟩ : ∃ M, M = m + 1 := ⟨_, rfl⟩
            obtain ⟨N, hNN⟩ : ∃ N, N = n + 1 := ⟨_, rfl⟩
            have hlen : (x1 ++ up :: x2).length = M := by rw [hMM, HM.out]; simp; omega
            have hlenb : (bA ++ c :: c2 :: bB).length = N := by rw [hNN, HN.out, HBS.out]; simp; omega
            have hN8 : 8 ≤ N ∧ N ≤ 8 := by have := HBL.out; have := HN.out; have := HM.out; omega
            obtain ⟨hN8a, hN8b⟩ := hN8
            rw [← hMM] at q1 q2 q3 q5 e0 hm7a hm7b Q1 Q2 Q3 Q5
            rw [← hNN] at q1 q2 q3 q5 e1 Q1 Q2 Q3 Q5
            obtain ⟨xl, up2, xr, hxs, hxl3, hxr3⟩ : ∃ xl up2 xr, x1 ++ up :: x2 = xl ++ up2 :: xr ∧ xl.length = 3 ∧ xr.length = 3 := by
              refine ⟨(x1 ++ up :: x2).take 3, (x1 ++ up :: x2)[3]'(by omega), (x1 ++ up :: x2).drop 4, ?_, by rw [List.length_take]; omega, by rw [List.length_drop]; omega⟩
              rw [List.getElem_cons_drop, List.take_append_drop]
            obtain ⟨bl, br, hbsp, hbl4, hbr4⟩ : ∃ bl br, bA ++ c :: c2 :: bB = bl ++ br ∧ bl.length = 4 ∧ br.length = 4 :=
              ⟨(bA ++ c :: c2 :: bB).take 4, (bA ++ c :: c2 :: bB).drop 4, (List.take_append_drop _ _).symm, by rw [List.length_take]; omega, by rw [List.length_drop]; omega⟩
            obtain ⟨y0, cur, y1, y2, y3, y4, y5⟩ := ownsRow_block q1.2.1
            obtain ⟨y0', cur', y1', y2', y3', y4', y5'⟩ := ownsRow_block q1.2.2
            have hcap : M ≤ cap' := by rw [← hlen]; exact y2
            have hcapm : cap' ≤ 9223372036854775807 := by unfold maxLen at y3; omega
            have hc4 : ¬ cap' = 4 := by omega
            have hc3 : ¬ cap' = 3 := by omega
            have hcapu : N ≤ cu' := by rw [← hlenb]; exact y2'
            have hcapum : cu' ≤ 9223372036854775807 := by unfold maxLen at y3'; omega
            have hcu4 : ¬ cu' = 4 := by omega
            have cellAt : ∀ j y, (encIt up2)[j]? = some y → W9.cell? ⟨c', 6 + j, none⟩ = some y := by
              intro j y hy
              have := q1.2.1.cells (g := c') rfl (xl.length * 2 + j) y (flat_cell (k := 2) (enc := encIt) (fun _ => rfl) _ xl.length up2 (by rw [hxs]; simp) j y hy)
              rw [hxl3] at this
              rwa [addr_lit, Nat.zero_add] at this
            have u0 : W9.cell? ⟨c', 6, none⟩ = some (.string up2.1) := cellAt 0 _ rfl
            have u1 : W9.cell? ⟨c', 7, none⟩ = some (.string up2.2) := cellAt 1 _ rfl
            have hNLF := Lib.hid (show ∀ S X, Mod S W9 X → (∀ k ∈ nodeL b (.slice (some ⟨c', 0, none⟩) M cap') (.slice (some ⟨gu', 0, none⟩) N cu'), ¬ S k) → Calls Tryz.prog 75 #[.pointer (some ⟨b, 0, none⟩)] X fun e w' => e = .returned (.bool false) ∧ w' = X from fun S X hm hs => by
              have := leaf_node (q1.mod hm hs)
              have e : decide ((bA ++ c :: c2 :: bB).length = 0) = false := by rw [hlenb]; simp; omega
              rw [e] at this
              exact this)
            have hcb : c' ≠ b ∧ gu' ≠ b := by
              have := q2
              simp only [nodeL, List.nodup_cons, List.mem_append, not_or] at this
              exact ⟨fun e => this.1.1 (by simp [ownL, Value.ownBlock, e]), fun e => this.1.2 (by simp [ownL, Value.ownBlock, e])⟩
            obtain ⟨hcb1, hcb2⟩ := hcb
            have hcw : c' < W9.heap.size := (Array.getElem?_eq_some_iff.1 y1).1
            have hguw : gu' < W9.heap.size := (Array.getElem?_eq_some_iff.1 y1').1
            have hreadI : ∀ X, Mod (fun k => k = b ∨ W9.heap.size ≤ k) W9 X → ∀ o cs n2 cp, (∀ j y, cs[j]? = some y → ((x1 ++ up :: x2).flatMap encIt)[o + j]? = some y) → Read X (.slice (some ⟨c', o, none⟩) n2 cp) n2 cs := fun X hm o cs n2 cp hcs => by
              refine .inr ⟨_, _, rfl, fun j y hy => ?_⟩
              have h0 := q1.2.1.cells (g := c') rfl (o + j) y (hcs j y hy)
              rw [addr_lit] at h0 ⊢
              rw [Nat.zero_add] at h0
              rw [hm.cell (cell_lt' h0) (fun e => e.elim (fun e => hcb1 e) (fun e => absurd hcw (Nat.not_lt.2 e)))]
              exact h0
            have hreadN : ∀ X, Mod (fun k => k = b ∨ W9.heap.size ≤ k) W9 X → ∀ o cs n2 cp, (∀ j y, cs[j]? = some y → ((bA ++ c :: c2 :: bB).flatMap encNd)[o + j]? = some y) → Read X (.slice (some ⟨gu', o, none⟩) n2 cp) n2 cs := fun X hm o cs n2 cp hcs => by
              refine .inr ⟨_, _, rfl, fun j y hy => ?_⟩
              have h0 := q1.2.2.cells (g := gu') rfl (o + j) y (hcs j y hy)
              rw [addr_lit] at h0 ⊢
              rw [Nat.zero_add] at h0
              rw [hm.cell (cell_lt' h0) (fun e => e.elim (fun e => hcb2 e) (fun e => absurd hguw (Nat.not_lt.2 e)))]
              exact h0
            have HRI := Lib.hid hreadI; have HRN := Lib.hid hreadN
            have HXS := Lib.hid hxs; have HX3 := Lib.hid hxl3; have HR3 := Lib.hid hxr3; have HBSP := Lib.hid hbsp; have HBL4 := Lib.hid hbl4; have HBR4 := Lib.hid hbr4; have HMM := Lib.hid hMM; have HNN := Lib.hid hNN
            clear q1 q2 q3 q4 q5 hxs hxl3 hxr3 hbsp hbl4 hbr4 y0 y1 y2 y3 y4 y5 y0' y1' y2' y3' y4' y5' cellAt hreadI hreadN hlen hlenb h6 hMM hNN z0 z1 zf0 zf1
            go_wp2_with fail
            refine (cloneIt (cs := xr.flatMap encIt) (HRI.out _ ((Mod.refl _ _).alloc _) 8 _ _ _ (fun j y hy => by
              rw [HXS.out, show xl ++ up2 :: xr = (xl ++ [up2]) ++ xr by simp, List.flatMap_append, List.getElem?_append_right (by rw [flat_length (k := 2) (fun _ => rfl)]; simp [HX3.out]), flat_length (k := 2) (fun _ => rfl)]
              simp only [List.length_append, HX3.out, List.length_cons, List.length_nil]
              rw [show 8 + j - (3 + (0 + 1)) * 2 = j by omega]
              exact hy)) (by rw [flat_length (k := 2) (fun _ => rfl), HR3.out, show M - 4 = 3 by omega]) (flat_one (fun _ _ hu => oneIt hu)) (by omega)).mono ?_
            rintro e w6 ⟨vr, rfl, hr1, hm1, hn1⟩
            rcases ownsRow_form hr1 with ⟨_, h0⟩ | ⟨gr, capr, rfl⟩
            · omega
            have hm16 : Mod NoB W9 w6 := ((Mod.refl NoB W9).alloc (.cells #[.string up2.1, .string up2.2] 43)).trans hm1
            have hs6 := hm1.size
            simp at hs6
            have iu : w6.heap[W9.heap.size]? = some (.cells #[.string up2.1, .string up2.2] 43 (0, 0)) := heap_keep (heap_alloc_new W9 _) (Mod.refl NoB _) hm1 (fun x => x) (fun x => x)
            have i1 : w6.cell? ⟨b, 1, none⟩ = some (.slice (some ⟨gu', 0, none⟩) N cu') := hm16.cellS e1
            have hgr : W9.heap.size + 1 ≤ gr ∧ gr < w6.heap.size := ⟨by have := hn1 gr (by simp [ownL, Value.ownBlock]); simpa using this, own_lt hr1 gr (by simp [ownL, Value.ownBlock])⟩
            have hb6 : b < w6.heap.size := by omega
            have hr6 : r < w6.heap.size := by omega
            have M16 := Lib.hid hm16; have IU := Lib.hid iu; have HR1 := Lib.hid hr1; have HGR := Lib.hid hgr
            clear hm16 iu hr1 hm1 hn1 hgr e0 e1 ef0 ef1 u0 u1
            have hbn6 : b ≠ w6.heap.size := by omega
            go_wp2_with fail
            refine (hNLF.out NoB _ (M16.out.trans ((Mod.refl NoB w6).alloc _)) (fun _ _ x => x)).mono ?_
            rintro e w7 ⟨rfl, hw7⟩
            rw [hw7]
            clear hw7
            go_wp2_with fail
            obtain ⟨C, hC⟩ : ∃ C, C = w6.heap.size := ⟨_, rfl⟩
            rw [← hC]
            have hCw : W9.heap.size + 2 ≤ C := by have := HGR.out; omega
            have hmA : Mod (fun k => k = b ∨ W9.heap.size ≤ k) W9 (w6.alloc (.cells #[.slice (some ⟨gr, 0, none⟩) (M - 4) capr, .slice none 0 0] 126)) := (M16.out.mono (fun _ _ x => x.elim)).alloc _
            refine (cloneNd (cs := br.flatMap encNd) (HRN.out _ hmA 4 _ _ _ (fun j y hy => by
              rw [HBSP.out, List.flatMap_append, List.getElem?_append_right (by rw [flat_length (k := 1) (fun _ => rfl), HBL4.out]; omega), flat_length (k := 1) (fun _ => rfl), HBL4.out, show 4 + j - 4 * 1 = j by omega]
              exact hy)) (by rw [flat_length (k := 1) (fun _ => rfl), HBR4.out, show N - 4 = 4 by omega]) (flat_one (fun _ _ hu => oneNd hu)) (by omega)).mono ?_
            rintro e wB ⟨vrN, rfl, hr2, hm2, hn2⟩
            rcases ownsRow_form hr2 with ⟨_, h0⟩ | ⟨gn, capn, rfl⟩
            · omega
            have hgn : C + 1 ≤ gn ∧ gn < wB.heap.size := ⟨by have := hn2 gn (by simp [ownL, Value.ownBlock]); simpa [hC] using this, own_lt hr2 gn (by simp [ownL, Value.ownBlock])⟩
            have hmB : Mod NoB w6 wB := ((Mod.refl NoB w6).alloc _).trans hm2
            have kC : wB.heap[C]? = some (.cells #[.slice (some ⟨gr, 0, none⟩) (M - 4) capr, .slice none 0 0] 126 (0, 0)) := by
              have := heap_keep (heap_alloc_new w6 (.cells #[.slice (some ⟨gr, 0, none⟩) (M - 4) capr, .slice none 0 0] 126)) (Mod.refl NoB _) hm2 (fun x => x) (fun x => x)
              rw [hC]; exact this
            have jc1 : wB.cell? ⟨C, 1, none⟩ = some (.slice none 0 0) := cell_of kC 1 rfl
            have jcf := frozen_of kC 1
            have j1 : wB.cell? ⟨b, 1, none⟩ = some (.slice (some ⟨gu', 0, none⟩) N cu') := hmB.cellS i1
            have hbC : b ≠ C := by omega
            have hmB2 : Mod (fun k => k = b ∨ W9.heap.size ≤ k) W9 wB := (M16.out.trans hmB).mono (fun _ _ x => x.elim)
            have hmB3 : Mod (fun k => k = b ∨ W9.heap.size ≤ k) W9 (wB.setCell ⟨C, 1, none⟩ (.slice (some ⟨gn, 0, none⟩) (N - 4) capn)) := hmB2.setCell (fun h => absurd h (by show ¬ C < _; omega)) _
            have kC2 : (wB.setCell ⟨C, 1, none⟩ (.slice (some ⟨gn, 0, none⟩) (N - 4) capn)).heap[C]? = some (.cells #[.slice (some ⟨gr, 0, none⟩) (M - 4) capr, .slice (some ⟨gn, 0, none⟩) (N - 4) capn] 126 (0, 0)) := by
              have := heap_set kC 1 (.slice (some ⟨gn, 0, none⟩) (N - 4) capn)
              simpa using this
            have hrN : RowNd (wB.setCell ⟨C, 1, none⟩ (.slice (some ⟨gn, 0, none⟩) (N - 4) capn)) (.slice (some ⟨gn, 0, none⟩) (N - 4) capn) (N - 4) (br.flatMap encNd) := own_mod' (S := (· = C)) hr2 (Mod.setCell (S := (· = C)) (Mod.refl _ _) (by intro _; rfl) _) (fun k hk e => by simp [ownL, Value.ownBlock] at hk; omega)
            have kU2 : (wB.setCell ⟨C, 1, none⟩ (.slice (some ⟨gn, 0, none⟩) (N - 4) capn)).heap[W9.heap.size]? = some (.cells #[.string up2.1, .string up2.2] 43 (0, 0)) := by
              rw [heap_set_other (by omega)]
              exact heap_keep IU.out (Mod.refl NoB _) hmB (fun x => x) (fun x => x)
            have hrI : RowIt (wB.setCell ⟨C, 1, none⟩ (.slice (some ⟨gn, 0, none⟩) (N - 4) capn)) (.slice (some ⟨gr, 0, none⟩) (M - 4) capr) (M - 4) (xr.flatMap encIt) := own_mod' (S := (· = C)) (own_mod' HR1.out hmB (fun _ _ x => x)) (Mod.setCell (S := (· = C)) (Mod.refl _ _) (by intro _; rfl) _) (fun k hk e => by simp [ownL, Value.ownBlock] at hk; have := HGR.out; omega)
            have kB : (wB.setCell ⟨C, 1, none⟩ (.slice (some ⟨gn, 0, none⟩) (N - 4) capn)).heap[b]? = some (.cells #[.slice (some ⟨c', 0, none⟩) M cap', .slice (some ⟨gu', 0, none⟩) N cu'] 126 (0, 0)) := by
              rw [heap_set_other hbC]
              exact heap_keep Q1.out.1 M16.out hmB (fun x => x) (fun x => x)
            have kR : (wB.setCell ⟨C, 1, none⟩ (.slice (some ⟨gn, 0, none⟩) (N - 4) capn)).heap[r]? = some (.cells #[.string ⟨#[]⟩, .string ⟨#[]⟩] 43 (0, 0)) := by
              rw [heap_set_other (by omega)]
              exact heap_keep Q4.out M16.out hmB (fun x => x) (fun x => x)
            have KB := Lib.hid kB; have KR := Lib.hid kR
            clear kB kR
            have HGN := Lib.hid hgn; have MB3 := Lib.hid hmB3; have KC2 := Lib.hid kC2; have HRN2 := Lib.hid hrN; have KU2 := Lib.hid kU2; have HRI2 := Lib.hid hrI; have HC := Lib.hid hC
            have hsB : C + 2 ≤ wB.heap.size := by omega
            clear hr2 hn2 hm2 hmB hmB2 hmB3 kC kC2 hrN kU2 hrI hgn hmA hC i1
            go_wp2_with fail
            obtain ⟨wC, hwC⟩ : ∃ wC, wC = wB.setCell ⟨C, 1, none⟩ (.slice (some ⟨gn, 0, none⟩) (N - 4) capn) := ⟨_, rfl⟩
            rw [← hwC] at MB3 KC2 HRN2 KU2 HRI2 KB KR ⊢
            have hsC : wC.heap.size = wB.heap.size := by rw [hwC]; simp [World.setCell]
            clear hwC jc1 jcf j1
            refine (cloneNd (cs := bl.flatMap encNd) (HRN.out _ MB3.out 0 _ _ _ (fun j y hy => by
              rw [HBSP.out, List.flatMap_append, Nat.zero_add, List.getElem?_append_left (List.getElem?_eq_some_iff.1 hy).1]
              exact hy)) (by rw [flat_length (k := 1) (fun _ => rfl), HBL4.out]) (flat_one (fun _ _ hu => oneNd hu)) (by omega)).mono ?_
            rintro e wD ⟨vlN, rfl, hr3, hm3, hn3⟩
            rcases ownsRow_form hr3 with ⟨_, h0⟩ | ⟨gm, capm2, rfl⟩
            · omega
            have hgm : wB.heap.size ≤ gm ∧ gm < wD.heap.size := ⟨by have := hn3 gm (by simp [ownL, Value.ownBlock]); omega, own_lt hr3 gm (by simp [ownL, Value.ownBlock])⟩
            have hmD : Mod (fun k => k = b ∨ W9.heap.size ≤ k) W9 wD := MB3.out.trans (hm3.mono (fun _ _ x => x.elim))
            have hbD := heap_keep KB.out (Mod.refl NoB _) hm3 (fun x => x) (fun x => x)
            have j1 : wD.cell? ⟨b, 1, none⟩ = some (.slice (some ⟨gu', 0, none⟩) N cu') := cell_of hbD 1 rfl
            have j0 : wD.cell? ⟨b, 0, none⟩ = some (.slice (some ⟨c', 0, none⟩) M cap') := cell_of hbD 0 rfl
            have jf1 := frozen_of hbD 1
            have hbE : (wD.setCell ⟨b, 1, none⟩ (.slice (some ⟨gm, 0, none⟩) 4 capm2)).heap[b]? = some (.cells #[.slice (some ⟨c', 0, none⟩) M cap', .slice (some ⟨gm, 0, none⟩) 4 capm2] 126 (0, 0)) := by
              have := heap_set hbD 1 (.slice (some ⟨gm, 0, none⟩) 4 capm2)
              simpa using this
            have hmE : Mod (fun k => k = b ∨ W9.heap.size ≤ k) W9 (wD.setCell ⟨b, 1, none⟩ (.slice (some ⟨gm, 0, none⟩) 4 capm2)) := hmD.setCell (fun _ => .inl rfl) _
            have hbM : Mod (· = b) wD (wD.setCell ⟨b, 1, none⟩ (.slice (some ⟨gm, 0, none⟩) 4 capm2)) := Mod.setCell (S := (· = b)) (Mod.refl _ _) (by intro _; rfl) _
            have hmCE : Mod (· = b) wC (wD.setCell ⟨b, 1, none⟩ (.slice (some ⟨gm, 0, none⟩) 4 capm2)) := (hm3.mono (fun _ _ x => x.elim)).trans hbM
            have kCE := heap_keep KC2.out (Mod.refl NoB _) hmCE (fun x => x) (fun e => hbC e.symm)
            have kRE := heap_keep KR.out (Mod.refl NoB _) hmCE (fun x => x) hrb
            have kUE := heap_keep KU2.out (Mod.refl NoB _) hmCE (fun x => x) (by omega)
            have rNE := own_mod' HRN2.out hmCE (fun k hk e => by simp [ownL, Value.ownBlock] at hk; have := HGN.out; omega)
            have rIE := own_mod' HRI2.out hmCE (fun k hk e => by simp [ownL, Value.ownBlock] at hk; have := HGR.out; omega)
            have rME : RowNd (wD.setCell ⟨b, 1, none⟩ (.slice (some ⟨gm, 0, none⟩) 4 capm2)) (.slice (some ⟨gm, 0, none⟩) 4 capm2) 4 (bl.flatMap encNd) := own_mod' hr3 hbM (fun k hk e => by simp [ownL, Value.ownBlock] at hk; omega)
            have BE := Lib.hid hbE; have ME := Lib.hid hmE; have KCE := Lib.hid kCE; have KRE := Lib.hid kRE; have KUE := Lib.hid kUE; have RNE := Lib.hid rNE; have RIE := Lib.hid rIE; have RME := Lib.hid rME; have HGM := Lib.hid hgm
            clear hr3 hm3 hn3 hmD hbD hbE hmE hbM hmCE kCE kRE kUE rNE rIE rME hgm KB KR KC2 HRN2 KU2 HRI2 MB3
            go_wp2_with fail
            obtain ⟨wE, hwE⟩ : ∃ wE, wE = wD.setCell ⟨b, 1, none⟩ (.slice (some ⟨gm, 0, none⟩) 4 capm2) := ⟨_, rfl⟩
            rw [← hwE] at BE ME KCE KRE KUE RNE RIE RME ⊢
            have hsE : wE.heap.size = wD.heap.size := by rw [hwE]; simp [World.setCell]
            clear hwE j1 j0 jf1
            refine (cloneIt (cs := xl.flatMap encIt) (HRI.out _ ME.out 0 _ _ _ (fun j y hy => by
              rw [HXS.out, List.flatMap_append, Nat.zero_add, List.getElem?_append_left (List.getElem?_eq_some_iff.1 hy).1]
              exact hy)) (by rw [flat_length (k := 2) (fun _ => rfl), HX3.out]) (flat_one (fun _ _ hu => oneIt hu)) (by omega)).mono ?_
            rintro e wF ⟨vl, rfl, hr4, hm4, hn4⟩
            rcases ownsRow_form hr4 with ⟨_, h0⟩ | ⟨gl, capl, rfl⟩
            · omega
            have hgl : wD.heap.size ≤ gl := by have := hn4 gl (by simp [ownL, Value.ownBlock]); omega
            have kb := heap_keep BE.out (Mod.refl NoB _) hm4 (fun x => x) (fun x => x)
            have kr := heap_keep KRE.out (Mod.refl NoB _) hm4 (fun x => x) (fun x => x)
            have ku := heap_keep KUE.out (Mod.refl NoB _) hm4 (fun x => x) (fun x => x)
            have kc := heap_keep KCE.out (Mod.refl NoB _) hm4 (fun x => x) (fun x => x)
            have l0 : wF.cell? ⟨b, 0, none⟩ = some (.slice (some ⟨c', 0, none⟩) M cap') := cell_of kb 0 rfl
            have lf := frozen_of kb 0
            have lu0 : wF.cell? ⟨W9.heap.size, 0, none⟩ = some (.string up2.1) := cell_of ku 0 rfl
            have lu1 : wF.cell? ⟨W9.heap.size, 1, none⟩ = some (.string up2.2) := cell_of ku 1 rfl
            have lr0 : wF.cell? ⟨r, 0, none⟩ = some (.string ⟨#[]⟩) := cell_of kr 0 rfl
            have lr1 : wF.cell? ⟨r, 1, none⟩ = some (.string ⟨#[]⟩) := cell_of kr 1 rfl
            have lrf0 := frozen_of kr 0
            have lrf1 := frozen_of kr 1
            have hbU9 : b ≠ W9.heap.size := by omega
            have hrU9 : r ≠ W9.heap.size := by omega
            have KB := Lib.hid kb; have KC := Lib.hid kc; have HR4 := Lib.hid hr4; have HM4 := Lib.hid hm4; have HGL := Lib.hid hgl
            clear kb kr ku kc hr4 hm4 hn4 hgl
            go_wp2_with fail
            have hbG : (wF.setCell ⟨b, 0, none⟩ (.slice (some ⟨gl, 0, none⟩) 3 capl)).heap[b]? = some (.cells #[.slice (some ⟨gl, 0, none⟩) 3 capl, .slice (some ⟨gm, 0, none⟩) 4 capm2] 126 (0, 0)) := by
              have := heap_set KB.out 0 (.slice (some ⟨gl, 0, none⟩) 3 capl)
              simpa using this
            have hbb : Mod (· = b) wF (wF.setCell ⟨b, 0, none⟩ (.slice (some ⟨gl, 0, none⟩) 3 capl)) := Mod.setCell (S := (· = b)) (Mod.refl _ _) (by intro _; rfl) _
            have hq : Mod (· = r) (wF.setCell ⟨b, 0, none⟩ (.slice (some ⟨gl, 0, none⟩) 3 capl)) _ := Mod.setCell (S := (· = r)) (Mod.setCell (S := (· = r)) (Mod.refl _ _) (p := ⟨r, 0, none⟩) (by intro _; rfl) (.string up2.1)) (p := ⟨r, 1, none⟩) (by intro _; rfl) (.string up2.2)
            have hgn := HGN.out; have hgr := HGR.out; have hgm := HGM.out; have hgl := HGL.out; have hCC := HC.out
            have hEG : Mod (· = b) wE (wF.setCell ⟨b, 0, none⟩ (.slice (some ⟨gl, 0, none⟩) 3 capl)) := (HM4.out.mono (fun _ _ x => x.elim)).trans hbb
            have hN1 : NodeAt (wF.setCell ⟨b, 0, none⟩ (.slice (some ⟨gl, 0, none⟩) 3 capl)) b (.slice (some ⟨gl, 0, none⟩) 3 capl) xl (.slice (some ⟨gm, 0, none⟩) 4 capm2) bl :=
              ⟨hbG, by have := own_mod' HR4.out hbb (fun k hk e => by simp [ownL, Value.ownBlock] at hk; omega); rw [HX3.out]; exact this, by have := own_mod' RME.out hEG (fun k hk e => by simp [ownL, Value.ownBlock] at hk; omega); rw [HBL4.out]; exact this⟩
            have hN2 : NodeAt (wF.setCell ⟨b, 0, none⟩ (.slice (some ⟨gl, 0, none⟩) 3 capl)) C (.slice (some ⟨gr, 0, none⟩) (M - 4) capr) xr (.slice (some ⟨gn, 0, none⟩) (N - 4) capn) br :=
              ⟨heap_keep KC.out (Mod.refl NoB _) hbb (fun x => x) (fun e => hbC e.symm), by have := own_mod' RIE.out hEG (fun k hk e => by simp [ownL, Value.ownBlock] at hk; omega); rw [HR3.out]; rwa [show M - 4 = 3 by omega] at this ⊢, by have := own_mod' RNE.out hEG (fun k hk e => by simp [ownL, Value.ownBlock] at hk; omega); rw [HBR4.out]; rwa [show N - 4 = 4 by omega] at this ⊢⟩
            have hn1l : ∀ k ∈ nodeL b (.slice (some ⟨gl, 0, none⟩) 3 capl) (.slice (some ⟨gm, 0, none⟩) 4 capm2), k = b ∨ k = gl ∨ k = gm := fun k hk => by simpa [nodeL, ownL, Value.ownBlock] using hk
            have hn2l : ∀ k ∈ nodeL C (.slice (some ⟨gr, 0, none⟩) (M - 4) capr) (.slice (some ⟨gn, 0, none⟩) (N - 4) capn), k = C ∨ k = gr ∨ k = gn := fun k hk => by simpa [nodeL, ownL, Value.ownBlock] using hk
            have hs49 := Q3.out.1.size
            refine bodyPost_ret (v := .tuple #[.agg #[.string up2.1, .string up2.2], .pointer (some ⟨C, 0, none⟩)]) (by simp [results, Tryz.results90, go_sem, *]) rfl ⟨up, _, LX, W4, r, HP.out, ?_, R1.out, R2.out, R3.out, ?_, .inr (.inr ⟨c2, up2, xl, xr, C, _, _, _, _, bl, br, rfl, rfl, HXS.out, HX3.out, HR3.out, HBSP.out, HBL4.out, hN1.mod hq (fun k hk e => ?_), hN2.mod hq (fun k hk e => ?_), ?_, ?_⟩)⟩
            · rw [← HBS.out]; exact HN4.out
            · have h1 : Mod (fun k => k ∈ nodeL b (.slice av m capv) (.slice (some ⟨gu, 0, none⟩) n cu) ∨ k = r) W4 W9 := Q3.out.1.mono (fun _ _ x => .inl x)
              have h2 : Mod (fun k => k = b ∨ W9.heap.size ≤ k) W9 (wF.setCell ⟨b, 0, none⟩ (.slice (some ⟨gl, 0, none⟩) 3 capl)) := ME.out.trans (hEG.mono (fun _ _ e => .inl e))
              refine (h1.then h2 (fun k hk e => ?_)).then hq (fun k hk e => .inr e)
              rcases e with e | e
              · left; simp [nodeL, e]
              · omega
            · rcases hn1l k hk with h | h | h <;> omega
            · rcases hn2l k hk with h | h | h <;> omega
            · refine List.nodup_append.2 ⟨?_, ?_, fun x hx y hy e => ?_⟩
              · simp [nodeL, ownL, Value.ownBlock]; omega
              · simp [nodeL, ownL, Value.ownBlock]; omega
              · rcases hn1l x hx with h | h | h <;> rcases hn2l y hy with h' | h' | h' <;> omega
            · intro k hk
              rcases List.mem_append.1 hk with hk | hk
              · rcases hn1l k hk with h | h | h
                · left; simp [nodeL, h]
                · right; omega
                · right; omega
              · right
                rcases hn2l k hk with h | h | h <;> omega
end Go.Proofs.YtmagddchjidamaaGreatDoor
