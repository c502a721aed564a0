/- (*hold.Hold).Do of a Scan. -/
import Derived.Test.YtmagddchjidamaaGreatDoorScanHold
namespace Go.Proofs.YtmagddchjidamaaGreatDoor
set_option linter.unusedSimpArgs false
set_option linter.unusedVariables false
open Go.RowKit Go.Shelf
attribute [local go_sem ↓] Go.wp_at_zero Go.wp_at_succ

theorem own_low {W : World} {b b' size n : Nat} {e : TypeId} {v : Value} {ys : List Value} (h : W.ownsRow b e size v n ys) (hb : b' ≤ b) : W.ownsRow b' e size v n ys := by
  refine ⟨h.1, ?_⟩
  rcases h.2 with h2 | ⟨g, cap, cur, rfl, h3, h4⟩
  · exact .inl h2
  · exact .inr ⟨g, cap, cur, rfl, Nat.le_trans hb h3, h4⟩

set_option maxRecDepth 100000 in
set_option maxHeartbeats 8000000 in
theorem hright_scan (k v tk : ByteArray) (most : Int) (hm0 : 0 ≤ most) (hm40 : most ≤ 40) (hk2 : k.size ≤ 16) (w : World) :
    Calls Tryz.prog 35 #[encAsk 4 k v tk most] w fun e w' => e = .returned (.int .i64 0) ∧ Mod NoB w w' := by
  have n1 : ¬ most < 0 := by omega
  have n2 : ¬ 40 < most := by omega
  have n3 : ¬ (16 : Int) < (k.size : Int) := by omega
  go_enter Tryz.func35, Tryz.ntmps35
  go_wp2_with fail
  go_ret
  exact ⟨rfl, (Mod.refl _ _).alloc _⟩

set_option maxRecDepth 100000 in
set_option maxHeartbeats 8000000 in
theorem do_scan_else {w : World} {h : Nat} {st : HSt} {tr : Option Tree} {n : Nat} {B : List Nat} (hh : HoldAt w h st tr n B) (k v tk : ByteArray) (most : Int) (hm0 : 0 ≤ most) (hm40 : most ≤ 40) (hk2 : k.size ≤ 16)
    (hat : st.at (addr k) = none) (hlen : st.pts.length ≤ 1000000) :
    Calls Tryz.prog 14 #[.pointer (some ⟨h, 0, none⟩), encAsk 4 k v tk most] w fun e w' => e = .returned (encTold 8 ⟨#[]⟩ (wherN (st.whereP (addr k)))) ∧ Mod NoB w w' := by
  have HH := Lib.hid hh
  clear hh
  go_enter Tryz.func14, Tryz.ntmps14
  go_wp2_with fail
  refine (hright_scan k v tk most hm0 hm40 hk2 _).mono ?_
  rintro e w1 ⟨rfl, hm1⟩
  obtain ⟨hd1, hm01⟩ := do_in hm1
  obtain ⟨a0, a1, a2, a3, a4⟩ := hd1.ask
  have HD1 := Lib.hid hd1; have HM1 := Lib.hid hm01
  clear hm1 hd1 hm01
  go_wp2_with fail
  refine (addr_any k _).mono ?_
  rintro e w2 ⟨rfl, hww⟩
  rw [hww]
  clear hww w2
  go_wp2_with fail
  refine (hasH_any (HH.out.mod HM1.out (fun _ _ x => x)) (addr k)).mono ?_
  rintro e w2 ⟨rfl, hm2⟩
  rw [hat]
  have HM2 := Lib.hid (HM1.out.trans hm2)
  have HD2 := Lib.hid (HD1.out.mod hm2 (fun x => x) (fun x => x))
  clear hm2 a0 a1 a2 a3 a4
  simp only [Option.isSome_none]
  go_wp2_with fail
  refine (where_any (HH.out.mod HM2.out (fun _ _ x => x)) (addr k) hlen).mono ?_
  rintro e w3 ⟨rfl, hm3⟩
  have HM3 := Lib.hid (HM2.out.trans hm3)
  have hd3 := HD2.out.mod hm3 (fun x => x) (fun x => x)
  obtain ⟨b0, b1, b2, b3, b4, b5, g0, g1, g2, g3, g4, g5⟩ := hd3.told
  have hB : ∀ v, Mod NoB w v → Mod NoB w v := fun _ h => h
  clear hm3 hd3 hB
  cases hw : st.whereP (addr k) with
  | none =>
    simp only [whereRes, wherN]
    go_wp2_with fail
    refine bodyPost_ret (v := encTold 8 ⟨#[]⟩ (-1)) (by simp [results, Tryz.results14, go_sem, *]) rfl ⟨by rw [hw]; rfl, ?_⟩
    exact HM3.out.then (told_set w3 (w.heap.size + 1) _ _ _ _ _ _) (fun i hi e => by omega)
  | some p =>
    simp only [whereRes, wherN]
    go_wp2_with fail
    refine bodyPost_ret (v := encTold 8 ⟨#[]⟩ p.node) (by simp [results, Tryz.results14, go_sem, *]) rfl ⟨by rw [hw]; rfl, ?_⟩
    exact HM3.out.then (told_set w3 (w.heap.size + 1) _ _ _ _ _ _) (fun i hi e => by omega)

set_option maxRecDepth 100000 in
set_option maxHeartbeats 8000000 in
theorem do_scan_in {w : World} {h : Nat} {st : HSt} {xs : List Itm} {B : List Nat} (hh : HoldI w h st xs B) (k v tk : ByteArray) (most : Nat) (hm40 : most ≤ 40) (hk2 : k.size ≤ 16) (hto : tk.size ≤ 1000000) (hxl : xs.length ≤ 100000)
    (hat : (st.at (addr k)).isSome = true) (hf : (st.shut && inA st.a (addr k)) = false) (hown : ∀ o ∈ st.own, Pt64 o.t) (ha : Pt64 st.a.f) (hlen : st.own.length ≤ 1000000) :
    Calls Tryz.prog 14 #[.pointer (some ⟨h, 0, none⟩), encAsk 4 k v tk most] w fun e w' => ∃ u, e = .returned (encScan u (scanR st k tk most xs).more (scanR st k tk most xs).next) ∧
      w'.ownsRow w.heap.size 43 2 u (scanR st k tk most xs).its.length ((scanR st k tk most xs).its.flatMap encIt) ∧ Mod NoB w w' := by
  have HHI := Lib.hid hh
  obtain ⟨tr, n, hh, ho⟩ := hh
  have HH0 := Lib.hid hh
  clear hh ho
  go_enter Tryz.func14, Tryz.ntmps14
  go_wp2_with fail
  refine (hright_scan k v tk most (by omega) (by omega) hk2 _).mono ?_
  rintro e w1 ⟨rfl, hm1⟩
  obtain ⟨hd1, hm01⟩ := do_in hm1
  obtain ⟨a0, a1, a2, a3, a4⟩ := hd1.ask
  have HD1 := Lib.hid hd1; have HM1 := Lib.hid hm01
  clear hm1 hd1 hm01
  go_wp2_with fail
  refine (addr_any k _).mono ?_
  rintro e w2 ⟨rfl, hww⟩
  rw [hww]
  clear hww w2
  go_wp2_with fail
  refine (hasH_any (HH0.out.mod HM1.out (fun _ _ x => x)) (addr k)).mono ?_
  rintro e w2 ⟨rfl, hm2⟩
  rw [hat]
  have HM2 := Lib.hid (HM1.out.trans hm2)
  have HD2 := Lib.hid (HD1.out.mod hm2 (fun x => x) (fun x => x))
  clear hm2 a0 a1 a2 a3 a4
  go_wp2_with fail
  refine (frozen_any (HH0.out.mod HM2.out (fun _ _ x => x)) (addr k)).mono ?_
  rintro e w3 ⟨rfl, hm3⟩
  rw [hf]
  have HM3 := Lib.hid (HM2.out.trans hm3)
  have hd3 := HD2.out.mod hm3 (fun x => x) (fun x => x)
  obtain ⟨a0, a1, a2, a3, a4⟩ := hd3.ask
  have HD3 := Lib.hid hd3
  clear hm3 hd3
  go_wp2_with fail
  refine (scan_any (HHI.out.mod HM3.out (fun _ _ x => x)) 4 k v tk most (by omega) hto (by omega) hxl hown ha hlen).mono ?_
  rintro e w4 ⟨u, rfl, hrow, hm4⟩
  obtain ⟨av, cap, hu, _⟩ := own_slAt (k := 2) (enc := encIt) (fun _ => rfl) hrow
  obtain ⟨its, more, next, hr⟩ : ∃ its more next, scanR st k tk most xs = ⟨its, more, next⟩ := ⟨_, _, _, rfl⟩
  have HR := Lib.hid hr
  rw [hr] at hu hrow ⊢
  dsimp only at hu hrow ⊢
  clear hr
  subst hu
  have HM4 := Lib.hid (HM3.out.trans hm4)
  have HROW := Lib.hid (own_low hrow HM3.out.size)
  have hd4 := HD3.out.mod hm4 (fun x => x) (fun x => x)
  have HD4 := Lib.hid hd4
  obtain ⟨b0, b1, b2, b3, b4, b5, g0, g1, g2, g3, g4, g5⟩ := hd4.told
  clear hm4 hd4 a0 a1 a2 a3 a4 hrow
  go_wp2_with fail
  obtain ⟨s1, s2, s3, s4⟩ := copy6 (u := .slice av its.length cap) (m := more) (nx := next) HD4.out.2 (by decide) HROW.out (by omega)
  refine bodyPost_ret (v := encScan (.slice av its.length cap) more next) (by simp [results, Tryz.results14, go_sem, *]) rfl ⟨.slice av its.length cap, by rw [HR.out], by rw [HR.out]; exact s2, ?_⟩
  exact HM4.out.then (told_set w4 (w.heap.size + 1) _ _ _ _ _ _) (fun i hi e => by omega)
end Go.Proofs.YtmagddchjidamaaGreatDoor
