/- (*hold.Hold).Freeze of any arc, at a hold whose pieces are of one epoch. -/
import Derived.Test.YtpcmbnbdppembaaGreatDoorHoldFreeze
import Derived.Test.YtpcmbnbdppembaaGreatDoorHoldAllS
import Derived.Deep.RegionHeld3
namespace Go.Proofs.YtpcmbnbdppembaaGreatDoor
set_option linter.unusedSimpArgs false
set_option linter.unusedVariables false
open Go.RowKit Go.Shelf
attribute [local go_sem ↓] Go.wp_at_zero Go.wp_at_succ

set_option maxRecDepth 100000 in
set_option maxHeartbeats 8000000 in
theorem freeze_same {w : World} {h : Nat} {st : HSt} {tr : Option Tree} {n : Nat} {B : List Nat} (hh : HoldAt w h st tr n B) {ep : Int} (hw : st.same ep) (hs : st.shut = false) {a : Arc} (ha : a.ok) {xs : List Itm} (hI : ItemsOK tr xs) (hxl : xs.length ≤ 1000000) :
    Calls Tryz.prog 37 #[.pointer (some ⟨h, 0, none⟩), .agg #[.int .u64 a.f, .int .u64 a.t]] w fun e w' => 
      (¬ st.covA a ∧ e = .returned (.tuple #[.slice none 0 0, .int .i64 0, .int .i64 1]) ∧ Mod NoB w w') ∨ (st.covA a ∧ ∃ v, e = .returned (.tuple #[v, .int .i64 ep, .int .i64 0]) ∧
      w'.ownsRow 0 73 2 v ((arcIts a xs).take 200).length (((arcIts a xs).take 200).flatMap encIt) ∧ (∀ g ∈ ownL v, w.heap.size ≤ g ∧ g ∉ B) ∧ HoldAt w' h { st with shut := true, a := a } tr n B ∧ Turn B w w' B) := by
  have HH := Lib.hid hh
  have hlt := hh.lt
  have HLT := Lib.hid hh.lts
  clear hh
  go_enter Tryz.func37, Tryz.ntmps37
  go_wp2_with fail
  refine (garc_any (HH.out.mod ((Mod.refl NoB w).alloc _) (fun _ _ x => x))).mono ?_
  rintro e w1 ⟨rfl, hm1⟩
  rw [hs]
  have HM1 := Lib.hid (((Mod.refl NoB w).alloc (.cells #[.int .u64 a.f, .int .u64 a.t] 25)).trans hm1)
  have ha0 := hm1.cellS (p := ⟨w.heap.size, 0, none⟩) (u := .int .u64 a.f) (by simp)
  have ha1 := hm1.cellS (p := ⟨w.heap.size, 1, none⟩) (u := .int .u64 a.t) (by simp)
  clear hm1
  have hsz1 : w.heap.size < w1.heap.size := cell_lt' ha0
  go_wp2_with fail
  refine (all_same (HH.out.mod (HM1.out.trans ((Mod.refl NoB w1).alloc _)) (fun _ _ x => x)) hw ha).mono ?_
  rintro e w2 ⟨ok, hok, rfl, hm2⟩
  cases ok with
  | false =>
    have HNC : Hid (¬ st.covA a) := Lib.hid (fun h => by have := hok.2 h; cases this)
    have HMF := Lib.hid (HM1.out.trans (((Mod.refl NoB w1).alloc (.cells #[.int .u64 st.a.f, .int .u64 st.a.t] 25)).trans hm2))
    clear hm2 hok
    go_wp2_with fail
    refine bodyPost_ret (v := .tuple #[.slice none 0 0, .int .i64 0, .int .i64 1]) (by simp [results, Tryz.results37, go_sem]) rfl ?_
    exact .inl ⟨HNC.out, rfl, HMF.out⟩
  | true =>
  have HC : Hid (st.covA a) := Lib.hid (hok.1 rfl)
  clear hok
  have hm12 := ((Mod.refl NoB w1).alloc (.cells #[.int .u64 st.a.f, .int .u64 st.a.t] 25)).trans hm2
  have ha0' := hm12.cellS ha0
  have ha1' := hm12.cellS ha1
  have HM2 := Lib.hid (HM1.out.trans hm12)
  have hh2 := HH.out.mod HM2.out (fun _ _ x => x)
  have HH2 := Lib.hid hh2
  obtain ⟨s, L, c4, hsh, hLB⟩ := hh2.shelf
  clear hm2 hm12 hh2 ha0 ha1
  go_wp2_with fail
  have HNB : Hid (w.heap.size ∉ B) := fun hb => by have := HLT.out _ hb; omega
  clear hsh hLB c4
  go_region_held3 (fun W => W.cell? ⟨w.heap.size, 0, none⟩ = some (.int .u64 a.f) ∧ W.cell? ⟨w.heap.size, 1, none⟩ = some (.int .u64 a.t)) (first | go_keep | exact ⟨by assumption, by assumption⟩) ((first
    | (go_at_call 83; refine (gfreeze_any (HH2.out.mod (S := NoB) (by repeat (first | exact Mod.refl _ _ | refine Mod.drew ?_)) (fun _ _ x => x)) hs a).mono ?_; rintro e w3 ⟨rfl, hh3, ht3⟩
       have b0 : w3.cell? ⟨w.heap.size, 0, none⟩ = some (.int .u64 a.f) := (ht3.1.cell (p := ⟨w.heap.size, 0, none⟩) (cell_lt' ha0') HNB.out).trans ha0'
       have b1 : w3.cell? ⟨w.heap.size, 1, none⟩ = some (.int .u64 a.t) := (ht3.1.cell (p := ⟨w.heap.size, 1, none⟩) (cell_lt' ha1') HNB.out).trans ha1'
       have HH3 := Lib.hid hh3; have HT3 := Lib.hid ht3; clear hh3 ht3)))
  obtain ⟨s, L, c4, hsh, hLB⟩ := HH3.out.shelf
  have HSH := Lib.hid hsh
  clear hsh hLB
  have hcol := collect_arc hI hxl ha HSH.out
  go_wp2_with fail
  go_region_held3 (fun W => W.cell? ⟨h, 4, none⟩ = some (.pointer (some ⟨s, 0, none⟩)) ∧ W.cell? ⟨w.heap.size, 0, none⟩ = some (.int .u64 a.f) ∧ W.cell? ⟨w.heap.size, 1, none⟩ = some (.int .u64 a.t)) (first | go_keep | exact ⟨by assumption, by assumption, by assumption⟩) ((first
    | ((fail_if_success (revert M1)); go_at_call 85; refine (arc_make s a _).mono ?_; rintro e w4 ⟨rfl, rfl⟩; have M1 := Lib.hid hs)
    | (go_at_call 84; refine (hcol _ (by repeat (first | exact Mod.refl _ _ | refine Mod.alloc ?_ _ | refine Mod.drew ?_)) _ (by simp) (by simp) (by simp)).mono ?_; rintro e w5 ⟨v, rfl, hr5, hm5⟩
       have hmm : Mod NoB w3 w5 := Mod.trans (by repeat (first | exact Mod.refl _ _ | refine Mod.alloc ?_ _ | refine Mod.drew ?_)) hm5
       have x4 := hmm.cellS c4; have x0 := hmm.cellS b0; have x1 := hmm.cellS b1
       have HR5 := Lib.hid hr5; have HMM := Lib.hid hmm; clear hr5 hm5 hmm)))
  go_wp2_with fail
  refine bodyPost_ret (v := .tuple #[v, .int .i64 ep, .int .i64 0]) (by simp [results, Tryz.results37, go_sem]) rfl ?_
  have hsz : w.heap.size ≤ w3.heap.size := Nat.le_trans HM2.out.size HT3.out.1.size
  have hge : ∀ g ∈ ownL v, w.heap.size ≤ g := fun g hg => by
    have := (HR5.out.lt g (by simpa [ownL] using hg)).1
    simp at this
    omega
  refine .inr ⟨HC.out, v, rfl, HR5.out.mono (Nat.zero_le _), fun g hg => ⟨hge g hg, fun hb => by have := HLT.out g hb; have := hge g hg; omega⟩, HH3.out.mod HMM.out (fun _ _ x => x), ?_⟩
  exact Turn.trans (B := B) ⟨(HM2.out.mono (fun _ _ x => x.elim)).drew, fun _ hk => .inl hk⟩ (HT3.out.trans ⟨HMM.out.mono (fun _ _ x => x.elim), fun _ hk => .inl hk⟩)

set_option maxRecDepth 100000 in
set_option maxHeartbeats 8000000 in
theorem freeze_busy {w : World} {h : Nat} {st : HSt} {tr : Option Tree} {n : Nat} {B : List Nat} (hh : HoldAt w h st tr n B) (hs : st.shut = true) (a : Arc) :
    Calls Tryz.prog 37 #[.pointer (some ⟨h, 0, none⟩), .agg #[.int .u64 a.f, .int .u64 a.t]] w fun e w' => e = .returned (.tuple #[.slice none 0 0, .int .i64 0, .int .i64 7]) ∧ Mod NoB w w' := by
  have HH := Lib.hid hh
  clear hh
  go_enter Tryz.func37, Tryz.ntmps37
  go_wp2_with fail
  refine (garc_any (HH.out.mod ((Mod.refl NoB w).alloc _) (fun _ _ x => x))).mono ?_
  rintro e w1 ⟨rfl, hm1⟩
  rw [hs]
  have HM1 := Lib.hid (((Mod.refl NoB w).alloc (.cells #[.int .u64 a.f, .int .u64 a.t] 25)).trans hm1)
  clear hm1
  go_wp2_with fail
  refine bodyPost_ret (v := .tuple #[.slice none 0 0, .int .i64 0, .int .i64 7]) (by simp [results, Tryz.results37, go_sem]) rfl ?_
  exact ⟨rfl, HM1.out.trans (by repeat (first | exact Mod.refl _ _ | refine Mod.alloc ?_ _ | refine Mod.drew ?_))⟩
end Go.Proofs.YtpcmbnbdppembaaGreatDoor
