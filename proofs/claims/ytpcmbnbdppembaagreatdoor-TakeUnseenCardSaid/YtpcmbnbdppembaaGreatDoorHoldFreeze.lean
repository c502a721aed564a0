/- (*hold.Hold).Freeze of a hold that owns the whole ring as one piece. -/
import Derived.Test.YtpcmbnbdppembaaGreatDoorHoldAll
import Derived.Test.YtpcmbnbdppembaaGreatDoorCollect
import Derived.Deep.RegionHeld3
namespace Go.Proofs.YtpcmbnbdppembaaGreatDoor
set_option linter.unusedSimpArgs false
set_option linter.unusedVariables false
open Go.RowKit Go.Shelf

theorem HoldAt.shelf {w : World} {h : Nat} {st : HSt} {tr : Option Tree} {n : Nat} {B : List Nat} (hh : HoldAt w h st tr n B) : ∃ s L, w.cell? ⟨h, 4, none⟩ = some (.pointer (some ⟨s, 0, none⟩)) ∧ ShelfAt w s st.most tr n L ∧ ∀ k ∈ L, k ∈ B ∧ k ≠ h := by
  obtain ⟨vo, vp, s, L, h1, h2, h3, h4, rfl, h5⟩ := hh
  refine ⟨s, L, cell_of h1 4 rfl, h4, fun k hk => ⟨by simp [hk], fun e => ?_⟩⟩
  subst e
  simp only [List.nodup_cons, List.mem_append, not_or] at h5
  exact h5.1.2 hk

theorem collect_arc {w : World} {s : Nat} {most : Int} {tr : Option Tree} {cnt : Nat} {L : List Nat} {xs : List Itm} (hI : ItemsOK tr xs) (hxl : xs.length ≤ 1000000) {a : Arc} (ha : a.ok) (hsh : ShelfAt w s most tr cnt L) :
    ∀ W, Mod NoB w W → ∀ Bs : Nat, W.cell? ⟨Bs, 0, none⟩ = some (.pointer (some ⟨s, 0, none⟩)) → W.cell? ⟨Bs + 1, 0, none⟩ = some (.int .u64 a.f) → W.cell? ⟨Bs + 1, 1, none⟩ = some (.int .u64 a.t) →
      Calls Tryz.prog 84 #[.func (.func 166) #[] #[.pointer (some ⟨Bs, 0, none⟩), .pointer (some ⟨Bs + 1, 0, none⟩)], .int .i64 200] W fun e w' => ∃ v, e = .returned v ∧
        w'.ownsRow W.heap.size 73 2 v ((arcIts a xs).take 200).length (((arcIts a xs).take 200).flatMap encIt) ∧ Mod NoB W w' := by
  intro W hm Bs h0 h1 h2
  exact collect_any (most := 200) (arc_seq hI hxl ha h0 h1 h2 (hsh.mod hm (fun _ _ x => x))) (enters_of Tryz.func166 (by kernel_rfl) rfl) (by decide) (by decide)

set_option maxRecDepth 100000 in
set_option maxHeartbeats 8000000 in
theorem freeze_whole {w : World} {h : Nat} {st : HSt} {tr : Option Tree} {n : Nat} {B : List Nat} (hh : HoldAt w h st tr n B) {ep : Int} (hw : st.whole ep) (hs : st.shut = false) {a : Arc} (ha : a.ok) {xs : List Itm} (hI : ItemsOK tr xs) (hxl : xs.length ≤ 1000000) :
    Calls Tryz.prog 37 #[.pointer (some ⟨h, 0, none⟩), .agg #[.int .u64 a.f, .int .u64 a.t]] w fun e w' => ∃ v, e = .returned (.tuple #[v, .int .i64 ep, .int .i64 0]) ∧
      w'.ownsRow 0 73 2 v ((arcIts a xs).take 200).length (((arcIts a xs).take 200).flatMap encIt) ∧ (∀ g ∈ ownL v, w.heap.size ≤ g ∧ g ∉ B) ∧ HoldAt w' h { st with shut := true, a := a } tr n B ∧ Turn B w w' B := by
  have HH := Lib.hid hh
  have hlt := hh.lt
  have HLT := Lib.hid hh.lts
  clear hh
  go_enter Tryz.func37, Tryz.ntmps37
  go_wp2_with fail
  refine (garc_any (HH.out.mod ((Mod.refl NoB w).alloc _) (fun _ _ x => x))).mono ?_
  rintro e w1 ⟨rfl, hm1⟩
  rw [hs]
  have HM1 := Lib.hid (((Mod.refl NoB w).alloc (.cells #[.int .u64 a.f, .int .u64 a.t] 25)).trans hm1)
  have ha0 := hm1.cellS (p := ⟨w.heap.size, 0, none⟩) (u := .int .u64 a.f) (by simp)
  have ha1 := hm1.cellS (p := ⟨w.heap.size, 1, none⟩) (u := .int .u64 a.t) (by simp)
  clear hm1
  have hsz1 : w.heap.size < w1.heap.size := cell_lt' ha0
  go_wp2_with fail
  refine (all_whole (HH.out.mod (HM1.out.trans ((Mod.refl NoB w1).alloc _)) (fun _ _ x => x)) hw ha).mono ?_
  rintro e w2 ⟨rfl, hm2⟩
  have hm12 := ((Mod.refl NoB w1).alloc (.cells #[.int .u64 st.a.f, .int .u64 st.a.t] 25)).trans hm2
  have ha0' := hm12.cellS ha0
  have ha1' := hm12.cellS ha1
  have HM2 := Lib.hid (HM1.out.trans hm12)
  have hh2 := HH.out.mod HM2.out (fun _ _ x => x)
  have HH2 := Lib.hid hh2
  obtain ⟨s, L, c4, hsh, hLB⟩ := hh2.shelf
  clear hm2 hm12 hh2 ha0 ha1
  go_wp2_with fail
  have HNB : Hid (w.heap.size ∉ B) := fun hb => by have := HLT.out _ hb; omega
  clear hsh hLB c4
  go_region_held3 (fun W => W.cell? ⟨w.heap.size, 0, none⟩ = some (.int .u64 a.f) ∧ W.cell? ⟨w.heap.size, 1, none⟩ = some (.int .u64 a.t)) (first | go_keep | exact ⟨by assumption, by assumption⟩) ((first
    | (go_at_call 83; refine (gfreeze_any (HH2.out.mod (S := NoB) (by repeat (first | exact Mod.refl _ _ | refine Mod.drew ?_)) (fun _ _ x => x)) hs a).mono ?_; rintro e w3 ⟨rfl, hh3, ht3⟩
       have b0 : w3.cell? ⟨w.heap.size, 0, none⟩ = some (.int .u64 a.f) := (ht3.1.cell (p := ⟨w.heap.size, 0, none⟩) (cell_lt' ha0') HNB.out).trans ha0'
       have b1 : w3.cell? ⟨w.heap.size, 1, none⟩ = some (.int .u64 a.t) := (ht3.1.cell (p := ⟨w.heap.size, 1, none⟩) (cell_lt' ha1') HNB.out).trans ha1'
       have HH3 := Lib.hid hh3; have HT3 := Lib.hid ht3; clear hh3 ht3)))
  obtain ⟨s, L, c4, hsh, hLB⟩ := HH3.out.shelf
  have HSH := Lib.hid hsh
  clear hsh hLB
  have hcol := collect_arc hI hxl ha HSH.out
  go_wp2_with fail
  go_region_held3 (fun W => W.cell? ⟨h, 4, none⟩ = some (.pointer (some ⟨s, 0, none⟩)) ∧ W.cell? ⟨w.heap.size, 0, none⟩ = some (.int .u64 a.f) ∧ W.cell? ⟨w.heap.size, 1, none⟩ = some (.int .u64 a.t)) (first | go_keep | exact ⟨by assumption, by assumption, by assumption⟩) ((first
    | ((fail_if_success (revert M1)); go_at_call 85; refine (arc_make s a _).mono ?_; rintro e w4 ⟨rfl, rfl⟩; have M1 := Lib.hid hs)
    | (go_at_call 84; refine (hcol _ (by repeat (first | exact Mod.refl _ _ | refine Mod.alloc ?_ _ | refine Mod.drew ?_)) _ (by simp) (by simp) (by simp)).mono ?_; rintro e w5 ⟨v, rfl, hr5, hm5⟩
       have hmm : Mod NoB w3 w5 := Mod.trans (by repeat (first | exact Mod.refl _ _ | refine Mod.alloc ?_ _ | refine Mod.drew ?_)) hm5
       have x4 := hmm.cellS c4; have x0 := hmm.cellS b0; have x1 := hmm.cellS b1
       have HR5 := Lib.hid hr5; have HMM := Lib.hid hmm; clear hr5 hm5 hmm)))
  go_wp2_with fail
  refine bodyPost_ret (v := .tuple #[v, .int .i64 ep, .int .i64 0]) (by simp [results, Tryz.results37, go_sem]) rfl ?_
  have hsz : w.heap.size ≤ w3.heap.size := Nat.le_trans HM2.out.size HT3.out.1.size
  have hge : ∀ g ∈ ownL v, w.heap.size ≤ g := fun g hg => by
    have := (HR5.out.lt g (by simpa [ownL] using hg)).1
    simp at this
    omega
  refine ⟨v, rfl, HR5.out.mono (Nat.zero_le _), fun g hg => ⟨hge g hg, fun hb => by have := HLT.out g hb; have := hge g hg; omega⟩, HH3.out.mod HMM.out (fun _ _ x => x), ?_⟩
  exact Turn.trans (B := B) ⟨(HM2.out.mono (fun _ _ x => x.elim)).drew, fun _ hk => .inl hk⟩ (HT3.out.trans ⟨HMM.out.mono (fun _ _ x => x.elim), fun _ hk => .inl hk⟩)
end Go.Proofs.YtpcmbnbdppembaaGreatDoor
