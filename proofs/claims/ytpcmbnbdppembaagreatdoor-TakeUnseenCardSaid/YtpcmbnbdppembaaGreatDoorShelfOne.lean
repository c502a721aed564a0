/- A shelf of no item, or of one: Get, Put, Del. -/
import Derived.Test.YtpcmbnbdppembaaGreatDoorShelfLeaf
import Derived.Deep.RegionHeld3
import Derived.BigRegion
import Derived.Deep.RegionLaw
import Derived.Deep.AppendLies
import Derived.Deep.DrawnRows
namespace Go.Proofs.YtpcmbnbdppembaaGreatDoor
set_option linter.unusedSimpArgs false
set_option linter.unusedVariables false
open Go.RowKit
attribute [local go_sem ↓] Go.wp_at_zero Go.wp_at_succ

theorem place_nil {w : World} {b : Nat} {L : List Nat} (h : TreeAt w b (.mk [] []) L) (k : ByteArray) :
    Calls Tryz.prog 194 #[.pointer (some ⟨b, 0, none⟩), .string k] w fun e w' => e = .returned (.tuple #[.int .i64 0, .bool false]) ∧ w' = w := by
  unfold TreeAt at h
  obtain ⟨v, u, bs, Ls, h1, h2, h3, h4, rfl⟩ := h
  have c0 : w.cell? ⟨b, 0, none⟩ = some v := cell_of h1 0 rfl
  have hu : ∃ a cap, v = .slice a 0 cap := by
    rcases h2.2 with ⟨rfl, e⟩ | ⟨g, cap, cur, rfl, _⟩
    · exact ⟨none, 0, rfl⟩
    · exact ⟨_, cap, rfl⟩
  obtain ⟨a, cap, rfl⟩ := hu
  clear h1 h2 h3 h4
  go_enter Tryz.func194, Tryz.ntmps194
  go_wp2_with fail
  go_step3
  go_wp2_with fail
  go_step3
  go_wp2_with fail
  go_loopw [6, 7, 20] (fun at_ is i wr => at_ = .int .i64 0 ∧ is = .bool false ∧ i = .int .i64 0 ∧ wr = w) (fun _ _ _ _ => 0)
  case atStart => exact ⟨rfl, rfl, rfl, rfl⟩
  case round =>
    obtain ⟨rfl, rfl, rfl, rfl⟩ := hrel
    go_wp2_with fail
    rw [Exit.noGoto_ret]
    go_ret2
    exact ⟨rfl, rfl⟩

theorem place_one {w : World} {b : Nat} {L : List Nat} {x : Itm} (h : TreeAt w b (.mk [x] []) L) :
    Calls Tryz.prog 194 #[.pointer (some ⟨b, 0, none⟩), .string x.1] w fun e w' => e = .returned (.tuple #[.int .i64 0, .bool true]) ∧ Mod NoB w w' := by
  unfold TreeAt at h
  obtain ⟨v, u, bs, Ls, h1, h2, h3, h4, rfl⟩ := h
  have c0 : w.cell? ⟨b, 0, none⟩ = some v := cell_of h1 0 rfl
  have hsl := own_slAt (k := 2) (enc := encIt) (fun _ => rfl) h2
  obtain ⟨b', o', cap, rfl, hb', p0, p1⟩ := at2 hsl (i := 0) rfl
  simp only [Nat.zero_mul, Nat.add_zero] at p0 p1
  clear h1 h2 h3 h4 hsl
  have hbeq : (x.1 == x.1) = true := by rw [beqd]; simp
  go_enter Tryz.func194, Tryz.ntmps194
  go_wp2_with fail
  go_step3
  go_wp2_with fail
  go_step3
  go_wp2_with fail
  go_loopw [6, 7, 20] (fun at_ is i wr => at_ = .int .i64 1 ∧ is = .bool false ∧ i = .int .i64 0 ∧ wr = w) (fun _ _ _ _ => 0)
  case atStart => exact ⟨rfl, rfl, rfl, rfl⟩
  case round =>
    obtain ⟨rfl, rfl, rfl, rfl⟩ := hrel
    go_wp2_with fail
    rw [Exit.noGoto_ret]
    go_ret2
    exact ⟨rfl, (Mod.refl _ _).alloc _⟩

theorem find_none {w : World} {s : Nat} {most : Int} {n : Nat} {L : List Nat} (h : ShelfAt w s most none n L) (k : ByteArray) :
    Calls Tryz.prog 146 #[.pointer (some ⟨s, 0, none⟩), .string k] w fun e w' => e = .returned (.tuple #[.pointer none, .int .i64 0]) ∧ w' = w := by
  unfold ShelfAt at h
  obtain ⟨h1, rfl⟩ := h
  have c2 : w.cell? ⟨s, 2, none⟩ = some (.pointer none) := cell_of h1 2 rfl
  clear h1
  go_enter Tryz.func146, Tryz.ntmps146
  go_wp2_with fail
  go_step3
  go_wp2_with fail
  go_step3
  go_wp2_with fail
  go_loopw [6] (fun x wr => x = .pointer none ∧ wr = w) (fun _ _ => 0)
  case atStart => exact ⟨rfl, rfl⟩
  case round =>
    obtain ⟨rfl, rfl⟩ := hrel
    go_wp2_with fail
    rw [Exit.noGoto_ret]
    go_ret2
    exact ⟨rfl, rfl⟩

/-- what Get gives of a tree -/
def GetOK (tr : Option Tree) (k : ByteArray) (r : Option ByteArray) : Prop := ∀ (w : World) (s : Nat) (most : Int) (n : Nat) (L : List Nat), ShelfAt w s most tr n L →
  Calls Tryz.prog 58 #[.pointer (some ⟨s, 0, none⟩), .string k] w fun e w' => e = .returned (.tuple #[.string (r.getD ⟨#[]⟩), .bool r.isSome]) ∧ Mod NoB w w'

theorem get_none (k : ByteArray) : GetOK none k none := by
  intro w s most n L h
  have H := Lib.hid h
  clear h
  go_enter Tryz.func58, Tryz.ntmps58
  go_wp2_with fail
  refine (find_none H.out k).mono ?_
  rintro e w1 ⟨rfl, rfl⟩
  go_wp2_with fail
  go_ret2
  exact ⟨rfl, Mod.refl _ _⟩

set_option maxRecDepth 100000 in
set_option maxHeartbeats 4000000 in
theorem insert_nil {w : World} {g : Nat} {x : Itm} (hg : w.heap[g]? = some (.cells (encIt x).toArray 73 (0, 0))) :
    Calls Tryz.prog 209 #[.slice none 0 0, .int .i64 0, .slice (some ⟨g, 0, none⟩) 1 1] w fun e w' => ∃ c cap, e = .returned (.slice (some ⟨c, 0, none⟩) 1 cap) ∧ w'.ownsRow 0 73 2 (.slice (some ⟨c, 0, none⟩) 1 cap) 1 (encIt x) ∧ Mod NoB w w' ∧ w.heap.size ≤ c := by
  obtain ⟨i0, z0, hi, hz0, hz1, hz2, hz3⟩ := itInfo_parts
  have HG := Lib.hid hg
  clear hg
  go_enter Tryz.func209, Tryz.ntmps209
  go_wp2_with (at_builtin; go_loud (refine wpList_append_lies _ rfl _ _ 22 rfl 0 73 i0 z0 2 i0.bytes tyIts hi hz0 hz1 rfl hz2 (by decide) _ 0 [] rfl (World.ownsRow_nil _ _ _ _) ⟨g, 0, none⟩ 1 1 (encIt x) rfl rfl (by intro j u hu; exact newsIt HG.out hu) (by intro u hu; exact oneIt hu) (by decide) (by decide) (by exact Nat.le_trans (Nat.mul_le_mul (Nat.le_refl 1) hz3) (by decide)) (Nat.zero_le _) _ rfl ?_; intro c cap w3 hown hgrow hat hlt3; have G1 := Lib.hid hown; have G2 := Lib.hid hgrow; have G3 := Lib.hid hat; clear hown hgrow hat))
  go_ret
  have hn : (Value.slice none 0 0).ownBlock = none := rfl
  refine ⟨c, cap, rfl, by simpa using G1.out, ?_, ?_⟩
  · have h := G2.out
    exact ⟨h.os, h.tape, h.output, h.size, fun k hk _ => h.block k hk (by show some k ≠ none; simp)⟩
  · rcases G3.out with e | e
    · cases e
    · exact Nat.le_of_eq e.symm

theorem heap_mid (W : World) (o1 o2 o3 : Obj) : (((W.alloc o1).alloc o2).alloc o3).heap[W.heap.size + 1]? = some o2 := by
  rw [Below.heap_alloc _ _ _ (by simp)]
  have := heap_alloc_new (W.alloc o1) o2
  simpa using this
theorem mid_cell (W : World) (o1 o3 : Obj) (cs : Array Value) (e : TypeId) {i : Nat} {v : Value} (h : cs[i]? = some v) : (((W.alloc o1).alloc (.cells cs e)).alloc o3).cell? ⟨W.heap.size + 1, i, none⟩ = some v :=
  cell_of (heap_mid W o1 (.cells cs e) o3) i h
theorem mid_frozen (W : World) (o1 o3 : Obj) (cs : Array Value) (e : TypeId) (i : Nat) : (((W.alloc o1).alloc (.cells cs e)).alloc o3).frozen? ⟨W.heap.size + 1, i, none⟩ = false :=
  frozen_of (heap_mid W o1 (.cells cs e) o3) i

theorem heap_three (W : World) (o1 o2 o3 : Obj) : (((W.alloc o1).alloc o2).alloc o3).heap[W.heap.size + 2]? = some o3 := by
  have := heap_alloc_new ((W.alloc o1).alloc o2) o3
  simpa using this

theorem tree_put {w w3 : World} {b c cap : Nat} {x : Itm} {u1 u2 : Value} (hb : w.heap[b]? = some (.cells #[.slice none 0 0, .slice none 0 0] 190 (0, 0))) (hm : Mod NoB w w3)
    (hr : w3.ownsRow 0 73 2 (.slice (some ⟨c, 0, none⟩) 1 cap) 1 (encIt x)) (hc : w.heap.size + 2 ≤ c) (hlt : b < w.heap.size) :
    TreeAt (((w3.setCell ⟨b, 0, none⟩ (.slice (some ⟨c, 0, none⟩) 1 cap)).setCell ⟨w.heap.size + 1, 0, none⟩ u1).setCell ⟨w.heap.size + 1, 1, none⟩ u2) b (.mk [x] []) [b, c] := by
  unfold TreeAt
  have h3 : w3.heap[b]? = some (.cells #[.slice none 0 0, .slice none 0 0] 190 (0, 0)) := by rw [hm.block b hlt (fun x => x)]; exact hb
  have hM : Mod (fun k => k = b ∨ k = w.heap.size + 1) w3 (((w3.setCell ⟨b, 0, none⟩ (.slice (some ⟨c, 0, none⟩) 1 cap)).setCell ⟨w.heap.size + 1, 0, none⟩ u1).setCell ⟨w.heap.size + 1, 1, none⟩ u2) :=
    (((Mod.refl _ _).setCell (by intro _; exact .inl rfl) _).setCell (by intro _; exact .inr rfl) _).setCell (by intro _; exact .inr rfl) _
  refine ⟨.slice (some ⟨c, 0, none⟩) 1 cap, .slice none 0 0, [], [], ?_, ?_, World.ownsRow_nil _ _ _ _, by unfold TreesAt; rfl, rfl⟩
  · rw [heap_set_other (by omega), heap_set_other (by omega)]
    have := heap_set h3 0 (.slice (some ⟨c, 0, none⟩) 1 cap)
    simpa using this
  · refine own_mod' hr hM (fun k hk => ?_)
    simp [ownL, Value.ownBlock] at hk
    rintro (e | e) <;> omega

set_option maxRecDepth 100000 in
set_option maxHeartbeats 8000000 in
/-- put into a fresh leaf -/
theorem nput_nil {w : World} {b : Nat} (x : Itm) (hb : w.heap[b]? = some (.cells #[.slice none 0 0, .slice none 0 0] 190 (0, 0))) :
    Calls Tryz.prog 190 #[.pointer (some ⟨b, 0, none⟩), .agg #[.string x.1, .string x.2]] w fun e w' => e = .returned (.tuple #[.agg #[.string ⟨#[]⟩, .string ⟨#[]⟩], .pointer none]) ∧
      ∃ c, TreeAt w' b (.mk [x] []) [b, c] ∧ Mod (· = b) w w' ∧ w.heap.size ≤ c := by
  have hlt : b < w.heap.size := (Array.getElem?_eq_some_iff.1 hb).1
  have hne : b ≠ w.heap.size := by omega
  have hne1 : b ≠ w.heap.size + 1 := by omega
  have hne2 : b ≠ w.heap.size + 1 + 1 := by omega
  have c0a : ∀ o1 o2 o3 : Obj, (((w.alloc o1).alloc o2).alloc o3).cell? ⟨b, 0, none⟩ = some (.slice none 0 0) := fun o1 o2 o3 => ((((Mod.refl NoB w).alloc o1).alloc o2).alloc o3).cellS (cell_of hb 0 rfl)
  have c0 : w.cell? ⟨b, 0, none⟩ = some (.slice none 0 0) := cell_of hb 0 rfl
  have f0 := frozen_of hb 0
  have ht : TreeAt w b (.mk [] []) [b] := by
    unfold TreeAt
    exact ⟨_, _, [], [], hb, World.ownsRow_nil _ _ _ _, World.ownsRow_nil _ _ _ _, by unfold TreesAt; rfl, rfl⟩
  have HT := Lib.hid ht
  have HB := Lib.hid hb
  clear ht hb
  go_enter Tryz.func190, Tryz.ntmps190
  go_wp2_with fail
  refine (place_nil (HT.out.mod (S := NoB) (by repeat (first | exact Mod.refl _ _ | refine Mod.alloc ?_ _ | refine Mod.drew ?_)) (fun _ _ x => x)) x.1).mono ?_
  rintro e w1 ⟨rfl, rfl⟩
  go_wp2_with fail
  refine (leaf_any (HT.out.mod (S := NoB) (by repeat (first | exact Mod.refl _ _ | refine Mod.alloc ?_ _ | refine Mod.drew ?_)) (fun _ _ x => x))).mono ?_
  rintro e w1 ⟨rfl, rfl⟩
  go_wp2_with fail
  go_region_law ((go_simp; go_at_call 209; go_loud (refine (insert_nil (g := w.heap.size + 1 + 1) (x := x) (by exact heap_three _ _ _ _)).mono ?_; rintro e w3 ⟨c, cap, rfl, hr, hm, hc⟩; have hmw : Mod NoB w w3 := Mod.trans (by repeat (first | exact Mod.refl _ _ | refine Mod.alloc ?_ _ | refine Mod.drew ?_)) hm; have k0 := hmw.cellS c0; have kf := (hmw.frozen (p := ⟨b, 0, none⟩) hlt (fun x => x)).trans f0; have r0 := hm.cellS (p := ⟨w.heap.size + 1, 0, none⟩) (u := .string ⟨#[]⟩) (mid_cell _ _ _ _ _ rfl); have r1 := hm.cellS (p := ⟨w.heap.size + 1, 1, none⟩) (u := .string ⟨#[]⟩) (mid_cell _ _ _ _ _ rfl); have rf0 : w3.frozen? ⟨w.heap.size + 1, 0, none⟩ = false := (hm.frozen (p := ⟨w.heap.size + 1, 0, none⟩) (by simp) (fun x => x)).trans (mid_frozen _ _ _ _ _ _); have rf1 : w3.frozen? ⟨w.heap.size + 1, 1, none⟩ = false := (hm.frozen (p := ⟨w.heap.size + 1, 1, none⟩) (by simp) (fun x => x)).trans (mid_frozen _ _ _ _ _ _); have HR := Lib.hid hr; have HM := Lib.hid hmw; have HC := Lib.hid (Nat.le_trans (show w.heap.size + 2 ≤ _ by simp) hc); clear hr hm hmw hc)))
  all_goals
    go_wp2_with fail
    refine bodyPost_ret (v := .tuple #[.agg #[.string ⟨#[]⟩, .string ⟨#[]⟩], .pointer none]) (by simp [results, Tryz.results190, go_sem, *]) rfl ⟨rfl, c, ?_, ?_, by have := HC.out; omega⟩
    · exact tree_put HB.out HM.out HR.out HC.out hlt
    · refine Mod.setCell (Mod.setCell (Mod.setCell (HM.out.mono (fun _ _ x => x.elim)) (by intro _; rfl) _) (fun h => absurd h (by simp)) _) (fun h => absurd h (by simp)) _
end Go.Proofs.YtpcmbnbdppembaaGreatDoor
