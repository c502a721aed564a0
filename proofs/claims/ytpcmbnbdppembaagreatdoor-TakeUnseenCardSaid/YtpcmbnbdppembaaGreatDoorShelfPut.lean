/- (*shelf.Shelf).Put into a shelf of no item. -/
import Derived.Test.YtpcmbnbdppembaaGreatDoorShelfOne
import Derived.Test.YtpcmbnbdppembaaGreatDoorLayClone
import Derived.Shelf.Strconv.Clone
import Derived.Deep.QuietTactic
import Derived.BigQuiet
namespace Go.Proofs.YtpcmbnbdppembaaGreatDoor
set_option linter.unusedSimpArgs false
set_option linter.unusedVariables false
open Go.RowKit Go.Shelf
attribute [local go_sem ↓] Go.wp_at_zero Go.wp_at_succ

theorem clone_any (s : ByteArray) (w : World) (hs : s.size ≤ 1000) : Calls Tryz.prog 189 #[.string s] w fun e w' => e = .returned (.string s) ∧ Mod NoB w w' := by
  have hc := fun W : World => Any.stringslite_Clone Tryz.clone s W (by omega)
  change ∀ W, Calls Tryz.prog 208 _ W _ at hc
  go_enter Tryz.func189, Tryz.ntmps189
  go_wp2_with (go_at_call 208; refine (hc _).mono ?_; rintro e w' ⟨rfl, hb⟩)
  go_ret
  exact ⟨rfl, Mod.ofBelow hb⟩

theorem right_ok (k : ByteArray) (w : World) (h1 : 1 ≤ k.size) (h2 : k.size ≤ 16) : Calls Tryz.prog 138 #[.string k] w fun e w' => e = .returned (.int .i64 0) ∧ w' = w := by
  have hne : (k == ⟨#[]⟩) = false := by rw [beqd]; exact decide_eq_false (fun e => by rw [e] at h1; simp [ByteArray.size] at h1)
  have hz : ¬ (16 : Int) < (k.size : Int) := by omega
  have hl : ¬ k.toList = [] := fun e => by
    have := congrArg List.length e
    rw [Lib.toList_data] at this
    have h3 : k.size = k.data.toList.length := rfl
    rw [this, List.length_nil] at h3
    omega
  have hi : k.toList.isEmpty = false := by simpa using hl
  go_enter Tryz.func138, Tryz.ntmps138
  go_wp2
  all_goals (go_ret; exact ⟨rfl, rfl⟩)

theorem value_ok (v : ByteArray) (w : World) (h2 : v.size ≤ 16) : Calls Tryz.prog 140 #[.string v] w fun e w' => e = .returned (.int .i64 0) ∧ w' = w := by
  have hz : ¬ (16 : Int) < (v.size : Int) := by omega
  go_enter Tryz.func140, Tryz.ntmps140
  go_wp2
  all_goals (go_ret; exact ⟨rfl, rfl⟩)

theorem put_end {w w7 w8 : World} {s b c t : Nat} {most : Int} {tr : Tree} (hS : w7.heap[s]? = some (.cells #[.int .i64 most, .int .i64 0, .pointer (some ⟨b, 0, none⟩)] 192 (0, 0))) (hT : TreeAt w7 b tr [b, c]) (hM : Mod (· = s) w w7)
    (h8 : Mod (· = t) w7 w8) (hs : t ≠ s) (hb : t ≠ b) (hc : t ≠ c) (ht : w.heap.size ≤ t) :
    w8.heap[s]? = some (.cells #[.int .i64 most, .int .i64 0, .pointer (some ⟨b, 0, none⟩)] 192 (0, 0)) ∧ TreeAt w8 b tr [b, c] ∧ Mod (· = s) w w8 := by
  refine ⟨?_, hT.mod h8 (fun k hk => ?_), hM.then h8 (fun k hk e => by omega)⟩
  · rw [h8.block s (Array.getElem?_eq_some_iff.1 hS).1 (fun e => hs e.symm)]
    exact hS
  · simp at hk
    rcases hk with rfl | rfl
    · exact fun e => hb e.symm
    · exact fun e => hc e.symm

theorem new_cell (W : World) (cs : Array Value) (e : TypeId) {i : Nat} {v : Value} (h : cs[i]? = some v) : (W.alloc (.cells cs e)).cell? ⟨W.heap.size, i, none⟩ = some v := cell_of (heap_alloc_new W _) i h
theorem new_frozen (W : World) (cs : Array Value) (e : TypeId) (i : Nat) : (W.alloc (.cells cs e)).frozen? ⟨W.heap.size, i, none⟩ = false := frozen_of (heap_alloc_new W _) i
theorem new_lt (W : World) (o : Obj) : W.heap.size < (W.alloc o).heap.size := by simp

set_option maxRecDepth 100000 in
set_option maxHeartbeats 8000000 in
theorem sput_none {w : World} {s : Nat} {most : Int} {L : List Nat} (h : ShelfAt w s most none 0 L) (k v : ByteArray) (hk1 : 1 ≤ k.size) (hk2 : k.size ≤ 16) (hv : v.size ≤ 16) (hm : 0 < most) :
    Calls Tryz.prog 141 #[.pointer (some ⟨s, 0, none⟩), .string k, .string v] w fun e w' => e = .returned (.int .i64 0) ∧
      ∃ L', ShelfAt w' s most (some (.mk [(k, v)] [])) 1 L' ∧ L'.Nodup ∧ Mod (· = s) w w' ∧ (∀ g ∈ L', g = s ∨ w.heap.size ≤ g) := by
  have HS := Lib.hid h
  unfold ShelfAt at h
  obtain ⟨h1, rfl⟩ := h
  have hlt : s < w.heap.size := (Array.getElem?_eq_some_iff.1 h1).1
  have c0 : w.cell? ⟨s, 0, none⟩ = some (.int .i64 most) := cell_of h1 0 rfl
  have c1 : w.cell? ⟨s, 1, none⟩ = some (.int .i64 0) := cell_of h1 1 rfl
  have c2 : w.cell? ⟨s, 2, none⟩ = some (.pointer none) := cell_of h1 2 rfl
  have f1 := frozen_of h1 1
  have f2 := frozen_of h1 2
  have H1 := Lib.hid h1
  clear h1
  go_enter Tryz.func141, Tryz.ntmps141
  go_wp2_with fail
  refine (right_ok k _ hk1 hk2).mono ?_
  rintro e w1 ⟨rfl, hww⟩
  rw [hww]
  clear hww
  go_wp2_with fail
  refine (value_ok v _ hv).mono ?_
  rintro e w1 ⟨rfl, hww⟩
  rw [hww]
  clear hww
  go_wp2_with fail
  refine (clone_any v _ (by omega)).mono ?_
  rintro e w2 ⟨rfl, hm2⟩
  have d0 := hm2.cellS c0
  have d1 := hm2.cellS c1
  have d2 := hm2.cellS c2
  have g1 : w2.frozen? ⟨s, 1, none⟩ = false := (hm2.frozen (p := ⟨s, 1, none⟩) hlt (fun x => x)).trans f1
  have g2 : w2.frozen? ⟨s, 2, none⟩ = false := (hm2.frozen (p := ⟨s, 2, none⟩) hlt (fun x => x)).trans f2
  have hlt2 : s < w2.heap.size := Nat.lt_of_lt_of_le hlt hm2.size
  have hne2 : s ≠ w2.heap.size := by omega
  have HM2 := Lib.hid hm2
  clear hm2
  go_wp2_with fail
  refine (find_none (HS.out.mod HM2.out (fun _ _ x => x)) k).mono ?_
  rintro e w3 ⟨rfl, rfl⟩
  have hmm : ¬ most ≤ 0 := by omega
  go_wp2_with fail
  go_quiet (fail)
  have hd4 : Mod NoB w3 (w3.drewN nq) := (Mod.refl _ _).drewN _
  have e1 := hd4.cellS d1
  have e2 := hd4.cellS d2
  have fe1 : (w3.drewN nq).frozen? ⟨s, 1, none⟩ = false := g1
  have fe2 : (w3.drewN nq).frozen? ⟨s, 2, none⟩ = false := g2
  have hne4 : s ≠ (w3.drewN nq).heap.size := hne2
  have hlt4 : s < (w3.drewN nq).heap.size := hlt2
  have HM4 := Lib.hid (HM2.out.trans hd4)
  clear hd4
  generalize w3.drewN nq = w4 at *
  clear d0 d1 d2 g1 g2 hne2 hlt2
  go_wp2_with fail
  obtain ⟨b, hb⟩ : ∃ b, b = w4.heap.size := ⟨_, rfl⟩
  have HS4 : Hid (w4.heap[s]? = some (.cells #[.int .i64 most, .int .i64 0, .pointer none] 192 (0, 0))) := by
    have := H1.out
    rw [← HM4.out.block s hlt (fun x => x)] at this
    exact this
  rw [← hb]
  have hS5 : ((w4.setCell ⟨s, 2, none⟩ (.pointer (some ⟨b, 0, none⟩))).alloc (.cells #[.slice none 0 0, .slice none 0 0] 190)).heap[s]? = some (.cells #[.int .i64 most, .int .i64 0, .pointer (some ⟨b, 0, none⟩)] 192 (0, 0)) := by
    refine (Below.heap_alloc _ _ _ (by simpa [World.setCell] using hlt4)).trans ?_
    have := heap_set HS4.out 2 (.pointer (some ⟨b, 0, none⟩))
    simpa using this
  have hB5 : ((w4.setCell ⟨s, 2, none⟩ (.pointer (some ⟨b, 0, none⟩))).alloc (.cells #[.slice none 0 0, .slice none 0 0] 190)).heap[b]? = some (.cells #[.slice none 0 0, .slice none 0 0] 190 (0, 0)) := by
    have := heap_alloc_new (w4.setCell ⟨s, 2, none⟩ (.pointer (some ⟨b, 0, none⟩))) (.cells #[.slice none 0 0, .slice none 0 0] 190)
    rw [hb]
    simpa [World.setCell, hb] using this
  have hM5 : Mod (· = s) w ((w4.setCell ⟨s, 2, none⟩ (.pointer (some ⟨b, 0, none⟩))).alloc (.cells #[.slice none 0 0, .slice none 0 0] 190)) :=
    ((HM4.out.mono (fun _ _ x => x.elim)).setCell (by intro _; rfl) _).alloc _
  have hsb : s ≠ b := by omega
  have hwb : w.heap.size ≤ b := by have := HM4.out.size; omega
  generalize (w4.setCell ⟨s, 2, none⟩ (.pointer (some ⟨b, 0, none⟩))).alloc (.cells #[.slice none 0 0, .slice none 0 0] 190) = w5 at *
  have x2 : w5.cell? ⟨s, 2, none⟩ = some (.pointer (some ⟨b, 0, none⟩)) := cell_of hS5 2 rfl
  have S5 := Lib.hid hS5; have B5 := Lib.hid hB5; have M5 := Lib.hid hM5; have WB := Lib.hid hwb
  clear hS5 hB5 hM5 hwb e1 e2 fe1 fe2 hne4 hlt4 hb
  have hns5 : w5.heap.size ≠ s := by have := (Array.getElem?_eq_some_iff.1 S5.out).1; omega
  go_region_held3 (fun W => W.cell? ⟨s, 2, none⟩ = some (.pointer (some ⟨b, 0, none⟩))) (first | go_keep | assumption) ((first
    | ((fail_if_success (revert T6)); go_at_call 189; refine (clone_any k _ (by omega)).mono ?_; rintro e w6 ⟨rfl, hm6'⟩
       have hm6 : Mod NoB w5 w6 := Mod.trans (by repeat (first | exact Mod.refl _ _ | refine Mod.alloc ?_ _ | refine Mod.drew ?_)) hm6'
       have y2 : w6.cell? ⟨s, 2, none⟩ = some (.pointer (some ⟨b, 0, none⟩)) := hm6.cellS x2
       have S6 := Lib.hid ((hm6.block s (Array.getElem?_eq_some_iff.1 S5.out).1 (fun x => x)).trans S5.out)
       have T6 := Lib.hid ((hm6.block b (Array.getElem?_eq_some_iff.1 B5.out).1 (fun x => x)).trans B5.out)
       have L6 := Lib.hid hm6.size
       have L6' := Lib.hid hm6'.size
       have M6 := Lib.hid (M5.out.then (S := (· = s)) hm6 (fun _ _ x => x.elim))
       try (have q0 : w6.cell? ⟨w5.heap.size, 0, none⟩ = some (.string ⟨#[]⟩) := hm6'.cellS (new_cell w5 #[.string ⟨#[]⟩, .string ⟨#[]⟩] 73 rfl))
       try (have qf0 : w6.frozen? ⟨w5.heap.size, 0, none⟩ = false := (hm6'.frozen (p := ⟨w5.heap.size, 0, none⟩) (new_lt w5 (.cells #[.string ⟨#[]⟩, .string ⟨#[]⟩] 73)) (fun x => x)).trans (new_frozen w5 #[.string ⟨#[]⟩, .string ⟨#[]⟩] 73 0))
       try (have q1 : w6.cell? ⟨w5.heap.size, 1, none⟩ = some (.string ⟨#[]⟩) := hm6'.cellS (new_cell w5 #[.string ⟨#[]⟩, .string ⟨#[]⟩] 73 rfl))
       try (have qf1 : w6.frozen? ⟨w5.heap.size, 1, none⟩ = false := (hm6'.frozen (p := ⟨w5.heap.size, 1, none⟩) (new_lt w5 (.cells #[.string ⟨#[]⟩, .string ⟨#[]⟩] 73)) (fun x => x)).trans (new_frozen w5 #[.string ⟨#[]⟩, .string ⟨#[]⟩] 73 1))
       have hns6 : w6.heap.size ≠ s := by have := (Array.getElem?_eq_some_iff.1 S6.out).1; omega
       clear hm6 hm6')
    | (go_at_call 190; refine (nput_nil (k, v) (by first | exact T6.out | exact (Below.heap_alloc _ _ _ (Array.getElem?_eq_some_iff.1 T6.out).1).trans T6.out)).mono ?_; rintro e w7 ⟨rfl, c, ht7, hm7', hc7'⟩
       have hx6 : Mod (· = b) w6 _ := Mod.trans (by repeat (first | exact Mod.refl _ _ | refine Mod.alloc ?_ _ | refine Mod.drew ?_)) hm7'
       have hm7 := hx6
       have hc7 : w6.heap.size ≤ c := Nat.le_trans (by first | exact Nat.le_refl _ | simp) hc7'
       have z2 : w7.cell? ⟨s, 2, none⟩ = some (.pointer (some ⟨b, 0, none⟩)) := (hm7.cell (p := ⟨s, 2, none⟩) (cell_lt' y2) hsb).trans y2
       have S7 := Lib.hid ((hm7.block s (Array.getElem?_eq_some_iff.1 S6.out).1 hsb).trans S6.out)
       have M7 := Lib.hid (M6.out.then (S := (· = s)) hm7 (fun k hk e => by have := WB.out; omega))
       have T7 := Lib.hid ht7; have C7 := Lib.hid (Nat.le_trans M6.out.size hc7); have L7 := Lib.hid hc7
       have hb5 : w5.heap.size ≠ b := by have := (Array.getElem?_eq_some_iff.1 B5.out).1; omega
       have hb6 : w6.heap.size ≠ b := by have := (Array.getElem?_eq_some_iff.1 T6.out).1; omega
       try (have r0 : w7.cell? ⟨w6.heap.size, 0, none⟩ = some (.string ⟨#[]⟩) := (hm7'.cell (p := ⟨w6.heap.size, 0, none⟩) (new_lt w6 (.cells #[.string ⟨#[]⟩, .string ⟨#[]⟩] 73)) hb6).trans (new_cell w6 #[.string ⟨#[]⟩, .string ⟨#[]⟩] 73 rfl))
       try (have rf0 : w7.frozen? ⟨w6.heap.size, 0, none⟩ = false := (hm7'.frozen (p := ⟨w6.heap.size, 0, none⟩) (new_lt w6 (.cells #[.string ⟨#[]⟩, .string ⟨#[]⟩] 73)) hb6).trans (new_frozen w6 #[.string ⟨#[]⟩, .string ⟨#[]⟩] 73 0))
       try (have s0 : w7.cell? ⟨w5.heap.size, 0, none⟩ = some (.string ⟨#[]⟩) := (hm7.cell (p := ⟨w5.heap.size, 0, none⟩) (cell_lt' q0) hb5).trans q0)
       try (have sf0 : w7.frozen? ⟨w5.heap.size, 0, none⟩ = false := (hm7.frozen (p := ⟨w5.heap.size, 0, none⟩) (cell_lt' q0) hb5).trans qf0)
       try (have r1 : w7.cell? ⟨w6.heap.size, 1, none⟩ = some (.string ⟨#[]⟩) := (hm7'.cell (p := ⟨w6.heap.size, 1, none⟩) (new_lt w6 (.cells #[.string ⟨#[]⟩, .string ⟨#[]⟩] 73)) hb6).trans (new_cell w6 #[.string ⟨#[]⟩, .string ⟨#[]⟩] 73 rfl))
       try (have rf1 : w7.frozen? ⟨w6.heap.size, 1, none⟩ = false := (hm7'.frozen (p := ⟨w6.heap.size, 1, none⟩) (new_lt w6 (.cells #[.string ⟨#[]⟩, .string ⟨#[]⟩] 73)) hb6).trans (new_frozen w6 #[.string ⟨#[]⟩, .string ⟨#[]⟩] 73 1))
       try (have s1 : w7.cell? ⟨w5.heap.size, 1, none⟩ = some (.string ⟨#[]⟩) := (hm7.cell (p := ⟨w5.heap.size, 1, none⟩) (cell_lt' q1) hb5).trans q1)
       try (have sf1 : w7.frozen? ⟨w5.heap.size, 1, none⟩ = false := (hm7.frozen (p := ⟨w5.heap.size, 1, none⟩) (cell_lt' q1) hb5).trans qf1)
       have hns7 : w7.heap.size ≠ s := by have := (Array.getElem?_eq_some_iff.1 S7.out).1; omega
       have X7 := Lib.hid hc7'
       have L56 := Lib.hid hb5
       clear hm7 ht7 hc7 hm7' hc7' hx6)))
  all_goals
    have hc7 : b < w6.heap.size := (Array.getElem?_eq_some_iff.1 T6.out).1
    have hb5' : b < w5.heap.size := (Array.getElem?_eq_some_iff.1 B5.out).1
    have hs5' : s < w5.heap.size := (Array.getElem?_eq_some_iff.1 S5.out).1
    first
    | (obtain ⟨w8, hw8⟩ : ∃ w8, w8 = (w7.setCell ⟨w6.heap.size, 0, none⟩ (.string ⟨#[]⟩)).setCell ⟨w6.heap.size, 1, none⟩ (.string ⟨#[]⟩) := ⟨_, rfl⟩
       rw [← hw8]
       have h8 := put_end (t := w6.heap.size) S7.out T7.out M7.out (w8 := w8) (by rw [hw8]; exact ((Mod.refl _ _).setCell (by intro _; rfl) _).setCell (by intro _; rfl) _) hns6 hb6 (by have := X7.out; simp at this; omega) (by have := M6.out.size; omega))
    | (obtain ⟨w8, hw8⟩ : ∃ w8, w8 = (w7.setCell ⟨w5.heap.size, 0, none⟩ (.string ⟨#[]⟩)).setCell ⟨w5.heap.size, 1, none⟩ (.string ⟨#[]⟩) := ⟨_, rfl⟩
       rw [← hw8]
       have h8 := put_end (t := w5.heap.size) S7.out T7.out M7.out (w8 := w8) (by rw [hw8]; exact ((Mod.refl _ _).setCell (by intro _; rfl) _).setCell (by intro _; rfl) _) hns5 hb5 (by have := L7.out; have := L6'.out; simp at this; omega) (by have := M5.out.size; omega))
    | (obtain ⟨w8, hw8⟩ : ∃ w8, w8 = w7.alloc (.cells #[.string ⟨#[]⟩, .string ⟨#[]⟩] 73) := ⟨_, rfl⟩
       rw [← hw8]
       have h8 := put_end (t := w7.heap.size) S7.out T7.out M7.out (w8 := w8) (by rw [hw8]; exact (Mod.refl _ _).alloc _) hns7 (by have := (T7.out.lts b (by simp)); omega) (by have := (T7.out.lts c (by simp)); omega) (by have := M7.out.size; omega))
    have H8 := Lib.hid h8
    have u1 : w8.cell? ⟨s, 1, none⟩ = some (.int .i64 0) := cell_of h8.1 1 rfl
    have uf := frozen_of h8.1 1
    clear h8 hw8
    go_wp2_with fail
    go_ret
    have hsc : s ≠ c := by have := C7.out; omega
    have hbc : b ≠ c := by have := L7.out; omega
    refine ⟨rfl, [s, b, c], ?_, by simp [hsb, hsc, hbc], H8.out.2.2.setCell (by intro _; rfl) _, ?_⟩
    · unfold ShelfAt
      refine ⟨b, [b, c], ?_, H8.out.2.1.mod (S := (· = s)) ((Mod.refl _ _).setCell (by intro _; rfl) _) (fun g hg e => ?_), rfl⟩
      · have := heap_set H8.out.1 1 (.int .i64 1)
        simpa using this
      · simp at hg
        rcases hg with rfl | rfl
        · exact hsb e.symm
        · exact hsc e.symm
    · intro g hg
      simp at hg
      rcases hg with rfl | rfl | rfl
      · exact .inl rfl
      · exact .inr WB.out
      · exact .inr C7.out
end Go.Proofs.YtpcmbnbdppembaaGreatDoor
