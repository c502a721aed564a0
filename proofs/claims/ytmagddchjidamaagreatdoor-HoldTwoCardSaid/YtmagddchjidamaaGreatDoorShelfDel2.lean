/- (*shelf.Shelf).Del out of a shelf of one item. -/
import Derived.Test.YtmagddchjidamaaGreatDoorShelfDel
namespace Go.Proofs.YtmagddchjidamaaGreatDoor
set_option linter.unusedSimpArgs false
set_option linter.unusedVariables false
open Go.RowKit Go.Shelf
attribute [local go_sem ↓] Go.wp_at_zero Go.wp_at_succ

set_option maxRecDepth 100000 in
set_option maxHeartbeats 8000000 in
theorem ndel_one {w : World} {b : Nat} {L : List Nat} {x : Itm} (h : TreeAt w b (.mk [x] []) L) (hnd : L.Nodup) :
    Calls Tryz.prog 74 #[.pointer (some ⟨b, 0, none⟩), .string x.1] w fun e w' => e = .returned (.bool true) ∧ TreeAt w' b (.mk [] []) L ∧ Mod (· ∈ L) w w' := by
  have HT := Lib.hid h
  unfold TreeAt at h
  obtain ⟨v, u, bs, Ls, h1, h2, h3, h4, rfl⟩ := h
  have hf : ∃ c cap, v = .slice (some ⟨c, 0, none⟩) 1 cap := by
    rcases h2.2 with ⟨_, e⟩ | ⟨g, cap, cur, e, _⟩
    · cases e
    · exact ⟨g, cap, e⟩
  obtain ⟨c, cap, rfl⟩ := hf
  have hlt : b < w.heap.size := (Array.getElem?_eq_some_iff.1 h1).1
  have c0 : w.cell? ⟨b, 0, none⟩ = some (.slice (some ⟨c, 0, none⟩) 1 cap) := cell_of h1 0 rfl
  have f0 := frozen_of h1 0
  have hbc : c ≠ b := by
    simp only [List.nodup_cons, List.mem_append, not_or] at hnd
    intro e
    exact hnd.1.1.1 (by simp [ownL, Value.ownBlock, e])
  have H1 := Lib.hid h1; have H2 := Lib.hid h2; have H3 := Lib.hid h3; have H4 := Lib.hid h4; have HN := Lib.hid hnd
  clear h1 h2 h3 h4 hnd
  go_enter Tryz.func74, Tryz.ntmps74
  go_wp2_with fail
  refine (place_one HT.out).mono ?_
  rintro e w1 ⟨rfl, hm1⟩
  have HM1 := Lib.hid hm1
  have d0 := hm1.cellS c0
  have g0 : w1.frozen? ⟨b, 0, none⟩ = false := (hm1.frozen (p := ⟨b, 0, none⟩) hlt (fun x => x)).trans f0
  clear hm1
  go_wp2_with fail
  refine (leaf_any (HT.out.mod HM1.out (fun _ _ x => x))).mono ?_
  rintro e w2 ⟨rfl, hww⟩
  rw [hww]
  clear hww
  go_wp2_with fail
  refine (delete_one (x := x) (by have := own_mod' H2.out HM1.out (fun _ _ x => x); simpa using this)).mono ?_
  rintro e w3 ⟨rfl, hr3, hm3⟩
  have k0 := (hm3.cell (p := ⟨b, 0, none⟩) (cell_lt' d0) (fun e => hbc e.symm)).trans d0
  have kf := (hm3.frozen (p := ⟨b, 0, none⟩) (cell_lt' d0) (fun e => hbc e.symm)).trans g0
  have HR3 := Lib.hid hr3; have HM3 := Lib.hid hm3
  clear hr3 hm3
  go_wp2_with fail
  go_ret
  have hN := HN.out
  simp only [List.nodup_cons, List.mem_append, not_or] at hN
  have hbu : b ∉ ownL u := hN.1.1.2
  have hbl : b ∉ Ls := hN.1.2
  have hcc : ownL (.slice (some ⟨c, 0, none⟩) 1 cap) = [c] := rfl
  rw [hcc] at hN
  have hcu : c ∉ ownL u := fun e => (List.nodup_append.1 (List.nodup_append.1 hN.2).1).2.2 c (by simp) c e rfl
  have hcl : c ∉ Ls := fun e => (List.nodup_append.1 hN.2).2.2 c (by simp) c e rfl
  have hmb : Mod (fun k => k = b ∨ k = c) w (w3.setCell ⟨b, 0, none⟩ (.slice (some ⟨c, 0, none⟩) 0 cap)) :=
    (((HM1.out.mono (fun _ _ x => x.elim)).then (S := fun k => k = b ∨ k = c) HM3.out (fun k _ e => .inr e))).setCell (fun _ => .inl rfl) _
  refine ⟨rfl, ?_, hmb.mono (fun k _ hk => ?_)⟩
  · unfold TreeAt
    refine ⟨.slice (some ⟨c, 0, none⟩) 0 cap, u, bs, Ls, ?_, ?_, own_mod' H3.out hmb ?_, H4.out.mod hmb ?_, rfl⟩
    · have hb3 : w3.heap[b]? = some (.cells #[.slice (some ⟨c, 0, none⟩) 1 cap, u] 126 (0, 0)) := by
        rw [HM3.out.block b (Nat.lt_of_lt_of_le hlt HM1.out.size) (fun e => hbc e.symm), HM1.out.block b hlt (fun x => x)]
        exact H1.out
      have := heap_set hb3 0 (.slice (some ⟨c, 0, none⟩) 0 cap)
      simpa using this
    · exact own_mod' HR3.out (S := (· = b)) ((Mod.refl _ _).setCell (by intro _; rfl) _) (by intro k hk e; simp [ownL, Value.ownBlock] at hk; omega)
    · intro k hk e
      rcases e with rfl | rfl
      · exact hbu hk
      · exact hcu hk
    · intro k hk e
      rcases e with rfl | rfl
      · exact hbl hk
      · exact hcl hk
  · rcases hk with rfl | rfl
    · simp
    · simp [ownL, Value.ownBlock]

set_option maxRecDepth 100000 in
set_option maxHeartbeats 8000000 in
theorem sdel_one {w : World} {s : Nat} {most : Int} {L : List Nat} {x : Itm} (h : ShelfAt w s most (some (.mk [x] [])) 1 L) (hnd : L.Nodup) :
    Calls Tryz.prog 42 #[.pointer (some ⟨s, 0, none⟩), .string x.1] w fun e w' => e = .returned (.bool true) ∧ ShelfAt w' s most none 0 [s] ∧ Mod (· ∈ L) w w' := by
  unfold ShelfAt at h
  obtain ⟨b, Lt, h1, h2, rfl⟩ := h
  have hsL : s ∉ Lt := (List.nodup_cons.1 hnd).1
  have hndL : Lt.Nodup := (List.nodup_cons.1 hnd).2
  have hlt : s < w.heap.size := (Array.getElem?_eq_some_iff.1 h1).1
  have c0 : w.cell? ⟨s, 0, none⟩ = some (.int .i64 most) := cell_of h1 0 rfl
  have c1 : w.cell? ⟨s, 1, none⟩ = some (.int .i64 1) := cell_of h1 1 rfl
  have c2 : w.cell? ⟨s, 2, none⟩ = some (.pointer (some ⟨b, 0, none⟩)) := cell_of h1 2 rfl
  have f1 := frozen_of h1 1
  have f2 := frozen_of h1 2
  have H1 := Lib.hid h1; have H2 := Lib.hid h2; have HN := Lib.hid hndL; have HS := Lib.hid hsL
  clear h1 h2 hnd hndL hsL
  go_enter Tryz.func42, Tryz.ntmps42
  go_wp2_with fail
  refine (ndel_one H2.out HN.out).mono ?_
  rintro e w1 ⟨rfl, ht, hm⟩
  have d1 := (hm.cell (p := ⟨s, 1, none⟩) hlt HS.out).trans c1
  have d2 := (hm.cell (p := ⟨s, 2, none⟩) hlt HS.out).trans c2
  have g1 := (hm.frozen (p := ⟨s, 1, none⟩) hlt HS.out).trans f1
  have g2 := (hm.frozen (p := ⟨s, 2, none⟩) hlt HS.out).trans f2
  have hS1 : w1.heap[s]? = some (.cells #[.int .i64 most, .int .i64 1, .pointer (some ⟨b, 0, none⟩)] 111 (0, 0)) := by
    rw [hm.block s hlt HS.out]; exact H1.out
  have HT := Lib.hid ht; have HM := Lib.hid hm; have S1 := Lib.hid hS1
  unfold TreeAt at ht
  obtain ⟨v, u, bs, Ls, k1, k2, k3, k4, hL⟩ := ht
  have hlb : b < w1.heap.size := (Array.getElem?_eq_some_iff.1 k1).1
  have hsb : s ≠ b := by intro e; exact HS.out (by rw [hL, e]; simp)
  have hv0 : ∃ av cap, v = .slice av 0 cap := by
    rcases k2.2 with ⟨e, _⟩ | ⟨g, cap, cur, e, _⟩
    · exact ⟨_, _, e⟩
    · exact ⟨_, _, e⟩
  obtain ⟨av, cap, rfl⟩ := hv0
  have b0 : w1.cell? ⟨b, 0, none⟩ = some (.slice av 0 cap) := cell_of k1 0 rfl
  clear hm hS1 k1 k2 k3 k4 hL
  go_wp2_with fail
  refine (leaf_any (HT.out.mod (S := (· = s)) ((Mod.refl _ _).setCell (by intro _; rfl) _) (fun k hk e => HS.out (by rw [← e]; exact hk)))).mono ?_
  rintro e w2 ⟨rfl, hww⟩
  rw [hww]
  clear hww
  go_wp2_with fail
  go_ret
  refine ⟨rfl, ?_, ((HM.out.mono (S' := (· ∈ s :: Lt)) (fun _ _ x => List.mem_cons_of_mem _ x)).setCell (fun _ => List.mem_cons_self) _).setCell (fun _ => List.mem_cons_self) _⟩
  unfold ShelfAt
  refine ⟨?_, rfl⟩
  have := heap_set (heap_set S1.out 1 (.int .i64 0)) 2 (.pointer none)
  simpa using this
end Go.Proofs.YtmagddchjidamaaGreatDoor
