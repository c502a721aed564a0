/- Put together out of: ShelfDel, ShelfDel2, CutOut, GateWhere, HoldDo, HoldDo2. -/
import Derived.Test.YtpcmbnbdppembaaGreatDoorShelfPut
import Derived.Test.YtpcmbnbdppembaaGreatDoorHoldFreeze
import Derived.Test.YtpcmbnbdppembaaGreatDoorGate
import Derived.Test.YtpcmbnbdppembaaGreatDoorHoldLose
/- (*shelf.Shelf).Del out of a shelf of one item. -/
namespace Go.Proofs.YtpcmbnbdppembaaGreatDoor
set_option linter.unusedSimpArgs false
set_option linter.unusedVariables false
open Go.RowKit Go.Shelf
attribute [local go_sem ↓] Go.wp_at_zero Go.wp_at_succ

theorem clear_one {W : World} {c cap : Nat} (h0 : (W.cell? ⟨c, 0, none⟩).isSome = true) (h1 : (W.cell? ⟨c, 1, none⟩).isSome = true) (f0 : W.frozen? ⟨c, 0, none⟩ = false) (f1 : W.frozen? ⟨c, 1, none⟩ = false) :
    Sem.run Tryz.prog (Builtin.clear_ #[22] 0 #[.slice (some ⟨c, 0, none⟩) 1 cap]) W = .ok (.tuple #[]) ((W.setCell ⟨c, 0, none⟩ (.string ⟨#[]⟩)).setCell ⟨c, 1, none⟩ (.string ⟨#[]⟩)) := by
  have hst := run_storeCells_cells (P := Tryz.prog) c 0 [.string ⟨#[]⟩, .string ⟨#[]⟩] 0 W
    (by intro j hj; match j, hj with | 0, _ => exact h0 | 1, _ => exact h1) (by intro j hj; match j, hj with | 0, _ => exact f0 | 1, _ => exact f1) (by intro v hv; simp at hv; subst hv; rfl)
  simp only [Nat.add_zero] at hst
  have hz := Tryz.zeroValue73
  have hzc : (Builtin.zeroCells (Value.agg #[.string ⟨#[]⟩, .string ⟨#[]⟩]).cells 1).toList = [.string ⟨#[]⟩, .string ⟨#[]⟩] := by first | kernel_rfl | (simp [Builtin.zeroCells]; done) | decide
  simp [Builtin.clear_, run_underlying tyIts, hz, hzc, hst, World.setCells]

set_option maxRecDepth 100000 in
set_option maxHeartbeats 8000000 in
/-- Delete of the only item -/
theorem delete_one {w : World} {c cap : Nat} {x : Itm} (h : w.ownsRow 0 73 2 (.slice (some ⟨c, 0, none⟩) 1 cap) 1 (encIt x)) :
    Calls Tryz.prog 195 #[.slice (some ⟨c, 0, none⟩) 1 cap, .int .i64 0, .int .i64 1] w fun e w' => e = .returned (.slice (some ⟨c, 0, none⟩) 0 cap) ∧
      w'.ownsRow 0 73 2 (.slice (some ⟨c, 0, none⟩) 0 cap) 0 [] ∧ Mod (· = c) w w' := by
  have hown := h
  rcases h.2 with ⟨e, _⟩ | ⟨g, cap', cur, e, _, hg, hcap1, hcap2, hcs, htk⟩
  · cases e
  simp only [Value.slice.injEq, Option.some.injEq, Addr.mk.injEq] at e
  obtain ⟨⟨rfl, _, _⟩, _, rfl⟩ := e
  have hlt : c < w.heap.size := (Array.getElem?_eq_some_iff.1 hg).1
  have p0 : w.cell? ⟨c, 0, none⟩ = some (.string x.1) := by
    have := h.cells (g := c) rfl 0 (.string x.1) rfl
    simpa [Addr.add] using this
  have p1 : w.cell? ⟨c, 1, none⟩ = some (.string x.2) := by
    have := h.cells (g := c) rfl 1 (.string x.2) rfl
    have ha : (⟨c, 0, none⟩ : Addr).add 1 = ⟨c, 1, none⟩ := rfl
    rw [ha] at this
    exact this
  have f0 := frozen_of hg 0
  have f1 := frozen_of hg 1
  obtain ⟨i0, z0, hi, hz0, hz1, hz2, hz3⟩ := itInfo_parts
  unfold maxLen at hcap2
  have HG := Lib.hid hg
  have HCS := Lib.hid hcs
  clear h hg htk hcs hown
  by_cases hc1 : cap = 1
  · subst hc1
    go_enter Tryz.func195, Tryz.ntmps195
    go_wp2_with fail
    go_region_law ((refine step_append_room (by rfl) _ _ 22 (by rfl) 73 i0 2 tyIts hi hz1 c 0 0 _ (by rfl) ⟨c, 0, none⟩ 0 _ [] (by rfl) (by rfl) (by intro j u hu; simp at hu) (by intro u hu; simp at hu) (by omega) (by intro j hj; simp at hj) ?_))
    go_wp2_with fail
    simp only [World.setCells]
    rw [clear_one (W := w.drew) (by show (w.cell? _).isSome = true; rw [p0]; rfl) (by show (w.cell? _).isSome = true; rw [p1]; rfl) f0 f1]
    go_wp2_with fail
    go_ret
    refine ⟨rfl, ?_, ((Mod.refl _ _).drew.setCell (by intro _; rfl) _).setCell (by intro _; rfl) _⟩
    refine ⟨rfl, .inr ⟨c, _, _, rfl, Nat.zero_le _, (by have := heap_set (heap_set HG.out 0 (.string ⟨#[]⟩)) 1 (.string ⟨#[]⟩); exact this), Nat.zero_le _, by unfold maxLen; omega, by simpa using HCS.out, by simp⟩⟩
  · go_enter Tryz.func195, Tryz.ntmps195
    go_wp2_with fail
    go_region_law ((refine step_append_room (by rfl) _ _ 22 (by rfl) 73 i0 2 tyIts hi hz1 c 0 0 _ (by rfl) ⟨c, 2, none⟩ 0 _ [] (by rfl) (by rfl) (by intro j u hu; simp at hu) (by intro u hu; simp at hu) (by omega) (by intro j hj; simp at hj) ?_))
    go_wp2_with fail
    simp only [World.setCells]
    rw [clear_one (W := w.drew) (by show (w.cell? _).isSome = true; rw [p0]; rfl) (by show (w.cell? _).isSome = true; rw [p1]; rfl) f0 f1]
    go_wp2_with fail
    go_ret
    refine ⟨rfl, ?_, ((Mod.refl _ _).drew.setCell (by intro _; rfl) _).setCell (by intro _; rfl) _⟩
    refine ⟨rfl, .inr ⟨c, _, _, rfl, Nat.zero_le _, (by have := heap_set (heap_set HG.out 0 (.string ⟨#[]⟩)) 1 (.string ⟨#[]⟩); exact this), Nat.zero_le _, by unfold maxLen; omega, by simpa using HCS.out, by simp⟩⟩
end Go.Proofs.YtpcmbnbdppembaaGreatDoor

/- (*shelf.Shelf).Del out of a shelf of one item. -/
namespace Go.Proofs.YtpcmbnbdppembaaGreatDoor
set_option linter.unusedSimpArgs false
set_option linter.unusedVariables false
open Go.RowKit Go.Shelf
attribute [local go_sem ↓] Go.wp_at_zero Go.wp_at_succ

set_option maxRecDepth 100000 in
set_option maxHeartbeats 8000000 in
theorem ndel_one {w : World} {b : Nat} {L : List Nat} {x : Itm} (h : TreeAt w b (.mk [x] []) L) (hnd : L.Nodup) :
    Calls Tryz.prog 147 #[.pointer (some ⟨b, 0, none⟩), .string x.1] w fun e w' => e = .returned (.bool true) ∧ TreeAt w' b (.mk [] []) L ∧ Mod (· ∈ L) w w' := by
  have HT := Lib.hid h
  unfold TreeAt at h
  obtain ⟨v, u, bs, Ls, h1, h2, h3, h4, rfl⟩ := h
  have hf : ∃ c cap, v = .slice (some ⟨c, 0, none⟩) 1 cap := by
    rcases h2.2 with ⟨_, e⟩ | ⟨g, cap, cur, e, _⟩
    · cases e
    · exact ⟨g, cap, e⟩
  obtain ⟨c, cap, rfl⟩ := hf
  have hlt : b < w.heap.size := (Array.getElem?_eq_some_iff.1 h1).1
  have c0 : w.cell? ⟨b, 0, none⟩ = some (.slice (some ⟨c, 0, none⟩) 1 cap) := cell_of h1 0 rfl
  have f0 := frozen_of h1 0
  have hbc : c ≠ b := by
    simp only [List.nodup_cons, List.mem_append, not_or] at hnd
    intro e
    exact hnd.1.1.1 (by simp [ownL, Value.ownBlock, e])
  have H1 := Lib.hid h1; have H2 := Lib.hid h2; have H3 := Lib.hid h3; have H4 := Lib.hid h4; have HN := Lib.hid hnd
  clear h1 h2 h3 h4 hnd
  go_enter Tryz.func147, Tryz.ntmps147
  go_wp2_with fail
  refine (place_one HT.out).mono ?_
  rintro e w1 ⟨rfl, hm1⟩
  have HM1 := Lib.hid hm1
  have d0 := hm1.cellS c0
  have g0 : w1.frozen? ⟨b, 0, none⟩ = false := (hm1.frozen (p := ⟨b, 0, none⟩) hlt (fun x => x)).trans f0
  clear hm1
  go_wp2_with fail
  refine (leaf_any (HT.out.mod HM1.out (fun _ _ x => x))).mono ?_
  rintro e w2 ⟨rfl, hww⟩
  rw [hww]
  clear hww
  go_wp2_with fail
  refine (delete_one (x := x) (by have := own_mod' H2.out HM1.out (fun _ _ x => x); simpa using this)).mono ?_
  rintro e w3 ⟨rfl, hr3, hm3⟩
  have k0 := (hm3.cell (p := ⟨b, 0, none⟩) (cell_lt' d0) (fun e => hbc e.symm)).trans d0
  have kf := (hm3.frozen (p := ⟨b, 0, none⟩) (cell_lt' d0) (fun e => hbc e.symm)).trans g0
  have HR3 := Lib.hid hr3; have HM3 := Lib.hid hm3
  clear hr3 hm3
  go_wp2_with fail
  go_ret
  have hN := HN.out
  simp only [List.nodup_cons, List.mem_append, not_or] at hN
  have hbu : b ∉ ownL u := hN.1.1.2
  have hbl : b ∉ Ls := hN.1.2
  have hcc : ownL (.slice (some ⟨c, 0, none⟩) 1 cap) = [c] := rfl
  rw [hcc] at hN
  have hcu : c ∉ ownL u := fun e => (List.nodup_append.1 (List.nodup_append.1 hN.2).1).2.2 c (by simp) c e rfl
  have hcl : c ∉ Ls := fun e => (List.nodup_append.1 hN.2).2.2 c (by simp) c e rfl
  have hmb : Mod (fun k => k = b ∨ k = c) w (w3.setCell ⟨b, 0, none⟩ (.slice (some ⟨c, 0, none⟩) 0 cap)) :=
    (((HM1.out.mono (fun _ _ x => x.elim)).then (S := fun k => k = b ∨ k = c) HM3.out (fun k _ e => .inr e))).setCell (fun _ => .inl rfl) _
  refine ⟨rfl, ?_, hmb.mono (fun k _ hk => ?_)⟩
  · unfold TreeAt
    refine ⟨.slice (some ⟨c, 0, none⟩) 0 cap, u, bs, Ls, ?_, ?_, own_mod' H3.out hmb ?_, H4.out.mod hmb ?_, rfl⟩
    · have hb3 : w3.heap[b]? = some (.cells #[.slice (some ⟨c, 0, none⟩) 1 cap, u] 190 (0, 0)) := by
        rw [HM3.out.block b (Nat.lt_of_lt_of_le hlt HM1.out.size) (fun e => hbc e.symm), HM1.out.block b hlt (fun x => x)]
        exact H1.out
      have := heap_set hb3 0 (.slice (some ⟨c, 0, none⟩) 0 cap)
      simpa using this
    · exact own_mod' HR3.out (S := (· = b)) ((Mod.refl _ _).setCell (by intro _; rfl) _) (by intro k hk e; simp [ownL, Value.ownBlock] at hk; omega)
    · intro k hk e
      rcases e with rfl | rfl
      · exact hbu hk
      · exact hcu hk
    · intro k hk e
      rcases e with rfl | rfl
      · exact hbl hk
      · exact hcl hk
  · rcases hk with rfl | rfl
    · simp
    · simp [ownL, Value.ownBlock]

set_option maxRecDepth 100000 in
set_option maxHeartbeats 8000000 in
theorem sdel_one {w : World} {s : Nat} {most : Int} {L : List Nat} {x : Itm} (h : ShelfAt w s most (some (.mk [x] [])) 1 L) (hnd : L.Nodup) :
    Calls Tryz.prog 59 #[.pointer (some ⟨s, 0, none⟩), .string x.1] w fun e w' => e = .returned (.bool true) ∧ ShelfAt w' s most none 0 [s] ∧ Mod (· ∈ L) w w' := by
  unfold ShelfAt at h
  obtain ⟨b, Lt, h1, h2, rfl⟩ := h
  have hsL : s ∉ Lt := (List.nodup_cons.1 hnd).1
  have hndL : Lt.Nodup := (List.nodup_cons.1 hnd).2
  have hlt : s < w.heap.size := (Array.getElem?_eq_some_iff.1 h1).1
  have c0 : w.cell? ⟨s, 0, none⟩ = some (.int .i64 most) := cell_of h1 0 rfl
  have c1 : w.cell? ⟨s, 1, none⟩ = some (.int .i64 1) := cell_of h1 1 rfl
  have c2 : w.cell? ⟨s, 2, none⟩ = some (.pointer (some ⟨b, 0, none⟩)) := cell_of h1 2 rfl
  have f1 := frozen_of h1 1
  have f2 := frozen_of h1 2
  have H1 := Lib.hid h1; have H2 := Lib.hid h2; have HN := Lib.hid hndL; have HS := Lib.hid hsL
  clear h1 h2 hnd hndL hsL
  go_enter Tryz.func59, Tryz.ntmps59
  go_wp2_with fail
  refine (ndel_one H2.out HN.out).mono ?_
  rintro e w1 ⟨rfl, ht, hm⟩
  have d1 := (hm.cell (p := ⟨s, 1, none⟩) hlt HS.out).trans c1
  have d2 := (hm.cell (p := ⟨s, 2, none⟩) hlt HS.out).trans c2
  have g1 := (hm.frozen (p := ⟨s, 1, none⟩) hlt HS.out).trans f1
  have g2 := (hm.frozen (p := ⟨s, 2, none⟩) hlt HS.out).trans f2
  have hS1 : w1.heap[s]? = some (.cells #[.int .i64 most, .int .i64 1, .pointer (some ⟨b, 0, none⟩)] 192 (0, 0)) := by
    rw [hm.block s hlt HS.out]; exact H1.out
  have HT := Lib.hid ht; have HM := Lib.hid hm; have S1 := Lib.hid hS1
  unfold TreeAt at ht
  obtain ⟨v, u, bs, Ls, k1, k2, k3, k4, hL⟩ := ht
  have hlb : b < w1.heap.size := (Array.getElem?_eq_some_iff.1 k1).1
  have hsb : s ≠ b := by intro e; exact HS.out (by rw [hL, e]; simp)
  have hv0 : ∃ av cap, v = .slice av 0 cap := by
    rcases k2.2 with ⟨e, _⟩ | ⟨g, cap, cur, e, _⟩
    · exact ⟨_, _, e⟩
    · exact ⟨_, _, e⟩
  obtain ⟨av, cap, rfl⟩ := hv0
  have b0 : w1.cell? ⟨b, 0, none⟩ = some (.slice av 0 cap) := cell_of k1 0 rfl
  clear hm hS1 k1 k2 k3 k4 hL
  go_wp2_with fail
  refine (leaf_any (HT.out.mod (S := (· = s)) ((Mod.refl _ _).setCell (by intro _; rfl) _) (fun k hk e => HS.out (by rw [← e]; exact hk)))).mono ?_
  rintro e w2 ⟨rfl, hww⟩
  rw [hww]
  clear hww
  go_wp2_with fail
  go_ret
  refine ⟨rfl, ?_, ((HM.out.mono (S' := (· ∈ s :: Lt)) (fun _ _ x => List.mem_cons_of_mem _ x)).setCell (fun _ => List.mem_cons_self) _).setCell (fun _ => List.mem_cons_self) _⟩
  unfold ShelfAt
  refine ⟨?_, rfl⟩
  have := heap_set (heap_set S1.out 1 (.int .i64 0)) 2 (.pointer none)
  simpa using this
end Go.Proofs.YtpcmbnbdppembaaGreatDoor

/- cut.Out, of what Del makes of the shelf left open. -/
namespace Go.Proofs.YtpcmbnbdppembaaGreatDoor
set_option linter.unusedSimpArgs false
set_option linter.unusedVariables false
open Go.RowKit Go.Shelf

/-- what Del makes of a shelf -/
def DelOK (tr : Option Tree) (n : Nat) (k : ByteArray) (tr' : Option Tree) (n' : Nat) : Prop := ∀ (w : World) (s : Nat) (most : Int) (L : List Nat), ShelfAt w s most tr n L → L.Nodup →
  Calls Tryz.prog 59 #[.pointer (some ⟨s, 0, none⟩), .string k] w fun e w' => (∃ v, e = .returned v) ∧ ∃ L', ShelfAt w' s most tr' n' L' ∧ L'.Nodup ∧ Turn L w w' L'

theorem at2it {w : World} {v : Value} {l : List Itm} (h : SlAt 2 encIt w v l) {i : Nat} {p : Itm} (hi : l[i]? = some p) : ∃ b o cap, v = .slice (some ⟨b, o, none⟩) l.length cap ∧ b < w.heap.size ∧
    w.cell? ⟨b, o + i * 2, none⟩ = some (.string p.1) ∧ w.cell? ⟨b, o + i * 2 + 1, none⟩ = some (.string p.2) := by
  obtain ⟨a, cap, hv, hx⟩ := h
  obtain ⟨b, o, rfl, hj⟩ := hx i p hi
  have h0 := hj 0 _ rfl
  exact ⟨b, o, cap, hv, cell_lt' h0, by simpa using h0, by simpa using hj 1 _ rfl⟩

/- cut.Out, whatever holds of the shelf behind each taking away -/
set_option maxRecDepth 100000 in
set_option maxHeartbeats 8000000 in
theorem cut_gen {w : World} {s : Nat} {most : Int} {tr : Option Tree} {n : Nat} {L : List Nat} {xs : List Itm} (hI : ItemsOK tr xs) (hxl : xs.length ≤ 1000000) {a : Arc} (ha : a.ok) (hsh : ShelfAt w s most tr n L) (hnd : L.Nodup)
    (T : Nat → Option Tree → Nat → Prop) (hT0 : T 0 tr n) (hT : ∀ k x, ((arcIts a xs).take 200)[k]? = some x → ∀ tr n, T k tr n → ∀ (w : World) (L : List Nat), ShelfAt w s most tr n L → L.Nodup →
      Calls Tryz.prog 59 #[.pointer (some ⟨s, 0, none⟩), .string x.1] w fun e w' => (∃ v, e = .returned v) ∧ ∃ tr' n' L', ShelfAt w' s most tr' n' L' ∧ L'.Nodup ∧ Turn L w w' L' ∧ T (k + 1) tr' n') :
    Calls Tryz.prog 152 #[.pointer (some ⟨s, 0, none⟩), .agg #[.int .u64 a.f, .int .u64 a.t]] w fun e w2 => (∃ v, e = .returned v) ∧ ∃ L' tr' n', ShelfAt w2 s most tr' n' L' ∧ L'.Nodup ∧ Turn L w w2 L' ∧ T ((arcIts a xs).take 200).length tr' n' := by
  have hcol := collect_arc hI hxl ha hsh
  have HS := Lib.hid hsh; have HN := Lib.hid hnd; have HT0 := Lib.hid hT0
  have HLT := Lib.hid hsh.lts
  obtain ⟨its, hits⟩ : ∃ its, its = (arcIts a xs).take 200 := ⟨_, rfl⟩
  have hlen : its.length ≤ 200 := by rw [hits, List.length_take]; omega
  rw [← hits] at hcol hT ⊢
  have HT := Lib.hid hT
  have HCOL := Lib.hid hcol
  clear hsh hnd hT hT0 hcol hits
  go_enter Tryz.func152, Tryz.ntmps152
  go_wp2_with fail
  refine (arc_make s a _).mono ?_
  rintro e w1 ⟨rfl, hw1⟩
  have hm1 : Mod NoB w w1 := by rw [hw1]; exact (((Mod.refl _ _).alloc _).alloc _).alloc _
  have x0 : w1.cell? ⟨w.heap.size + 1, 0, none⟩ = some (.pointer (some ⟨s, 0, none⟩)) := cell_of (by
    rw [hw1, Below.heap_alloc _ _ _ (by simp)]
    have := heap_alloc_new (w.alloc (.cells #[.int .u64 a.f, .int .u64 a.t] 25)) (.cells #[.pointer (some ⟨s, 0, none⟩)] 114)
    simpa using this) 0 rfl
  have y : w1.heap[w.heap.size + 1 + 1]? = some (.cells #[.int .u64 a.f, .int .u64 a.t] 25 (0, 0)) := by
    rw [hw1]
    have := heap_alloc_new ((w.alloc (.cells #[.int .u64 a.f, .int .u64 a.t] 25)).alloc (.cells #[.pointer (some ⟨s, 0, none⟩)] 114)) (.cells #[.int .u64 a.f, .int .u64 a.t] 25)
    simpa using this
  have x1 : w1.cell? ⟨w.heap.size + 1 + 1, 0, none⟩ = some (.int .u64 a.f) := cell_of y 0 rfl
  have x2 : w1.cell? ⟨w.heap.size + 1 + 1, 1, none⟩ = some (.int .u64 a.t) := cell_of y 1 rfl
  have hc1 := HCOL.out w1 hm1 (w.heap.size + 1) x0 x1 x2
  have HM1 := Lib.hid hm1
  clear hw1 hm1 x0 x1 x2 y
  go_wp2_with fail
  refine hc1.mono ?_
  rintro e w2 ⟨v, rfl, hr2, hm2⟩
  have HR2 := Lib.hid hr2
  have HM2 := Lib.hid (HM1.out.trans hm2)
  have hsl := own_slAt (k := 2) (enc := encIt) (fun _ => rfl) hr2
  have HSL := Lib.hid hsl
  have hnew : ∀ g ∈ ownL v, g ∉ L := fun g hg hb => by
    have h1 := (hr2.lt g (by simpa [ownL] using hg)).1
    have := HLT.out g hb
    have := HM1.out.size
    omega
  have HNW := Lib.hid hnew
  obtain ⟨av, capv, hvs, _⟩ := hsl
  subst hvs
  clear hr2 hm2 hc1 hnew
  go_wp2_with fail
  go_loopw [14] (fun i w3 => ∃ (k : Nat) (Lk : List Nat) (trk : Option Tree) (nk : Nat), k ≤ its.length ∧ i = .int .i64 k ∧ ShelfAt w3 s most trk nk Lk ∧ Lk.Nodup ∧ Turn L w2 w3 Lk ∧ T k trk nk) (fun i _ => its.length - (intOf i).toNat)
  case atStart =>
    exact ⟨0, L, tr, n, Nat.zero_le _, rfl, HS.out.mod HM2.out (fun _ _ x => x), HN.out, Turn.refl _ _, HT0.out⟩
  case round =>
    obtain ⟨k, Lk, trk, nk, hk, rfl, hsk, hnk, htk, hqk⟩ := hrel
    obtain ⟨wo, hwo⟩ : ∃ wo, wo = wr := ⟨_, rfl⟩
    subst hwo
    have HSK := Lib.hid hsk; have HNK := Lib.hid hnk; have HTK := Lib.hid htk; have HQK := Lib.hid hqk
    clear hsk hnk htk hqk
    by_cases hlt : k < its.length
    · have he : its[k]? = some its[k] := List.getElem?_eq_getElem hlt
      generalize its[k] = x at he
      have HLT2 := Lib.hid hlt
      obtain ⟨vb, vo, cap3, hv, hvlt, y0, y1⟩ := at2it HSL.out he
      simp only [Value.slice.injEq] at hv
      obtain ⟨rfl, _, rfl⟩ := hv
      have hvb : vb ∉ L := HNW.out vb (by simp [ownL, Value.ownBlock])
      have z0 := (HTK.out.1.cell (p := ⟨vb, vo + k * 2, none⟩) hvlt hvb).trans y0
      have z1 := (HTK.out.1.cell (p := ⟨vb, vo + k * 2 + 1, none⟩) hvlt hvb).trans y1
      clear y0 y1
      have HDEL := Lib.hid (HT.out k x he trk nk HQK.out)
      go_wp2_with fail
      refine (HDEL.out _ Lk (HSK.out.mod ((Mod.refl NoB wo).alloc _) (fun _ _ x => x)) HNK.out).mono ?_
      rintro e w5 ⟨⟨dv, rfl⟩, tr5, n5, L5, hs5, hn5, ht5, hq5⟩
      have HS5 := Lib.hid hs5; have HN5 := Lib.hid hn5; have HT5 := Lib.hid ht5; have HQ5 := Lib.hid hq5
      clear hs5 hn5 ht5 hq5
      go_wp2_with fail
      go_roundw
      case rel =>
        exact ⟨k + 1, L5, tr5, n5, HLT2.out, by go_num, HS5.out, HN5.out, HTK.out.trans (Turn.trans (B := Lk) ⟨(Mod.refl _ _).alloc _, fun _ hk => .inl hk⟩ HT5.out), HQ5.out⟩
      case measure => have := HLT2.out; simp [intOf]; omega
    · obtain rfl : k = its.length := by omega
      go_wp2_with fail
      go_ret
      exact ⟨⟨_, rfl⟩, Lk, trk, nk, HSK.out, HNK.out, Turn.trans (B := L) ⟨HM2.out.mono (fun _ _ x => x.elim), fun _ hk => .inl hk⟩ HTK.out, HQK.out⟩

theorem cut_out {w : World} {s : Nat} {most : Int} {tr : Option Tree} {n : Nat} {L : List Nat} {xs : List Itm} (hI : ItemsOK tr xs) (hxl : xs.length ≤ 1000000) {a : Arc} (ha : a.ok) (hsh : ShelfAt w s most tr n L) (hnd : L.Nodup)
    (T : Nat → Option Tree × Nat) (hT0 : T 0 = (tr, n)) (hT : ∀ k x, ((arcIts a xs).take 200)[k]? = some x → DelOK (T k).1 (T k).2 x.1 (T (k + 1)).1 (T (k + 1)).2) :
    Calls Tryz.prog 152 #[.pointer (some ⟨s, 0, none⟩), .agg #[.int .u64 a.f, .int .u64 a.t]] w fun e w2 => (∃ v, e = .returned v) ∧ ∃ L', ShelfAt w2 s most (T ((arcIts a xs).take 200).length).1 (T ((arcIts a xs).take 200).length).2 L' ∧ L'.Nodup ∧ Turn L w w2 L' := by
  refine (cut_gen hI hxl ha hsh hnd (fun k a b => a = (T k).1 ∧ b = (T k).2) (by rw [hT0]; exact ⟨rfl, rfl⟩) (fun k x hx tr n ht w L hs hn => ?_)).mono ?_
  · obtain ⟨rfl, rfl⟩ := ht
    refine (hT k x hx w s most L hs hn).mono ?_
    rintro e w' ⟨hv, L', q1, q2, q3⟩
    exact ⟨hv, _, _, L', q1, q2, q3, rfl, rfl⟩
  · rintro e w' ⟨hv, L', a, b, q1, q2, q3, rfl, rfl⟩
    exact ⟨hv, L', q1, q2, q3⟩
end Go.Proofs.YtpcmbnbdppembaaGreatDoor

/- (*gate.Gate).Where. -/
namespace Go.Proofs.YtpcmbnbdppembaaGreatDoor
set_option linter.unusedSimpArgs false
set_option linter.unusedVariables false
open Go.RowKit Go.Shelf

theorem rev_find {α : Type} (p : α → Bool) (l : List α) (k : Nat) (h : ∀ (j : Nat) y, k ≤ j → l[j]? = some y → p y = false) : l.reverse.find? p = (l.take k).reverse.find? p := by
  conv => lhs; rw [← List.take_append_drop k l]
  rw [List.reverse_append, List.find?_append]
  have : (l.drop k).reverse.find? p = none := by
    rw [List.find?_eq_none]
    intro x hx
    rw [List.mem_reverse] at hx
    obtain ⟨i, hi⟩ := List.getElem?_of_mem hx
    rw [List.getElem?_drop] at hi
    rw [h (k + i) x (by omega) hi]
    simp
  rw [this]
  rfl

def HSt.whereP (st : HSt) (x : Int) : Option Ptr := st.pts.reverse.find? (fun p => inA p.arc x)
def whereRes : Option Ptr → Value
  | none => .tuple #[.int .i64 0, .bool false]
  | some p => .tuple #[.int .i64 p.node, .bool true]

theorem at4 {w : World} {v : Value} {l : List Ptr} (h : SlAt 4 encPtr w v l) {i : Nat} {p : Ptr} (hi : l[i]? = some p) : ∃ b o cap, v = .slice (some ⟨b, o, none⟩) l.length cap ∧ b < w.heap.size ∧
    w.cell? ⟨b, o + i * 4, none⟩ = some (.int .u64 p.f) ∧ w.cell? ⟨b, o + i * 4 + 1, none⟩ = some (.int .u64 p.t) ∧ w.cell? ⟨b, o + i * 4 + 2, none⟩ = some (.int .i64 p.node) ∧ w.cell? ⟨b, o + i * 4 + 3, none⟩ = some (.int .i64 p.old) := by
  obtain ⟨a, cap, hv, hx⟩ := h
  obtain ⟨b, o, rfl, hj⟩ := hx i p hi
  have h0 := hj 0 _ rfl
  exact ⟨b, o, cap, hv, cell_lt' h0, h0, hj 1 _ rfl, hj 2 _ rfl, hj 3 _ rfl⟩

set_option maxHeartbeats 4000000 in
theorem where_any {w : World} {h : Nat} {st : HSt} {tr : Option Tree} {n : Nat} {B : List Nat} (hh : HoldAt w h st tr n B) (x : Int) (hlen : st.pts.length ≤ 1000000) :
    Calls Tryz.prog 54 #[.pointer (some ⟨h, 5, none⟩), .int .u64 x] w fun e w' => e = .returned (whereRes (st.whereP x)) ∧ Mod NoB w w' := by
  obtain ⟨vo, vp, s, L, h1, h2, h3, h4, hB, h5⟩ := hh
  have hlt : h < w.heap.size := (Array.getElem?_eq_some_iff.1 h1).1
  have c8 : w.cell? ⟨h, 8, none⟩ = some vp := cell_of h1 8 rfl
  have hsl := own_slAt (k := 4) (enc := encPtr) (fun _ => rfl) h3
  obtain ⟨av, cap, rfl, _⟩ := id hsl
  have HS := Lib.hid hsl
  clear h1 h2 h3 h4 hB h5 hsl
  have HC := Lib.hid c8
  go_enter Tryz.func54, Tryz.ntmps54
  go_wp2_with fail
  go_step3
  go_wp2_with fail
  go_step3
  go_wp2_with fail
  clear c8
  go_loopw [6, 7, 8] (fun nd is i wr => ∃ k : Nat, k ≤ st.pts.length ∧ nd = .int .i64 0 ∧ is = .bool false ∧ i = .int .i64 ((k : Int) - 1) ∧ Mod NoB w wr ∧ ∀ (j : Nat) y, k ≤ j → st.pts[j]? = some y → inA y.arc x = false) (fun _ _ i _ => (intOf i + 1).toNat)
  case atStart => exact ⟨st.pts.length, Nat.le_refl _, rfl, rfl, rfl, by repeat (first | exact Mod.refl _ _ | refine Mod.alloc ?_ _ | refine Mod.drew ?_), fun j y hj hy => by have := (List.getElem?_eq_some_iff.1 hy).1; omega⟩
  case round =>
    obtain ⟨k, hk, rfl, rfl, rfl, hm, hno⟩ := hrel
    have HM := Lib.hid hm; clear hm
    have HN := Lib.hid hno; clear hno
    cases k with
    | zero =>
      have HF := Lib.hid (show st.whereP x = none by
        have := rev_find (fun p : Ptr => inA p.arc x) st.pts 0 (fun j y hj hy => HN.out j y hj hy)
        unfold HSt.whereP; rw [this]; simp)
      go_wp2_with fail
      rw [Exit.noGoto_ret]
      go_ret2
      exact ⟨by rw [HF.out]; rfl, HM.out⟩
    | succ k =>
      have he : st.pts[k]? = some st.pts[k] := List.getElem?_eq_getElem hk
      generalize st.pts[k] = p at he
      obtain ⟨b, o, cap', hv, hb, p0, p1, p2, p3⟩ := at4 (HS.out.mod HM.out) he
      simp only [Value.slice.injEq] at hv
      obtain ⟨rfl, _, rfl⟩ := hv
      have c8 := HM.out.cellS HC.out
      have HE := Lib.hid he; clear he
      have hkk : ((k : Int) + 1) - 1 = k := by omega
      cases hr : inA p.arc x with
      | false =>
        go_wp2_with fail
        refine (in_any p.arc x _).mono ?_
        rintro e w1 ⟨rfl, hm1⟩
        rw [hr]
        have HM1 := Lib.hid hm1; clear hm1
        go_wp2_with fail
        refine ⟨⟨k, by omega, rfl, rfl, by go_num, HM.out.trans (((Mod.refl _ _).alloc _).trans HM1.out), fun j y hj hy => ?_⟩, by first | (simp [intOf]; done) | (simp [intOf]; omega)⟩
        by_cases hjk : j = k
        · subst hjk
          rw [HE.out] at hy
          obtain rfl := Option.some.inj hy
          exact hr
        · exact HN.out j y (by omega) hy
      | true =>
        go_wp2_with fail
        refine (in_any p.arc x _).mono ?_
        rintro e w1 ⟨rfl, hm1⟩
        rw [hr]
        have e2 := hm1.cellS (p := ⟨wr.heap.size, 2, none⟩) (u := .int .i64 p.node) (by simp)
        have HM1 := Lib.hid hm1; clear hm1
        have HF := Lib.hid (show st.whereP x = some p by
          have := rev_find (fun p : Ptr => inA p.arc x) st.pts (k + 1) (fun j y hj hy => HN.out j y hj hy)
          unfold HSt.whereP
          rw [this, List.take_add_one, HE.out]
          simp [hr])
        go_wp2_with fail
        rw [Exit.noGoto_ret]
        go_ret2
        exact ⟨by rw [HF.out]; rfl, HM.out.trans (((Mod.refl _ _).alloc _).trans HM1.out)⟩
end Go.Proofs.YtpcmbnbdppembaaGreatDoor

/- (*hold.Hold).Len, hold.right, (*hold.Hold).put, (*hold.Hold).Do, of what Get, Put and Del make of the shelf left open. -/
namespace Go.Proofs.YtpcmbnbdppembaaGreatDoor
set_option linter.unusedSimpArgs false
set_option linter.unusedVariables false
open Go.RowKit Go.Shelf

def PutOK (tr : Option Tree) (n : Nat) (most : Int) (k v : ByteArray) (tr' : Option Tree) (n' : Nat) : Prop := ∀ (w : World) (s : Nat) (L : List Nat), ShelfAt w s most tr n L → L.Nodup →
  Calls Tryz.prog 141 #[.pointer (some ⟨s, 0, none⟩), .string k, .string v] w fun e w' => e = .returned (.int .i64 0) ∧ ∃ L', ShelfAt w' s most tr' n' L' ∧ L'.Nodup ∧ Turn L w w' L'

theorem slen_any {w : World} {s : Nat} {most : Int} {tr : Option Tree} {n : Nat} {L : List Nat} (h : ShelfAt w s most tr n L) :
    Calls Tryz.prog 75 #[.pointer (some ⟨s, 0, none⟩)] w fun e w' => e = .returned (.int .i64 n) ∧ w' = w := by
  have c1 : w.cell? ⟨s, 1, none⟩ = some (.int .i64 n) := by
    unfold ShelfAt at h
    cases tr with
    | none => exact cell_of h.1 1 rfl
    | some t =>
      obtain ⟨b, Lt, h1, _⟩ := h
      exact cell_of h1 1 rfl
  clear h
  go_enter Tryz.func75, Tryz.ntmps75
  go_wp2_with fail
  go_ret
  exact ⟨rfl, rfl⟩

theorem hlen_any {w : World} {h : Nat} {st : HSt} {tr : Option Tree} {n : Nat} {B : List Nat} (hh : HoldAt w h st tr n B) :
    Calls Tryz.prog 33 #[.pointer (some ⟨h, 0, none⟩)] w fun e w' => e = .returned (.int .i64 n) ∧ w' = w := by
  obtain ⟨s, L, c4, hs, _⟩ := hh.shelf
  have HS := Lib.hid hs
  clear hh hs
  go_enter Tryz.func33, Tryz.ntmps33
  go_wp2_with fail
  refine (slen_any HS.out).mono ?_
  rintro e w1 ⟨rfl, hww⟩
  rw [hww]
  clear hww
  go_wp2_with fail
  go_ret
  exact ⟨rfl, rfl⟩

abbrev encAsk (op : Int) (k v to : ByteArray) (most : Int) : Value := .agg #[.int .i64 op, .string k, .string v, .string to, .int .i64 most]
abbrev encTold (e : Int) (v : ByteArray) (node : Int) : Value := .agg #[.int .i64 e, .string v, .slice none 0 0, .bool false, .string ⟨#[]⟩, .int .i64 node]

theorem hright_ok (op : Int) (h1 : 1 ≤ op) (h2 : op ≤ 3) (k v to : ByteArray) (most : Int) (hk1 : 1 ≤ k.size) (hk2 : k.size ≤ 16) (w : World) :
    Calls Tryz.prog 52 #[encAsk op k v to most] w fun e w' => e = .returned (.int .i64 0) ∧ Mod NoB w w' := by
  have n1 : ¬ op < 1 := by omega
  have n2 : ¬ 4 < op := by omega
  have n3 : ¬ op = 4 := by omega
  have n4 : ¬ op ≤ 0 := by omega
  have n5 : op ≤ 4 := by omega
  have n6 : 0 < op := by omega
  go_enter Tryz.func52, Tryz.ntmps52
  go_wp2_with fail
  refine (right_ok k _ hk1 hk2).mono ?_
  rintro e w1 ⟨rfl, hww⟩
  rw [hww]
  clear hww
  go_wp2_with fail
  go_ret
  exact ⟨rfl, (Mod.refl _ _).alloc _⟩

set_option maxRecDepth 100000 in
set_option maxHeartbeats 8000000 in
theorem hput_ok {w : World} {h : Nat} {st : HSt} {tr tr' : Option Tree} {n n' : Nat} {B : List Nat} (hh : HoldAt w h st tr n B) {k v : ByteArray} {r : Option ByteArray} (hv : v.size ≤ 16) (hg : GetOK tr k r) (hp : PutOK tr n st.most k v tr' n')
    (hn : n ≤ 1000000) (hk : 0 ≤ st.kept ∧ st.kept ≤ 1000000) (hroom : r = none → (n : Int) + st.kept < st.most) :
    Calls Tryz.prog 56 #[.pointer (some ⟨h, 0, none⟩), .string k, .string v] w fun e w' => e = .returned (.int .i64 0) ∧ ∃ B', HoldAt w' h st tr' n' B' ∧ Turn B w w' B' := by
  have HG := Lib.hid hg; have HP := Lib.hid hp
  have HH := Lib.hid hh
  obtain ⟨vo, vp, s, L, q1, q2, q3, q4, rfl, q6⟩ := hh
  have c4 : w.cell? ⟨h, 4, none⟩ = some (.pointer (some ⟨s, 0, none⟩)) := cell_of q1 4 rfl
  have c1 : w.cell? ⟨h, 1, none⟩ = some (.int .i64 st.most) := cell_of q1 1 rfl
  have c2 : w.cell? ⟨h, 2, none⟩ = some (.int .i64 st.kept) := cell_of q1 2 rfl
  have hnd : L.Nodup := by
    simp only [List.nodup_cons, List.nodup_append] at q6
    exact q6.2.2.1
  have Q1 := Lib.hid q1; have Q2 := Lib.hid q2; have Q3 := Lib.hid q3; have Q4 := Lib.hid q4; have Q6 := Lib.hid q6; have HND := Lib.hid hnd
  clear q1 q2 q3 q4 q6 hg hp hnd
  obtain ⟨hk0, hk1⟩ := hk
  go_enter Tryz.func56, Tryz.ntmps56
  go_wp2_with fail
  refine (value_ok v _ hv).mono ?_
  rintro e w1 ⟨rfl, hww⟩
  rw [hww]
  clear hww
  go_wp2_with fail
  refine (HG.out _ s st.most n L Q4.out).mono ?_
  rintro e w1 ⟨rfl, hm1⟩
  have d4 := hm1.cellS c4; have d1 := hm1.cellS c1; have d2 := hm1.cellS c2
  have HM1 := Lib.hid hm1
  have HS1 := Lib.hid (Q4.out.mod hm1 (fun _ _ x => x))
  clear hm1 c4 c1 c2
  cases r with
  | some rv =>
    simp only [Option.getD_some, Option.isSome_some]
    go_wp2_with fail
    go_quiet (fail)
    have e4 : (w1.drewN nq).cell? ⟨h, 4, none⟩ = some (.pointer (some ⟨s, 0, none⟩)) := d4
    go_wp2_with fail
    have hdm : Mod NoB w1 (w1.drewN nq) := (Mod.refl _ _).drewN _
    refine (HP.out _ s L (HS1.out.mod hdm (fun _ _ x => x)) HND.out).mono ?_
    rintro e w5 ⟨rfl, L5, hs5, hn5, ht5⟩
    have hres := hold_shelf Q1.out Q2.out Q3.out Q4.out Q6.out (HM1.out.trans hdm) hs5 hn5 ht5
    obtain ⟨B5, hh5, ht5'⟩ := hres
    have HH5 := Lib.hid hh5; have HT5 := Lib.hid ht5'
    clear hs5 hn5 ht5 hh5 ht5' hdm
    go_wp2_with fail
    go_ret
    exact ⟨rfl, B5, HH5.out, HT5.out⟩
  | none =>
    have hroom := hroom rfl
    simp only [Option.getD_none, Option.isSome_none]
    go_wp2_with fail
    go_quiet ((go_at_call 75; refine Calls.quiet_of_same ((slen_any (HS1.out.mod (S := NoB) ((Mod.refl _ _).drewN _) (fun _ _ x => x))).mono (by rintro e w5 ⟨rfl, rfl⟩; exact ⟨rfl, rfl⟩))))
    have e4 : (w1.drewN nq).cell? ⟨h, 4, none⟩ = some (.pointer (some ⟨s, 0, none⟩)) := d4
    have hr : ¬ st.most ≤ (n : Int) + st.kept := by omega
    go_wp2_with fail
    have hdm : Mod NoB w1 (w1.drewN nq) := (Mod.refl _ _).drewN _
    refine (HP.out _ s L (HS1.out.mod hdm (fun _ _ x => x)) HND.out).mono ?_
    rintro e w5 ⟨rfl, L5, hs5, hn5, ht5⟩
    have hres := hold_shelf Q1.out Q2.out Q3.out Q4.out Q6.out (HM1.out.trans hdm) hs5 hn5 ht5
    obtain ⟨B5, hh5, ht5'⟩ := hres
    have HH5 := Lib.hid hh5; have HT5 := Lib.hid ht5'
    clear hs5 hn5 ht5 hh5 ht5' hdm
    go_wp2_with fail
    go_ret
    exact ⟨rfl, B5, HH5.out, HT5.out⟩
end Go.Proofs.YtpcmbnbdppembaaGreatDoor

/- (*hold.Hold).Do: of what is not owned, of what is shut, Get and Put. -/
namespace Go.Proofs.YtpcmbnbdppembaaGreatDoor
set_option linter.unusedSimpArgs false
set_option linter.unusedVariables false
open Go.RowKit Go.Shelf

def wherN : Option Ptr → Int
  | none => -1
  | some p => p.node

/-- the two boxes of a call of Do -/
def DoIn (B : Nat) (W : World) (op : Int) (k v to : ByteArray) (most : Int) : Prop :=
  W.heap[B]? = some (.cells #[.int .i64 op, .string k, .string v, .string to, .int .i64 most] 46 (0, 0)) ∧
    W.heap[B + 1]? = some (.cells #[.int .i64 0, .string ⟨#[]⟩, .slice none 0 0, .bool false, .string ⟨#[]⟩, .int .i64 0] 48 (0, 0))

theorem do_in {w w1 : World} {op : Int} {k v to : ByteArray} {most : Int}
    (hm : Mod NoB ((w.alloc (.cells #[.int .i64 op, .string k, .string v, .string to, .int .i64 most] 46)).alloc (.cells #[.int .i64 0, .string ⟨#[]⟩, .slice none 0 0, .bool false, .string ⟨#[]⟩, .int .i64 0] 48)) w1) :
    DoIn w.heap.size w1 op k v to most ∧ Mod NoB w w1 := by
  refine ⟨⟨?_, ?_⟩, (((Mod.refl NoB w).alloc _).alloc _).trans hm⟩
  · rw [hm.block _ (by simp; omega) (fun x => x), Below.heap_alloc _ _ _ (by simp)]
    exact heap_alloc_new w _
  · rw [hm.block _ (by simp) (fun x => x)]
    have := heap_alloc_new (w.alloc (.cells #[.int .i64 op, .string k, .string v, .string to, .int .i64 most] 46)) (.cells #[.int .i64 0, .string ⟨#[]⟩, .slice none 0 0, .bool false, .string ⟨#[]⟩, .int .i64 0] 48)
    simpa using this

theorem DoIn.mod {S : Nat → Prop} {B : Nat} {W W' : World} {op : Int} {k v to : ByteArray} {most : Int} (h : DoIn B W op k v to most) (hm : Mod S W W') (h1 : ¬ S B) (h2 : ¬ S (B + 1)) : DoIn B W' op k v to most :=
  ⟨(hm.block _ (Array.getElem?_eq_some_iff.1 h.1).1 h1).trans h.1, (hm.block _ (Array.getElem?_eq_some_iff.1 h.2).1 h2).trans h.2⟩

theorem DoIn.ask {B : Nat} {W : World} {op : Int} {k v to : ByteArray} {most : Int} (h : DoIn B W op k v to most) :
    W.cell? ⟨B, 0, none⟩ = some (.int .i64 op) ∧ W.cell? ⟨B, 1, none⟩ = some (.string k) ∧ W.cell? ⟨B, 2, none⟩ = some (.string v) ∧ W.cell? ⟨B, 3, none⟩ = some (.string to) ∧ W.cell? ⟨B, 4, none⟩ = some (.int .i64 most) :=
  ⟨cell_of h.1 0 rfl, cell_of h.1 1 rfl, cell_of h.1 2 rfl, cell_of h.1 3 rfl, cell_of h.1 4 rfl⟩
theorem DoIn.told {B : Nat} {W : World} {op : Int} {k v to : ByteArray} {most : Int} (h : DoIn B W op k v to most) :
    W.cell? ⟨B + 1, 0, none⟩ = some (.int .i64 0) ∧ W.cell? ⟨B + 1, 1, none⟩ = some (.string ⟨#[]⟩) ∧ W.cell? ⟨B + 1, 2, none⟩ = some (.slice none 0 0) ∧ W.cell? ⟨B + 1, 3, none⟩ = some (.bool false) ∧ W.cell? ⟨B + 1, 4, none⟩ = some (.string ⟨#[]⟩) ∧ W.cell? ⟨B + 1, 5, none⟩ = some (.int .i64 0) ∧
    W.frozen? ⟨B + 1, 0, none⟩ = false ∧ W.frozen? ⟨B + 1, 1, none⟩ = false ∧ W.frozen? ⟨B + 1, 2, none⟩ = false ∧ W.frozen? ⟨B + 1, 3, none⟩ = false ∧ W.frozen? ⟨B + 1, 4, none⟩ = false ∧ W.frozen? ⟨B + 1, 5, none⟩ = false :=
  ⟨cell_of h.2 0 rfl, cell_of h.2 1 rfl, cell_of h.2 2 rfl, cell_of h.2 3 rfl, cell_of h.2 4 rfl, cell_of h.2 5 rfl, frozen_of h.2 0, frozen_of h.2 1, frozen_of h.2 2, frozen_of h.2 3, frozen_of h.2 4, frozen_of h.2 5⟩

theorem told_set (w : World) (b : Nat) (x0 x1 x2 x3 x4 x5 : Value) : Mod (· = b) w ((((((w.setCell ⟨b, 0, none⟩ x0).setCell ⟨b, 1, none⟩ x1).setCell ⟨b, 2, none⟩ x2).setCell ⟨b, 3, none⟩ x3).setCell ⟨b, 4, none⟩ x4).setCell ⟨b, 5, none⟩ x5) :=
  ((((((Mod.refl (· = b) w).setCell (p := ⟨b, 0, none⟩) (fun _ => rfl) _).setCell (p := ⟨b, 1, none⟩) (fun _ => rfl) _).setCell (p := ⟨b, 2, none⟩) (fun _ => rfl) _).setCell (p := ⟨b, 3, none⟩) (fun _ => rfl) _).setCell (p := ⟨b, 4, none⟩) (fun _ => rfl) _).setCell (p := ⟨b, 5, none⟩) (fun _ => rfl) _

set_option maxRecDepth 100000 in
set_option maxHeartbeats 8000000 in
theorem do_else {w : World} {h : Nat} {st : HSt} {tr : Option Tree} {n : Nat} {B : List Nat} (hh : HoldAt w h st tr n B) (op : Int) (h1 : 1 ≤ op) (h2 : op ≤ 3) (k v to : ByteArray) (most : Int) (hk1 : 1 ≤ k.size) (hk2 : k.size ≤ 16)
    (hat : st.at (addr k) = none) (hlen : st.pts.length ≤ 1000000) :
    Calls Tryz.prog 16 #[.pointer (some ⟨h, 0, none⟩), encAsk op k v to most] w fun e w' => e = .returned (encTold 8 ⟨#[]⟩ (wherN (st.whereP (addr k)))) ∧ Mod NoB w w' := by
  have HH := Lib.hid hh
  clear hh
  go_enter Tryz.func16, Tryz.ntmps16
  go_wp2_with fail
  refine (hright_ok op h1 h2 k v to most hk1 hk2 _).mono ?_
  rintro e w1 ⟨rfl, hm1⟩
  obtain ⟨hd1, hm01⟩ := do_in hm1
  obtain ⟨a0, a1, a2, a3, a4⟩ := hd1.ask
  have HD1 := Lib.hid hd1; have HM1 := Lib.hid hm01
  clear hm1 hd1 hm01
  go_wp2_with fail
  refine (addr_any k _).mono ?_
  rintro e w2 ⟨rfl, hww⟩
  rw [hww]
  clear hww w2
  go_wp2_with fail
  refine (hasH_any (HH.out.mod HM1.out (fun _ _ x => x)) (addr k)).mono ?_
  rintro e w2 ⟨rfl, hm2⟩
  rw [hat]
  have HM2 := Lib.hid (HM1.out.trans hm2)
  have HD2 := Lib.hid (HD1.out.mod hm2 (fun x => x) (fun x => x))
  clear hm2 a0 a1 a2 a3 a4
  simp only [Option.isSome_none]
  go_wp2_with fail
  refine (where_any (HH.out.mod HM2.out (fun _ _ x => x)) (addr k) hlen).mono ?_
  rintro e w3 ⟨rfl, hm3⟩
  have HM3 := Lib.hid (HM2.out.trans hm3)
  have hd3 := HD2.out.mod hm3 (fun x => x) (fun x => x)
  obtain ⟨b0, b1, b2, b3, b4, b5, g0, g1, g2, g3, g4, g5⟩ := hd3.told
  have hB : ∀ v, Mod NoB w v → Mod NoB w v := fun _ h => h
  clear hm3 hd3 hB
  cases hw : st.whereP (addr k) with
  | none =>
    simp only [whereRes, wherN]
    go_wp2_with fail
    refine bodyPost_ret (v := encTold 8 ⟨#[]⟩ (-1)) (by simp [results, Tryz.results16, go_sem, *]) rfl ⟨by rw [hw]; rfl, ?_⟩
    exact HM3.out.then (told_set w3 (w.heap.size + 1) _ _ _ _ _ _) (fun i hi e => by omega)
  | some p =>
    simp only [whereRes, wherN]
    go_wp2_with fail
    refine bodyPost_ret (v := encTold 8 ⟨#[]⟩ p.node) (by simp [results, Tryz.results16, go_sem, *]) rfl ⟨by rw [hw]; rfl, ?_⟩
    exact HM3.out.then (told_set w3 (w.heap.size + 1) _ _ _ _ _ _) (fun i hi e => by omega)

set_option maxRecDepth 100000 in
set_option maxHeartbeats 8000000 in
theorem do_busy {w : World} {h : Nat} {st : HSt} {tr : Option Tree} {n : Nat} {B : List Nat} (hh : HoldAt w h st tr n B) (op : Int) (h1 : 1 ≤ op) (h2 : op ≤ 3) (k v to : ByteArray) (most : Int) (hk1 : 1 ≤ k.size) (hk2 : k.size ≤ 16)
    (hat : (st.at (addr k)).isSome = true) (hf : (st.shut && inA st.a (addr k)) = true) :
    Calls Tryz.prog 16 #[.pointer (some ⟨h, 0, none⟩), encAsk op k v to most] w fun e w' => e = .returned (encTold 7 ⟨#[]⟩ 0) ∧ Mod NoB w w' := by
  have HH := Lib.hid hh
  clear hh
  go_enter Tryz.func16, Tryz.ntmps16
  go_wp2_with fail
  refine (hright_ok op h1 h2 k v to most hk1 hk2 _).mono ?_
  rintro e w1 ⟨rfl, hm1⟩
  obtain ⟨hd1, hm01⟩ := do_in hm1
  obtain ⟨a0, a1, a2, a3, a4⟩ := hd1.ask
  have HD1 := Lib.hid hd1; have HM1 := Lib.hid hm01
  clear hm1 hd1 hm01
  go_wp2_with fail
  refine (addr_any k _).mono ?_
  rintro e w2 ⟨rfl, hww⟩
  rw [hww]
  clear hww w2
  go_wp2_with fail
  refine (hasH_any (HH.out.mod HM1.out (fun _ _ x => x)) (addr k)).mono ?_
  rintro e w2 ⟨rfl, hm2⟩
  rw [hat]
  have HM2 := Lib.hid (HM1.out.trans hm2)
  have HD2 := Lib.hid (HD1.out.mod hm2 (fun x => x) (fun x => x))
  clear hm2 a0 a1 a2 a3 a4
  go_wp2_with fail
  refine (frozen_any (HH.out.mod HM2.out (fun _ _ x => x)) (addr k)).mono ?_
  rintro e w3 ⟨rfl, hm3⟩
  rw [hf]
  have HM3 := Lib.hid (HM2.out.trans hm3)
  have hd3 := HD2.out.mod hm3 (fun x => x) (fun x => x)
  obtain ⟨b0, b1, b2, b3, b4, b5, g0, g1, g2, g3, g4, g5⟩ := hd3.told
  clear hm3 hd3
  go_wp2_with fail
  refine bodyPost_ret (v := encTold 7 ⟨#[]⟩ 0) (by simp [results, Tryz.results16, go_sem, *]) rfl ⟨rfl, ?_⟩
  exact HM3.out.then (told_set w3 (w.heap.size + 1) _ _ _ _ _ _) (fun i hi e => by omega)

set_option maxRecDepth 100000 in
set_option maxHeartbeats 8000000 in
theorem do_put {w : World} {h : Nat} {st : HSt} {tr tr' : Option Tree} {n n' : Nat} {B : List Nat} (hh : HoldAt w h st tr n B) (k v to : ByteArray) (most : Int) (hk1 : 1 ≤ k.size) (hk2 : k.size ≤ 16)
    (hat : (st.at (addr k)).isSome = true) (hf : (st.shut && inA st.a (addr k)) = false) {r : Option ByteArray} (hv : v.size ≤ 16) (hg : GetOK tr k r) (hp : PutOK tr n st.most k v tr' n')
    (hn : n ≤ 1000000) (hk : 0 ≤ st.kept ∧ st.kept ≤ 1000000) (hroom : r = none → (n : Int) + st.kept < st.most) :
    Calls Tryz.prog 16 #[.pointer (some ⟨h, 0, none⟩), encAsk 2 k v to most] w fun e w' => e = .returned (encTold 0 ⟨#[]⟩ 0) ∧ ∃ B', HoldAt w' h st tr' n' B' ∧ Turn B w w' B' := by
  have HH := Lib.hid hh
  have HLT := Lib.hid hh.lts
  clear hh
  go_enter Tryz.func16, Tryz.ntmps16
  go_wp2_with fail
  refine (hright_ok 2 (by decide) (by decide) k v to most hk1 hk2 _).mono ?_
  rintro e w1 ⟨rfl, hm1⟩
  obtain ⟨hd1, hm01⟩ := do_in hm1
  obtain ⟨a0, a1, a2, a3, a4⟩ := hd1.ask
  have HD1 := Lib.hid hd1; have HM1 := Lib.hid hm01
  clear hm1 hd1 hm01
  go_wp2_with fail
  refine (addr_any k _).mono ?_
  rintro e w2 ⟨rfl, hww⟩
  rw [hww]
  clear hww w2
  go_wp2_with fail
  refine (hasH_any (HH.out.mod HM1.out (fun _ _ x => x)) (addr k)).mono ?_
  rintro e w2 ⟨rfl, hm2⟩
  rw [hat]
  have HM2 := Lib.hid (HM1.out.trans hm2)
  have HD2 := Lib.hid (HD1.out.mod hm2 (fun x => x) (fun x => x))
  clear hm2 a0 a1 a2 a3 a4
  go_wp2_with fail
  refine (frozen_any (HH.out.mod HM2.out (fun _ _ x => x)) (addr k)).mono ?_
  rintro e w3 ⟨rfl, hm3⟩
  rw [hf]
  have HM3 := Lib.hid (HM2.out.trans hm3)
  have hd3 := HD2.out.mod hm3 (fun x => x) (fun x => x)
  obtain ⟨a0, a1, a2, a3, a4⟩ := hd3.ask
  have HD3 := Lib.hid hd3
  clear hm3 hd3
  go_wp2_with fail
  refine (hput_ok (HH.out.mod HM3.out (fun _ _ x => x)) hv hg hp hn hk hroom).mono ?_
  rintro e w4 ⟨rfl, B4, hh4, ht4⟩
  have hnb : w.heap.size ∉ B ∧ w.heap.size + 1 ∉ B := ⟨fun hb => by have := HLT.out _ hb; omega, fun hb => by have := HLT.out _ hb; omega⟩
  have hd4 := HD3.out.mod ht4.1 hnb.1 hnb.2
  have hlt4 : w.heap.size + 1 < w3.heap.size := (Array.getElem?_eq_some_iff.1 HD3.out.2).1
  have hnb4 : w.heap.size + 1 ∉ B4 := fun hb => by
    rcases ht4.2 _ hb with hb | hb
    · exact hnb.2 hb
    · omega
  obtain ⟨b0, b1, b2, b3, b4, b5, g0, g1, g2, g3, g4, g5⟩ := hd4.told
  have HH4 := Lib.hid hh4; have HT4 := Lib.hid ht4; have HNB := Lib.hid hnb4
  clear hh4 ht4 hd4 hnb a0 a1 a2 a3 a4 hnb4 hlt4
  go_wp2_with fail
  have hm5 := told_set w4 (w.heap.size + 1) (.int .i64 0) (.string ⟨#[]⟩) (.slice none 0 0) (.bool false) (.string ⟨#[]⟩) (.int .i64 0)
  refine bodyPost_ret (v := encTold 0 ⟨#[]⟩ 0) (by simp [results, Tryz.results16, go_sem, *]) rfl ⟨rfl, B4, HH4.out.mod hm5 (fun g hg e => HNB.out (e ▸ hg)), ?_⟩
  have h1 : Turn B w w4 B4 := Turn.trans (B := B) ⟨HM3.out.mono (fun _ _ x => x.elim), fun _ hk => .inl hk⟩ HT4.out
  exact ⟨h1.1.then hm5 (fun i hi e => by omega), h1.2⟩
end Go.Proofs.YtpcmbnbdppembaaGreatDoor
