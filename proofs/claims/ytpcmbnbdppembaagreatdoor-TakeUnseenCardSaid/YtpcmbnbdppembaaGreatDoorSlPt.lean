/- Package slices at elements of 3 cells (Pt): Insert. Printed by gen_sl.py. -/
import Derived.Test.YtpcmbnbdppembaaGreatDoorSlKit
import Derived.BigRegion
import Derived.Deep.RegionLaw
import Derived.Deep.AppendLies
import Derived.Deep.DrawnRows
namespace Go.Proofs.YtpcmbnbdppembaaGreatDoor
set_option linter.unusedSimpArgs false
set_option linter.unusedVariables false
open Go.RowKit Go.Shelf
attribute [local go_sem ↓] Go.wp_at_zero Go.wp_at_succ

theorem infPt : (Tryz.prog.info? 211).map (fun i => (i.zero, i.size, decide (i.bytes ≤ 64))) = some (some (.agg #[.int .u64 0, .int .i64 0, .int .i64 0]), 3, true) := by kernel_rfl
theorem tySPt : Tryz.prog.underlying 144 = some (.slice 211) := by kernel_rfl
theorem tyIntPt : Tryz.prog.underlying 3 = some (.int .i64) := by kernel_rfl
theorem szPt : (Tryz.prog.info? 211).map (·.size) = some 3 := by kernel_rfl
theorem partsPt : ∃ i z, Tryz.prog.info? 211 = some i ∧ i.zero = some z ∧ i.size = 3 ∧ z.cells.size = 3 ∧ i.bytes ≤ 64 := by
  have h := infPt
  cases hi : Tryz.prog.info? 211 with
  | none => rw [hi] at h; cases h
  | some i =>
    rw [hi] at h
    simp only [Option.map_some, Option.some.injEq, Prod.mk.injEq, decide_eq_true_eq] at h
    obtain ⟨hz, hs, hb⟩ := h
    exact ⟨i, _, rfl, hz, hs, rfl, hb⟩

abbrev RowPt (w : World) (v : Value) (n : Nat) (cs : List Value) : Prop := w.ownsRow 0 211 3 v n cs

/-- what Insert gives -/
def InsPt (w : World) (v : Value) (n : Nat) (xs : List Value) (e : Ending) (w' : World) : Prop :=
  ∃ c cap, e = .returned (.slice (some ⟨c, 0, none⟩) (n + 1) cap) ∧ RowPt w' (.slice (some ⟨c, 0, none⟩) (n + 1) cap) (n + 1) xs ∧ Mod (· ∈ ownL v) w w' ∧ (c ∈ ownL v ∨ w.heap.size ≤ c)

set_option maxRecDepth 100000 in
set_option maxHeartbeats 8000000 in
theorem ins_shiftPt {w : World} {b c n i g : Nat} {cs news : List Value} (h : RowPt w (.slice (some ⟨b, 0, none⟩) n c) n cs) (h1c : ∀ u ∈ cs, u.oneCell' = true) (hi : i < n) (hroom : n + 1 ≤ c)
    (hg : w.heap[g]? = some (.cells news.toArray 211 (0, 0))) (hl : news.length = 3) (h1v : ∀ u ∈ news, u.oneCell' = true) (hne : g ≠ b) :
    Calls Tryz.prog 202 #[.slice (some ⟨b, 0, none⟩) n c, .int .i64 i, .slice (some ⟨g, 0, none⟩) 1 1] w (InsPt w (.slice (some ⟨b, 0, none⟩) n c) n (cs.take (i * 3) ++ (news ++ cs.drop (i * 3)))) := by
  obtain ⟨_, cur, hb, hnc, hcm, hcs, htk⟩ := ownsRow_block h
  have hov : ∀ o lb cb, (callFunc 221 #[.slice (some ⟨g, 0, none⟩) 1 1, .slice (some ⟨b, o, none⟩) lb cb]).run Tryz.prog w = .ok (.value (.bool false)) w := fun o lb cb => by
    rw [run_callFunc_extern Tryz.func221 (by kernel_rfl) (by kernel_rfl) (by kernel_rfl) (e := Extern.SlicesOverlaps.overlaps #[144, 144] #[4]) (by kernel_rfl),
      Lib.run_overlaps_apart w 144 4 211 tySPt 3 (fun _ => by kernel_rfl) ⟨g, 0, none⟩ ⟨b, o, none⟩ 1 1 lb cb hne 211 211 3 cur.size (by simp [World.shape?, hg, hl]) (by simp [World.shape?, hb]) (by rw [hcs]; omega) (frozen_of hg 0) (frozen_of hg 3)]
    rfl
  unfold maxLen at hcm
  have H := Lib.hid h; have HB := Lib.hid hb; have HG := Lib.hid hg; have HT := Lib.hid htk; have HS := Lib.hid hcs; have HL := Lib.hid hl; have H1C := Lib.hid h1c; have H1V := Lib.hid h1v
  clear h hb hg htk hcs hl h1c h1v
  have hin : i ≤ n := by omega
  have hw1 : IntKind.i64.wrap ((i : Int) + 1) = (i : Int) + 1 := by rw [IntKind.wrap_i64]; omega
  have hz2 : ¬ ((i : Int) = (n : Int)) := by omega
  have htn : ((i : Int) + 1).toNat = i + 1 := by omega
  have hb2 : ¬ (c = i + 1) := by omega
  have hb4 : ¬ (c = i) := by omega
  have hbi1 : (0 : Int) ≤ (i : Int) + 1 := by omega
  have hbi3 : (i : Int) ≤ (n : Int) + 1 := by omega
  have hdl : (cs.drop (i * 3)).length = (n - i) * 3 := by rw [List.length_drop, H.out.1]; omega
  have HDL := Lib.hid hdl
  clear hdl
  go_enter Tryz.func202, Tryz.ntmps202
  go_wp2_with (simp only [hov])
  go_region_law ((refine step_copied (by rfl) (.tmp 73) (.tmp 76) 144 144 (by rfl) 211 3 tySPt szPt b ((i + 1) * 3) (n - i) (c - (i + 1)) ⟨b, i * 3, none⟩ (n + 1 - i) (c - i) (by simp [Act.eval, Act.put]) (by simp [Act.eval, Act.put]) cur HB.out (cs.drop (i * 3)) (by rw [HDL.out, show Nat.min (n + 1 - i) (n - i) = n - i from Nat.min_eq_right (by omega)]) (fun j v hj => by
      rw [addr_lit]
      have := H.out.cells (g := b) rfl (i * 3 + j) v (by rwa [List.getElem?_drop] at hj)
      rw [addr_lit] at this
      simpa using this) (by rw [HDL.out, HS.out]; omega) (fun v hv => H1C.out v (List.mem_of_mem_drop hv)) ?_; intro w1 cur1 C1; have hg1 : w1.heap[g]? = some (.cells news.toArray 211 (0, 0)) := (by rw [C1.mod.block g (Array.getElem?_eq_some_iff.1 HG.out).1 hne]; exact HG.out); have HG1 := Lib.hid hg1; have HC1 := Lib.hid C1; clear hg1 C1))
  go_wp2_with ((with_reducible refine wpList_copied rfl (.tmp 80) (.tmp 81) 144 144 rfl 211 3 tySPt szPt b (i * 3) (n + 1 - i) (c - i) ⟨g, 0, none⟩ 1 1 rfl rfl cur1 HC1.out.heap news ?_ ?_ ?_ H1V.out ?_); (first | (rw [HL.out, show Nat.min 1 (n + 1 - i) = 1 from Nat.min_eq_left (by omega)]) | skip); (exact fun j v hj => World.news_of_block HG1.out j v hj); (rw [HC1.out.size, HS.out, HL.out]; omega); intro w2 cur2 C2; have HC2 := Lib.hid C2; clear C2)
  go_ret
  refine ⟨b, c, rfl, ownsRow_of_heap HC2.out.heap hroom (by unfold maxLen; omega) (by rw [HC2.out.size, HC1.out.size, HS.out]) ?_, ((Mod.refl _ _).drew.trans HC1.out.mod).trans HC2.out.mod |>.mono (fun k _ e => by simp [ownL, Value.ownBlock, e]), .inl (by simp [ownL, Value.ownBlock])⟩
  rw [Nat.add_mul]
  refine shift_row (N := n * 3) (k := 1 * 3) (c1 := cur1.toList) (by omega) (by simp [HS.out]; omega) HT.out HL.out ?_ ?_
  · simpa [Nat.add_mul] using HC1.out.list
  · simpa using HC2.out.list

set_option maxRecDepth 100000 in
set_option maxHeartbeats 8000000 in
theorem ins_growPt {w : World} {b c n i g : Nat} {cs news : List Value} (h : RowPt w (.slice (some ⟨b, 0, none⟩) n c) n cs) (h1c : ∀ u ∈ cs, u.oneCell' = true) (hi : i < n) (hroom : c < n + 1) (hbig : n ≤ 100000)
    (hg : w.heap[g]? = some (.cells news.toArray 211 (0, 0))) (hl : news.length = 3) (h1v : ∀ u ∈ news, u.oneCell' = true) :
    Calls Tryz.prog 202 #[.slice (some ⟨b, 0, none⟩) n c, .int .i64 i, .slice (some ⟨g, 0, none⟩) 1 1] w (InsPt w (.slice (some ⟨b, 0, none⟩) n c) n (cs.take (i * 3) ++ (news ++ cs.drop (i * 3)))) := by
  obtain ⟨_, cur, hb, hnc, hcm, hcs, htk⟩ := ownsRow_block h
  obtain ⟨i0, z0, hii, hz0, hzi1, hzi2, hzi3⟩ := partsPt
  have hlt := own_lt h b (by simp [ownL, Value.ownBlock])
  have hltg : g < w.heap.size := (Array.getElem?_eq_some_iff.1 hg).1
  have hold : (Builtin.firstCells 3 i (.slice (some ⟨b, 0, none⟩) i c)).run Tryz.prog w.drew = .ok (cs.take (i * 3)).toArray w.drew :=
    run_firstCells_some w.drew 3 i ⟨b, 0, none⟩ i c (cs.take (i * 3)) (by rw [List.length_take, h.1]; omega) (fun j v hj => by
      rw [List.getElem?_take] at hj
      split at hj
      · exact h.cells (g := b) rfl j v hj
      · cases hj)
  have hol : (cs.take (i * 3)).length = i * 3 := by rw [List.length_take, h.1]; omega
  have HOLD := Lib.hid hold; have HOL := Lib.hid hol; have HI := Lib.hid hii; have HZ0 := Lib.hid hz0; have HZ1 := Lib.hid hzi1; have HZ2 := Lib.hid hzi2
  unfold maxLen at hcm
  have H := Lib.hid h; have HB := Lib.hid hb; have HG := Lib.hid hg; have HT := Lib.hid htk; have HS := Lib.hid hcs; have HL := Lib.hid hl; have H1C := Lib.hid h1c; have H1V := Lib.hid h1v
  clear h hb hg htk hcs hl h1c h1v hold hol hii hz0 hzi1 hzi2
  have hin : i ≤ n := by omega
  have hw1 : IntKind.i64.wrap ((i : Int) + 1) = (i : Int) + 1 := by rw [IntKind.wrap_i64]; omega
  have hz2 : ¬ ((i : Int) = (n : Int)) := by omega
  have hz3 : (c : Int) < (n : Int) + 1 := by omega
  have htn : ((i : Int) + 1).toNat = i + 1 := by omega
  have hb4 : ¬ (c = i) := by omega
  have hbi1 : (0 : Int) ≤ (i : Int) + 1 := by omega
  have hbi3 : (i : Int) ≤ (n : Int) := by omega
  have hik : i + (n + 1 - i) = n + 1 := by omega
  have HIK := Lib.hid hik
  clear hik
  have hdl : (cs.drop (i * 3)).length = (n - i) * 3 := by rw [List.length_drop, H.out.1]; omega
  have HDL := Lib.hid hdl
  clear hdl
  have hbN : b ≠ w.heap.size := by omega
  go_enter Tryz.func202, Tryz.ntmps202
  go_wp2_with (first
    | (at_builtin; (refine wpList_zeroed rfl (.tmp 34) (.tmp 39) 144 3 rfl 211 i0 z0 3 .i64 .i64 tySPt tyIntPt HI.out HZ0.out HZ1.out HZ2.out hzi3 (some ⟨b, 0, none⟩) i c ((n : Int) + 1 - (i : Int)) rfl rfl (cs.take (i * 3)) HOLD.out HOL.out (n + 1 - i) (by omega) (by omega) (by decide) (by omega) (by omega) ?_; intro w1 G cur1 hG1 hG2 Z1; rw [HIK.out] at hG1 ⊢; have HZ := Lib.hid Z1; have hG3 : ¬ (G = i) := (by omega); have hG4 : ¬ (G = i + 1) := (by omega); have hG5 : G ≤ 9223372036854775807 := (by unfold maxLen at hG2; omega); obtain ⟨N, hN⟩ : ∃ N, N = w.heap.size := ⟨_, rfl⟩; rw [← hN] at hbN ⊢; have HN := Lib.hid hN; clear Z1 hN hG2))
    | ((with_reducible refine wpList_copied rfl (.tmp 43) (.tmp 44) 144 144 rfl 211 3 tySPt szPt N (i * 3) (n + 1 - i) (G - i) ⟨g, 0, none⟩ 1 1 rfl rfl cur1 (by rw [HN.out]; exact HZ.out.heap) news ?_ ?_ ?_ H1V.out ?_); (first | (rw [HL.out, show Nat.min 1 (n + 1 - i) = 1 from Nat.min_eq_left (by omega)]) | skip); (exact fun j v hj => World.news_of_block (by rw [HZ.out.mod.block g hltg (fun x => x)]; exact HG.out) j v hj); (rw [HZ.out.size, HL.out]; omega); intro w2 cur2 C2; have HC2 := Lib.hid C2; clear C2))
  go_region_law ((refine step_copied (by rfl) (.tmp 50) (.tmp 53) 144 144 (by rfl) 211 3 tySPt szPt N ((i + 1) * 3) (n - i) (G - (i + 1)) ⟨b, i * 3, none⟩ (n - i) (c - i) (by simp [Act.eval, Act.put]) (by simp [Act.eval, Act.put]) cur2 HC2.out.heap (cs.drop (i * 3)) (by rw [HDL.out, show Nat.min (n - i) (n - i) = n - i from Nat.min_self _]) (fun j v hj => by
      have h0 := H.out.cells (g := b) rfl (i * 3 + j) v (by rwa [List.getElem?_drop] at hj)
      have h1 := (HC2.out.mod.cell (p := (⟨b, 0, none⟩ : Addr).add (i * 3 + j)) (by rw [addr_lit]; exact Nat.lt_of_lt_of_le hlt HZ.out.mod.size) (by rw [addr_lit]; exact hbN)).trans (HZ.out.mod.cellS h0)
      rw [addr_lit] at h1 ⊢
      simpa using h1) (by rw [HDL.out, HC2.out.size, HZ.out.size]; omega) (fun v hv => H1C.out v (List.mem_of_mem_drop hv)) ?_; intro w3 cur3 C3; have HC3 := Lib.hid C3; clear C3))
  go_wp2_with fail
  go_ret
  obtain ⟨Z, hZ, hZl⟩ := HZ.out.list
  have hmN : ∀ k, k < w.heap.size → k = N → k ∈ ownL (.slice (some ⟨b, 0, none⟩) n c) := fun k hk e => by have := HN.out; omega
  refine ⟨N, G, rfl, ownsRow_of_heap HC3.out.heap hG1 (by unfold maxLen; omega) (by rw [HC3.out.size, HC2.out.size, HZ.out.size]) ?_, (((HZ.out.mod.mono (fun _ _ x => x.elim)).then HC2.out.mod hmN).drew).then HC3.out.mod hmN, .inr (by rw [HN.out]; exact Nat.le_refl _)⟩
  rw [Nat.add_mul]
  refine grow_row (N := n * 3) (k := 1 * 3) (Z := Z) (c0 := cur1.toList) (c1 := cur2.toList) (by omega) H.out.1 HL.out (by omega) hZ ?_ ?_
  · simpa using HC2.out.list
  · simpa [Nat.add_mul] using HC3.out.list

set_option maxRecDepth 100000 in
set_option maxHeartbeats 8000000 in
theorem ins_endPt {w : World} {v : Value} {n g : Nat} {cs news : List Value} (h : RowPt w v n cs) (hbig : n ≤ 100000)
    (hg : w.heap[g]? = some (.cells news.toArray 211 (0, 0))) (hl : news.length = 3) (h1v : ∀ u ∈ news, u.oneCell' = true) :
    Calls Tryz.prog 202 #[v, .int .i64 n, .slice (some ⟨g, 0, none⟩) 1 1] w (InsPt w v n (cs ++ news)) := by
  obtain ⟨i0, z0, hii, hz0, hzi1, hzi2, hzi3⟩ := partsPt
  have hv : ∃ a c, v = .slice a n c ∧ n ≤ c := by
    rcases h.2 with ⟨e, h0⟩ | ⟨b, c, cur, e, _, _, hnc, _⟩
    · exact ⟨none, 0, by rw [e, h0], by omega⟩
    · exact ⟨_, c, e, hnc⟩
  obtain ⟨a, c, rfl, hnc⟩ := hv
  have hlo := own_lt h
  have hcn : n = c ∨ ¬ c = n := by omega
  have H := Lib.hid h; have HG := Lib.hid hg; have HL := Lib.hid hl; have H1V := Lib.hid h1v; have HLO := Lib.hid hlo
  have HI := Lib.hid hii; have HZ0 := Lib.hid hz0; have HZ1 := Lib.hid hzi1; have HZ2 := Lib.hid hzi2
  clear h hg hl h1v hlo hii hz0 hzi1 hzi2
  rcases hcn with rfl | hcn
  all_goals
    go_enter Tryz.func202, Tryz.ntmps202
    go_wp2_with (at_builtin; go_loud (refine wpList_append_lies _ rfl _ _ 144 rfl 0 211 i0 z0 3 i0.bytes tySPt HI.out HZ0.out HZ1.out rfl HZ2.out (by decide) _ n cs rfl H.out ⟨g, 0, none⟩ 1 1 news rfl (by rw [HL.out]) (by intro j u hu; exact World.news_of_block HG.out j u hu) H1V.out (by decide) (by unfold maxLen; omega) (by exact Nat.le_trans (Nat.mul_le_mul (show n + 1 ≤ 100001 by omega) hzi3) (by decide)) (Nat.zero_le _) _ rfl ?_; intro c1 cap w3 hown hgrow hat hlt3; have G1 := Lib.hid hown; have G2 : Hid (w.grownBy w3 (Value.slice a n _).ownBlock) := Lib.hid hgrow; have G3 : Hid ((Value.slice a n _).ownBlock = some c1 ∨ c1 = w.heap.size) := Lib.hid hat; clear hown hgrow hat))
    go_ret
    refine ⟨c1, cap, rfl, G1.out, grown_modS (v := .slice a n _) (Mod.refl _ _) G2.out (fun k hk => hk), ?_⟩
    rcases G3.out with e | e
    · exact .inl (by simp [ownL, e])
    · exact .inr (Nat.le_of_eq e.symm)

theorem insPt {w : World} {v : Value} {n i g : Nat} {cs news : List Value} (h : RowPt w v n cs) (h1c : ∀ u ∈ cs, u.oneCell' = true) (hi : i ≤ n) (hbig : n ≤ 100000)
    (hg : w.heap[g]? = some (.cells news.toArray 211 (0, 0))) (hl : news.length = 3) (h1v : ∀ u ∈ news, u.oneCell' = true) (hne : g ∉ ownL v) :
    Calls Tryz.prog 202 #[v, .int .i64 i, .slice (some ⟨g, 0, none⟩) 1 1] w (InsPt w v n (cs.take (i * 3) ++ (news ++ cs.drop (i * 3)))) := by
  by_cases hin : i = n
  · subst hin
    rw [List.take_of_length_le (by rw [h.1]; exact Nat.le_refl _), List.drop_eq_nil_of_le (by rw [h.1]; exact Nat.le_refl _), List.append_nil]
    exact ins_endPt h hbig hg hl h1v
  · rcases ownsRow_form h with ⟨_, h0⟩ | ⟨b, c, rfl⟩
    · omega
    · by_cases hr : n + 1 ≤ c
      · exact ins_shiftPt h h1c (by omega) hr hg hl h1v (fun e => hne (by simp [ownL, Value.ownBlock, e]))
      · exact ins_growPt h h1c (by omega) (by omega) hbig hg hl h1v
end Go.Proofs.YtpcmbnbdppembaaGreatDoor
