/- Put together out of: SlNd, SlNdMore. -/
import Derived.Test.YtpcmbnbdppembaaGreatDoorSlKit
import Derived.BigRegion
import Derived.Deep.RegionLaw
import Derived.Deep.AppendLies
import Derived.Deep.DrawnRows
/- Package slices at elements of 1 cells (Nd): Insert. Printed by gen_sl.py. -/
namespace Go.Proofs.YtpcmbnbdppembaaGreatDoor
set_option linter.unusedSimpArgs false
set_option linter.unusedVariables false
open Go.RowKit Go.Shelf
attribute [local go_sem ↓] Go.wp_at_zero Go.wp_at_succ

theorem infNd : (Tryz.prog.info? 185).map (fun i => (i.zero, i.size, decide (i.bytes ≤ 64))) = some (some (.pointer none), 1, true) := by kernel_rfl
theorem tySNd : Tryz.prog.underlying 188 = some (.slice 185) := by kernel_rfl
theorem tyIntNd : Tryz.prog.underlying 3 = some (.int .i64) := by kernel_rfl
theorem szNd : (Tryz.prog.info? 185).map (·.size) = some 1 := by kernel_rfl
theorem partsNd : ∃ i z, Tryz.prog.info? 185 = some i ∧ i.zero = some z ∧ i.size = 1 ∧ z.cells.size = 1 ∧ i.bytes ≤ 64 := by
  have h := infNd
  cases hi : Tryz.prog.info? 185 with
  | none => rw [hi] at h; cases h
  | some i =>
    rw [hi] at h
    simp only [Option.map_some, Option.some.injEq, Prod.mk.injEq, decide_eq_true_eq] at h
    obtain ⟨hz, hs, hb⟩ := h
    exact ⟨i, _, rfl, hz, hs, rfl, hb⟩

abbrev RowNd (w : World) (v : Value) (n : Nat) (cs : List Value) : Prop := w.ownsRow 0 185 1 v n cs

/-- what Insert gives -/
def InsNd (w : World) (v : Value) (n : Nat) (xs : List Value) (e : Ending) (w' : World) : Prop :=
  ∃ c cap, e = .returned (.slice (some ⟨c, 0, none⟩) (n + 1) cap) ∧ RowNd w' (.slice (some ⟨c, 0, none⟩) (n + 1) cap) (n + 1) xs ∧ Mod (· ∈ ownL v) w w' ∧ (c ∈ ownL v ∨ w.heap.size ≤ c)

set_option maxRecDepth 100000 in
set_option maxHeartbeats 8000000 in
theorem ins_shiftNd {w : World} {b c n i g : Nat} {cs news : List Value} (h : RowNd w (.slice (some ⟨b, 0, none⟩) n c) n cs) (h1c : ∀ u ∈ cs, u.oneCell' = true) (hi : i < n) (hroom : n + 1 ≤ c)
    (hg : w.heap[g]? = some (.cells news.toArray 185 (0, 0))) (hl : news.length = 1) (h1v : ∀ u ∈ news, u.oneCell' = true) (hne : g ≠ b) :
    Calls Tryz.prog 210 #[.slice (some ⟨b, 0, none⟩) n c, .int .i64 i, .slice (some ⟨g, 0, none⟩) 1 1] w (InsNd w (.slice (some ⟨b, 0, none⟩) n c) n (cs.take (i * 1) ++ (news ++ cs.drop (i * 1)))) := by
  obtain ⟨_, cur, hb, hnc, hcm, hcs, htk⟩ := ownsRow_block h
  have hov : ∀ o lb cb, (callFunc 225 #[.slice (some ⟨g, 0, none⟩) 1 1, .slice (some ⟨b, o, none⟩) lb cb]).run Tryz.prog w = .ok (.value (.bool false)) w := fun o lb cb => by
    rw [run_callFunc_extern Tryz.func225 (by kernel_rfl) (by kernel_rfl) (by kernel_rfl) (e := Extern.SlicesOverlaps.overlaps #[188, 188] #[4]) (by kernel_rfl),
      Lib.run_overlaps_apart w 188 4 185 tySNd 1 (fun _ => by kernel_rfl) ⟨g, 0, none⟩ ⟨b, o, none⟩ 1 1 lb cb hne 185 185 1 cur.size (by simp [World.shape?, hg, hl]) (by simp [World.shape?, hb]) (by rw [hcs]; omega) (frozen_of hg 0) (frozen_of hg 1)]
    rfl
  unfold maxLen at hcm
  have H := Lib.hid h; have HB := Lib.hid hb; have HG := Lib.hid hg; have HT := Lib.hid htk; have HS := Lib.hid hcs; have HL := Lib.hid hl; have H1C := Lib.hid h1c; have H1V := Lib.hid h1v
  clear h hb hg htk hcs hl h1c h1v
  have hin : i ≤ n := by omega
  have hw1 : IntKind.i64.wrap ((i : Int) + 1) = (i : Int) + 1 := by rw [IntKind.wrap_i64]; omega
  have hz2 : ¬ ((i : Int) = (n : Int)) := by omega
  have htn : ((i : Int) + 1).toNat = i + 1 := by omega
  have hb2 : ¬ (c = i + 1) := by omega
  have hb4 : ¬ (c = i) := by omega
  have hbi1 : (0 : Int) ≤ (i : Int) + 1 := by omega
  have hbi3 : (i : Int) ≤ (n : Int) + 1 := by omega
  have hdl : (cs.drop (i * 1)).length = (n - i) * 1 := by rw [List.length_drop, H.out.1]; omega
  have HDL := Lib.hid hdl
  clear hdl
  go_enter Tryz.func210, Tryz.ntmps210
  go_wp2_with (simp only [hov])
  go_region_law ((refine step_copied (by rfl) (.tmp 73) (.tmp 76) 188 188 (by rfl) 185 1 tySNd szNd b ((i + 1)) (n - i) (c - (i + 1)) ⟨b, i, none⟩ (n + 1 - i) (c - i) (by simp [Act.eval, Act.put]) (by simp [Act.eval, Act.put]) cur HB.out (cs.drop (i * 1)) (by rw [HDL.out, show Nat.min (n + 1 - i) (n - i) = n - i from Nat.min_eq_right (by omega)]) (fun j v hj => by
      rw [addr_lit]
      have := H.out.cells (g := b) rfl (i * 1 + j) v (by rwa [List.getElem?_drop] at hj)
      rw [addr_lit] at this
      simpa using this) (by rw [HDL.out, HS.out]; omega) (fun v hv => H1C.out v (List.mem_of_mem_drop hv)) ?_; intro w1 cur1 C1; have hg1 : w1.heap[g]? = some (.cells news.toArray 185 (0, 0)) := (by rw [C1.mod.block g (Array.getElem?_eq_some_iff.1 HG.out).1 hne]; exact HG.out); have HG1 := Lib.hid hg1; have HC1 := Lib.hid C1; clear hg1 C1))
  go_wp2_with ((with_reducible refine wpList_copied rfl (.tmp 80) (.tmp 81) 188 188 rfl 185 1 tySNd szNd b (i) (n + 1 - i) (c - i) ⟨g, 0, none⟩ 1 1 rfl rfl cur1 HC1.out.heap news ?_ ?_ ?_ H1V.out ?_); (first | (rw [HL.out, show Nat.min 1 (n + 1 - i) = 1 from Nat.min_eq_left (by omega)]) | skip); (exact fun j v hj => World.news_of_block HG1.out j v hj); (rw [HC1.out.size, HS.out, HL.out]; omega); intro w2 cur2 C2; have HC2 := Lib.hid C2; clear C2)
  go_ret
  refine ⟨b, c, rfl, ownsRow_of_heap HC2.out.heap hroom (by unfold maxLen; omega) (by rw [HC2.out.size, HC1.out.size, HS.out]) ?_, ((Mod.refl _ _).drew.trans HC1.out.mod).trans HC2.out.mod |>.mono (fun k _ e => by simp [ownL, Value.ownBlock, e]), .inl (by simp [ownL, Value.ownBlock])⟩
  rw [Nat.add_mul]
  refine shift_row (N := n * 1) (k := 1 * 1) (c1 := cur1.toList) (by omega) (by simp [HS.out]; omega) HT.out HL.out ?_ ?_
  · simpa [Nat.add_mul] using HC1.out.list
  · simpa using HC2.out.list

set_option maxRecDepth 100000 in
set_option maxHeartbeats 8000000 in
theorem ins_growNd {w : World} {b c n i g : Nat} {cs news : List Value} (h : RowNd w (.slice (some ⟨b, 0, none⟩) n c) n cs) (h1c : ∀ u ∈ cs, u.oneCell' = true) (hi : i < n) (hroom : c < n + 1) (hbig : n ≤ 100000)
    (hg : w.heap[g]? = some (.cells news.toArray 185 (0, 0))) (hl : news.length = 1) (h1v : ∀ u ∈ news, u.oneCell' = true) :
    Calls Tryz.prog 210 #[.slice (some ⟨b, 0, none⟩) n c, .int .i64 i, .slice (some ⟨g, 0, none⟩) 1 1] w (InsNd w (.slice (some ⟨b, 0, none⟩) n c) n (cs.take (i * 1) ++ (news ++ cs.drop (i * 1)))) := by
  obtain ⟨_, cur, hb, hnc, hcm, hcs, htk⟩ := ownsRow_block h
  obtain ⟨i0, z0, hii, hz0, hzi1, hzi2, hzi3⟩ := partsNd
  have hlt := own_lt h b (by simp [ownL, Value.ownBlock])
  have hltg : g < w.heap.size := (Array.getElem?_eq_some_iff.1 hg).1
  have hold : (Builtin.firstCells 1 i (.slice (some ⟨b, 0, none⟩) i c)).run Tryz.prog w.drew = .ok (cs.take (i * 1)).toArray w.drew :=
    run_firstCells_some w.drew 1 i ⟨b, 0, none⟩ i c (cs.take (i * 1)) (by rw [List.length_take, h.1]; omega) (fun j v hj => by
      rw [List.getElem?_take] at hj
      split at hj
      · exact h.cells (g := b) rfl j v hj
      · cases hj)
  have hol : (cs.take (i * 1)).length = i * 1 := by rw [List.length_take, h.1]; omega
  have HOLD := Lib.hid hold; have HOL := Lib.hid hol; have HI := Lib.hid hii; have HZ0 := Lib.hid hz0; have HZ1 := Lib.hid hzi1; have HZ2 := Lib.hid hzi2
  unfold maxLen at hcm
  have H := Lib.hid h; have HB := Lib.hid hb; have HG := Lib.hid hg; have HT := Lib.hid htk; have HS := Lib.hid hcs; have HL := Lib.hid hl; have H1C := Lib.hid h1c; have H1V := Lib.hid h1v
  clear h hb hg htk hcs hl h1c h1v hold hol hii hz0 hzi1 hzi2
  have hin : i ≤ n := by omega
  have hw1 : IntKind.i64.wrap ((i : Int) + 1) = (i : Int) + 1 := by rw [IntKind.wrap_i64]; omega
  have hz2 : ¬ ((i : Int) = (n : Int)) := by omega
  have hz3 : (c : Int) < (n : Int) + 1 := by omega
  have htn : ((i : Int) + 1).toNat = i + 1 := by omega
  have hb4 : ¬ (c = i) := by omega
  have hbi1 : (0 : Int) ≤ (i : Int) + 1 := by omega
  have hbi3 : (i : Int) ≤ (n : Int) := by omega
  have hik : i + (n + 1 - i) = n + 1 := by omega
  have HIK := Lib.hid hik
  clear hik
  have hdl : (cs.drop (i * 1)).length = (n - i) * 1 := by rw [List.length_drop, H.out.1]; omega
  have HDL := Lib.hid hdl
  clear hdl
  have hbN : b ≠ w.heap.size := by omega
  go_enter Tryz.func210, Tryz.ntmps210
  go_wp2_with (first
    | (at_builtin; (refine wpList_zeroed rfl (.tmp 34) (.tmp 39) 188 3 rfl 185 i0 z0 1 .i64 .i64 tySNd tyIntNd HI.out HZ0.out HZ1.out HZ2.out hzi3 (some ⟨b, 0, none⟩) i c ((n : Int) + 1 - (i : Int)) rfl rfl (cs.take (i * 1)) HOLD.out HOL.out (n + 1 - i) (by omega) (by omega) (by decide) (by omega) (by omega) ?_; intro w1 G cur1 hG1 hG2 Z1; rw [HIK.out] at hG1 ⊢; have HZ := Lib.hid Z1; have hG3 : ¬ (G = i) := (by omega); have hG4 : ¬ (G = i + 1) := (by omega); have hG5 : G ≤ 9223372036854775807 := (by unfold maxLen at hG2; omega); obtain ⟨N, hN⟩ : ∃ N, N = w.heap.size := ⟨_, rfl⟩; rw [← hN] at hbN ⊢; have HN := Lib.hid hN; clear Z1 hN hG2))
    | ((with_reducible refine wpList_copied rfl (.tmp 43) (.tmp 44) 188 188 rfl 185 1 tySNd szNd N (i) (n + 1 - i) (G - i) ⟨g, 0, none⟩ 1 1 rfl rfl cur1 (by rw [HN.out]; exact HZ.out.heap) news ?_ ?_ ?_ H1V.out ?_); (first | (rw [HL.out, show Nat.min 1 (n + 1 - i) = 1 from Nat.min_eq_left (by omega)]) | skip); (exact fun j v hj => World.news_of_block (by rw [HZ.out.mod.block g hltg (fun x => x)]; exact HG.out) j v hj); (rw [HZ.out.size, HL.out]; omega); intro w2 cur2 C2; have HC2 := Lib.hid C2; clear C2))
  go_region_law ((refine step_copied (by rfl) (.tmp 50) (.tmp 53) 188 188 (by rfl) 185 1 tySNd szNd N ((i + 1)) (n - i) (G - (i + 1)) ⟨b, i, none⟩ (n - i) (c - i) (by simp [Act.eval, Act.put]) (by simp [Act.eval, Act.put]) cur2 HC2.out.heap (cs.drop (i * 1)) (by rw [HDL.out, show Nat.min (n - i) (n - i) = n - i from Nat.min_self _]) (fun j v hj => by
      have h0 := H.out.cells (g := b) rfl (i * 1 + j) v (by rwa [List.getElem?_drop] at hj)
      have h1 := (HC2.out.mod.cell (p := (⟨b, 0, none⟩ : Addr).add (i * 1 + j)) (by rw [addr_lit]; exact Nat.lt_of_lt_of_le hlt HZ.out.mod.size) (by rw [addr_lit]; exact hbN)).trans (HZ.out.mod.cellS h0)
      rw [addr_lit] at h1 ⊢
      simpa using h1) (by rw [HDL.out, HC2.out.size, HZ.out.size]; omega) (fun v hv => H1C.out v (List.mem_of_mem_drop hv)) ?_; intro w3 cur3 C3; have HC3 := Lib.hid C3; clear C3))
  go_wp2_with fail
  go_ret
  obtain ⟨Z, hZ, hZl⟩ := HZ.out.list
  have hmN : ∀ k, k < w.heap.size → k = N → k ∈ ownL (.slice (some ⟨b, 0, none⟩) n c) := fun k hk e => by have := HN.out; omega
  refine ⟨N, G, rfl, ownsRow_of_heap HC3.out.heap hG1 (by unfold maxLen; omega) (by rw [HC3.out.size, HC2.out.size, HZ.out.size]) ?_, (((HZ.out.mod.mono (fun _ _ x => x.elim)).then HC2.out.mod hmN).drew).then HC3.out.mod hmN, .inr (by rw [HN.out]; exact Nat.le_refl _)⟩
  rw [Nat.add_mul]
  refine grow_row (N := n * 1) (k := 1 * 1) (Z := Z) (c0 := cur1.toList) (c1 := cur2.toList) (by omega) H.out.1 HL.out (by omega) hZ ?_ ?_
  · simpa using HC2.out.list
  · simpa [Nat.add_mul] using HC3.out.list

set_option maxRecDepth 100000 in
set_option maxHeartbeats 8000000 in
theorem ins_endNd {w : World} {v : Value} {n g : Nat} {cs news : List Value} (h : RowNd w v n cs) (hbig : n ≤ 100000)
    (hg : w.heap[g]? = some (.cells news.toArray 185 (0, 0))) (hl : news.length = 1) (h1v : ∀ u ∈ news, u.oneCell' = true) :
    Calls Tryz.prog 210 #[v, .int .i64 n, .slice (some ⟨g, 0, none⟩) 1 1] w (InsNd w v n (cs ++ news)) := by
  obtain ⟨i0, z0, hii, hz0, hzi1, hzi2, hzi3⟩ := partsNd
  have hv : ∃ a c, v = .slice a n c ∧ n ≤ c := by
    rcases h.2 with ⟨e, h0⟩ | ⟨b, c, cur, e, _, _, hnc, _⟩
    · exact ⟨none, 0, by rw [e, h0], by omega⟩
    · exact ⟨_, c, e, hnc⟩
  obtain ⟨a, c, rfl, hnc⟩ := hv
  have hlo := own_lt h
  have hcn : n = c ∨ ¬ c = n := by omega
  have H := Lib.hid h; have HG := Lib.hid hg; have HL := Lib.hid hl; have H1V := Lib.hid h1v; have HLO := Lib.hid hlo
  have HI := Lib.hid hii; have HZ0 := Lib.hid hz0; have HZ1 := Lib.hid hzi1; have HZ2 := Lib.hid hzi2
  clear h hg hl h1v hlo hii hz0 hzi1 hzi2
  rcases hcn with rfl | hcn
  all_goals
    go_enter Tryz.func210, Tryz.ntmps210
    go_wp2_with (at_builtin; go_loud (refine wpList_append_lies _ rfl _ _ 188 rfl 0 185 i0 z0 1 i0.bytes tySNd HI.out HZ0.out HZ1.out rfl HZ2.out (by decide) _ n cs rfl H.out ⟨g, 0, none⟩ 1 1 news rfl (by rw [HL.out]) (by intro j u hu; exact World.news_of_block HG.out j u hu) H1V.out (by decide) (by unfold maxLen; omega) (by exact Nat.le_trans (Nat.mul_le_mul (show n + 1 ≤ 100001 by omega) hzi3) (by decide)) (Nat.zero_le _) _ rfl ?_; intro c1 cap w3 hown hgrow hat hlt3; have G1 := Lib.hid hown; have G2 : Hid (w.grownBy w3 (Value.slice a n _).ownBlock) := Lib.hid hgrow; have G3 : Hid ((Value.slice a n _).ownBlock = some c1 ∨ c1 = w.heap.size) := Lib.hid hat; clear hown hgrow hat))
    go_ret
    refine ⟨c1, cap, rfl, G1.out, grown_modS (v := .slice a n _) (Mod.refl _ _) G2.out (fun k hk => hk), ?_⟩
    rcases G3.out with e | e
    · exact .inl (by simp [ownL, e])
    · exact .inr (Nat.le_of_eq e.symm)

theorem insNd {w : World} {v : Value} {n i g : Nat} {cs news : List Value} (h : RowNd w v n cs) (h1c : ∀ u ∈ cs, u.oneCell' = true) (hi : i ≤ n) (hbig : n ≤ 100000)
    (hg : w.heap[g]? = some (.cells news.toArray 185 (0, 0))) (hl : news.length = 1) (h1v : ∀ u ∈ news, u.oneCell' = true) (hne : g ∉ ownL v) :
    Calls Tryz.prog 210 #[v, .int .i64 i, .slice (some ⟨g, 0, none⟩) 1 1] w (InsNd w v n (cs.take (i * 1) ++ (news ++ cs.drop (i * 1)))) := by
  by_cases hin : i = n
  · subst hin
    rw [List.take_of_length_le (by rw [h.1]; exact Nat.le_refl _), List.drop_eq_nil_of_le (by rw [h.1]; exact Nat.le_refl _), List.append_nil]
    exact ins_endNd h hbig hg hl h1v
  · rcases ownsRow_form h with ⟨_, h0⟩ | ⟨b, c, rfl⟩
    · omega
    · by_cases hr : n + 1 ≤ c
      · exact ins_shiftNd h h1c (by omega) hr hg hl h1v (fun e => hne (by simp [ownL, Value.ownBlock, e]))
      · exact ins_growNd h h1c (by omega) (by omega) hbig hg hl h1v
end Go.Proofs.YtpcmbnbdppembaaGreatDoor

/- Package slices at elements of 1 cells (Nd): Clone, Delete, Concat. Printed by gen_sl.py. -/
namespace Go.Proofs.YtpcmbnbdppembaaGreatDoor
set_option linter.unusedSimpArgs false
set_option linter.unusedVariables false
open Go.RowKit Go.Shelf
attribute [local go_sem ↓] Go.wp_at_zero Go.wp_at_succ

/-- what a fresh row is -/
def FreshNd (w : World) (n : Nat) (xs : List Value) (e : Ending) (w' : World) : Prop :=
  ∃ v, e = .returned v ∧ RowNd w' v n xs ∧ Mod NoB w w' ∧ ∀ g ∈ ownL v, w.heap.size ≤ g

set_option maxRecDepth 100000 in
set_option maxHeartbeats 8000000 in
theorem cloneNd {w : World} {v : Value} {n : Nat} {cs : List Value} (hr : Read w v n cs) (hl : cs.length = n * 1) (h1c : ∀ u ∈ cs, u.oneCell' = true) (hbig : n ≤ 100000) :
    Calls Tryz.prog 211 #[v] w (FreshNd w n cs) := by
  obtain ⟨i0, z0, hii, hz0, hzi1, hzi2, hzi3⟩ := partsNd
  have HI := Lib.hid hii; have HZ0 := Lib.hid hz0; have HZ1 := Lib.hid hzi1; have HZ2 := Lib.hid hzi2
  clear hii hz0 hzi1 hzi2
  rcases hr with ⟨rfl, rfl, rfl⟩ | ⟨a, cap, rfl, hc⟩
  · have heq := Lib.run_eql_slice_nil (P := Tryz.prog) w 188 185 none 0 0 0 0 tySNd
    go_enter Tryz.func211, Tryz.ntmps211
    go_wp2_with fail
    go_ret
    exact ⟨_, rfl, World.ownsRow_nil _ _ _ _, Mod.refl _ _, fun g hg => by simp [ownL, Value.ownBlock] at hg⟩
  · have heq := Lib.run_eql_slice_nil (P := Tryz.prog) w 188 185 (some a) n cap 0 0 tySNd
    have HC := Lib.hid hc; have HL := Lib.hid hl; have H1C := Lib.hid h1c
    clear hc hl h1c
    go_enter Tryz.func211, Tryz.ntmps211
    go_wp2_with (at_builtin; go_loud (refine wpList_appended rfl (.tmp 5) (.tmp 6) 188 rfl 185 i0 z0 1 tySNd HI.out HZ0.out HZ1.out HZ2.out hzi3 (by decide) (.slice (some ⟨w.heap.size, 0, none⟩) 0 0) 0 [] rfl (World.ownsRow_made w #[] 0 (Nat.zero_le _) (Nat.zero_le _) (by simp)) (.slice (some a) n cap) n cs rfl (.inr ⟨a, cap, rfl, fun j u hu => ((Mod.refl NoB w).alloc _).cellS (HC.out j u hu)⟩) HL.out H1C.out (by omega) ?_; intro v' w' ha; have HA := Lib.hid ha; clear ha))
    go_ret
    have ha := HA.out
    refine ⟨v', rfl, by simpa using ha.own, ?_, fun g hg => ?_⟩
    · exact ((Mod.refl NoB w).alloc _).then ha.mod (fun k hk h => by simp [ownL, Value.ownBlock] at h; omega)
    · rcases ha.new g hg with h | h
      · simp [ownL, Value.ownBlock] at h; omega
      · simp at h; omega

set_option maxRecDepth 100000 in
set_option maxHeartbeats 8000000 in
theorem delAtNd {w : World} {b c n i : Nat} {cs : List Value} (h : RowNd w (.slice (some ⟨b, 0, none⟩) n c) n cs) (h1c : ∀ u ∈ cs, u.oneCell' = true) (hi : i < n) :
    Calls Tryz.prog 230 #[.slice (some ⟨b, 0, none⟩) n c, .int .i64 i, .int .i64 ((i : Int) + 1)] w fun e w' =>
      e = .returned (.slice (some ⟨b, 0, none⟩) (n - 1) c) ∧ RowNd w' (.slice (some ⟨b, 0, none⟩) (n - 1) c) (n - 1) (cs.take (i * 1) ++ cs.drop (i * 1 + 1)) ∧ Mod (· = b) w w' := by
  obtain ⟨_, cur, hb, hnc, hcm, hcs, htk⟩ := ownsRow_block h
  obtain ⟨i0, z0, hii, hz0, hzi1, hzi2, hzi3⟩ := partsNd
  have hzz : z0 = .pointer none := by
    have := infNd
    rw [hii] at this
    simp only [Option.map_some, Option.some.injEq, Prod.mk.injEq] at this
    rw [hz0] at this
    exact Option.some.inj this.1
  have hz1c : ∀ u ∈ z0.cells.toList, u.oneCell' = true := by
    rw [hzz]
    intro u hu
    simp [Value.cells] at hu
    rcases hu with rfl; rfl
  have HI := Lib.hid hii; have HZ0 := Lib.hid hz0; have HZ1 := Lib.hid hzi1; have HZ2 := Lib.hid hzi2; have HZC := Lib.hid hz1c
  clear hii hz0 hzi1 hzi2 hzz hz1c
  unfold maxLen at hcm
  have hdl : (cs.drop (i * 1 + 1)).length = (n - 1 - i) * 1 := by rw [List.length_drop, h.1]; omega
  have hrd : ∀ W : World, W.heap = w.heap → Read W (.slice (some (if c = i + 1 then ⟨b, 0, none⟩ else ⟨b, (i + 1), none⟩)) (n - (i + 1)) (c - (i + 1))) (n - (i + 1)) (cs.drop (i * 1 + 1)) := by
    intro W hW
    refine .inr ⟨_, _, rfl, fun j u hu => ?_⟩
    have hj : j < (cs.drop (i * 1 + 1)).length := (List.getElem?_eq_some_iff.1 hu).1
    rw [hdl] at hj
    rw [if_neg (by omega)]
    have := h.cells (g := b) rfl (i * 1 + 1 + j) u (by rwa [List.getElem?_drop] at hu)
    rw [addr_lit] at this ⊢
    rw [World.cell?_of_block (w := w) (by rw [hW])]
    simpa [Nat.add_mul] using this
  have H := Lib.hid h; have HB := Lib.hid hb; have HT := Lib.hid htk; have HS := Lib.hid hcs; have H1C := Lib.hid h1c; have HDL := Lib.hid hdl; have HRD := Lib.hid hrd
  clear h hb htk hcs h1c hdl hrd
  have hin : i ≤ n := by omega
  have hin1 : i + 1 ≤ n := by omega
  have hw1 : IntKind.i64.wrap ((i : Int) + 1) = (i : Int) + 1 := by rw [IntKind.wrap_i64]; omega
  have htn : ((i : Int) + 1).toNat = i + 1 := by omega
  have hbi1 : (0 : Int) ≤ (i : Int) + 1 := by omega
  have hbi4 : (i : Int) + 1 ≤ (n : Int) := by omega
  have hne : ¬ ((i : Int) = (i : Int) + 1) := by omega
  have hin2 : i + (n - (i + 1)) = n - 1 := by omega
  have hin3 : n - (n - 1) = 1 := by omega
  have hcn : ¬ (c = n - 1) := by omega
  have hin4 : n - 1 ≤ n := by omega
  have hin5 : i ≤ c := by omega
  have hbi7 : (i : Int) ≤ (i : Int) + 1 := by omega
  by_cases hce : c = i + 1
  · subst hce
    have HRD2 := HRD
    simp only [if_true] at HRD2
    clear HRD
    have HRD := HRD2
    clear HRD2
    go_enter Tryz.func230, Tryz.ntmps230
    go_wp2_with fail
    go_region_law ((refine step_roomed (by rfl) (.tmp 22) (.tmp 25) 188 (by rfl) 185 i0 1 tySNd HI.out HZ1.out b i (i + 1) (by simp [Act.eval, Act.put]) cur HB.out HS.out _ (n - (i + 1)) (cs.drop (i * 1 + 1)) (by simp [Act.eval, Act.put]; try omega) (HRD.out _ rfl) (by rw [HDL.out, Nat.sub_sub, Nat.add_comm]) (fun u hu => H1C.out u (List.mem_of_mem_drop hu)) (by omega) ?_; intro w1 cur1 C1; have HC1 := Lib.hid C1; clear C1; rw [hin2]))
    go_wp2_with ((with_reducible refine wpList_clearedk rfl (.tmp 31) 188 rfl 185 i0 z0 1 tySNd HI.out HZ0.out HZ2.out HZC.out b ((n - 1)) ((i + 1) - (n - 1)) rfl cur1 HC1.out.heap (by rw [HC1.out.size, HS.out]; omega) ?_); intro w2 cur2 C2; have HC2 := Lib.hid C2; clear C2)
    go_ret
    refine ⟨rfl, ownsRow_of_heap HC2.out.heap (by omega) (by unfold maxLen; omega) (by rw [HC2.out.size, HC1.out.size, HS.out]) ?_, (((Mod.refl _ _).drew).trans HC1.out.mod).trans HC2.out.mod⟩
    have hz : z0.cells.toList.length = 1 := by simpa using HZ2.out
    rw [Nat.sub_mul]
    refine cut_row (N := n * 1) (k := 1 * 1) (z := z0.cells.toList) (c1 := cur1.toList) (by omega) (by simp [HS.out]; omega) HT.out hz (by simpa using HC1.out.list) ?_
    simpa [Nat.sub_mul] using HC2.out.list
  · have HRD2 := HRD
    simp only [hce, if_false] at HRD2
    clear HRD
    have HRD := HRD2
    clear HRD2
    go_enter Tryz.func230, Tryz.ntmps230
    go_wp2_with fail
    go_region_law ((refine step_roomed (by rfl) (.tmp 22) (.tmp 25) 188 (by rfl) 185 i0 1 tySNd HI.out HZ1.out b i c (by simp [Act.eval, Act.put]) cur HB.out HS.out _ (n - (i + 1)) (cs.drop (i * 1 + 1)) (by simp [Act.eval, Act.put]; try omega) (HRD.out _ rfl) (by rw [HDL.out, Nat.sub_sub, Nat.add_comm]) (fun u hu => H1C.out u (List.mem_of_mem_drop hu)) (by omega) ?_; intro w1 cur1 C1; have HC1 := Lib.hid C1; clear C1; rw [hin2]))
    go_wp2_with ((with_reducible refine wpList_clearedk rfl (.tmp 31) 188 rfl 185 i0 z0 1 tySNd HI.out HZ0.out HZ2.out HZC.out b ((n - 1)) (c - (n - 1)) rfl cur1 HC1.out.heap (by rw [HC1.out.size, HS.out]; omega) ?_); intro w2 cur2 C2; have HC2 := Lib.hid C2; clear C2)
    go_ret
    refine ⟨rfl, ownsRow_of_heap HC2.out.heap (by omega) (by unfold maxLen; omega) (by rw [HC2.out.size, HC1.out.size, HS.out]) ?_, (((Mod.refl _ _).drew).trans HC1.out.mod).trans HC2.out.mod⟩
    have hz : z0.cells.toList.length = 1 := by simpa using HZ2.out
    rw [Nat.sub_mul]
    refine cut_row (N := n * 1) (k := 1 * 1) (z := z0.cells.toList) (c1 := cur1.toList) (by omega) (by simp [HS.out]; omega) HT.out hz (by simpa using HC1.out.list) ?_
    simpa [Nat.sub_mul] using HC2.out.list

set_option maxRecDepth 100000 in
set_option maxHeartbeats 8000000 in
theorem growNilNd (w : World) (n : Nat) (hn : n ≤ 200000) : Calls Tryz.prog 240 #[.slice none 0 0, .int .i64 n] w (FreshNd w 0 []) := by
  obtain ⟨i0, z0, hii, hz0, hzi1, hzi2, hzi3⟩ := partsNd
  have HI := Lib.hid hii; have HZ0 := Lib.hid hz0; have HZ1 := Lib.hid hzi1; have HZ2 := Lib.hid hzi2
  clear hii hz0 hzi1 hzi2
  by_cases h0 : n = 0
  · subst h0
    go_enter Tryz.func240, Tryz.ntmps240
    go_wp2_with fail
    go_ret
    exact ⟨_, rfl, World.ownsRow_nil _ _ _ _, Mod.refl _ _, fun g hg => by simp [ownL, Value.ownBlock] at hg⟩
  · have hp : (0 : Int) < (n : Int) := by omega
    go_enter Tryz.func240, Tryz.ntmps240
    go_wp2_with (at_builtin; go_loud (refine wpList_zeroed rfl (.tmp 20) (.tmp 21) 188 3 rfl 185 i0 z0 1 .i64 .i64 tySNd tyIntNd HI.out HZ0.out HZ1.out HZ2.out hzi3 none 0 0 (n : Int) rfl rfl [] (run_firstCells_none w.drew 1 0 0 0) (by simp) n rfl (by omega) (by decide) (by omega) (by omega) ?_; intro w1 G cur hG1 hG2 Z1; have HZ := Lib.hid Z1; have HG2 := Lib.hid hG2; clear Z1 hG2))
    go_ret
    refine ⟨_, rfl, ownsRow_of_heap HZ.out.heap (Nat.zero_le _) HG2.out HZ.out.size (by simp), HZ.out.mod, fun g hg => ?_⟩
    simp [ownL, Value.ownBlock] at hg
    omega

abbrev PartNd := Value × Nat × List Value
def sumNNd (l : List PartNd) : Nat := (l.map (·.2.1)).sum
theorem sumN_snocNd (l : List PartNd) (r : PartNd) : sumNNd (l ++ [r]) = sumNNd l + r.2.1 := by simp [sumNNd]
theorem sumN_takeNd (l : List PartNd) (k : Nat) : sumNNd (l.take k) ≤ sumNNd l := by
  have h : sumNNd l = sumNNd (l.take k) + sumNNd (l.drop k) := by
    unfold sumNNd
    rw [← List.sum_append_nat, ← List.map_append, List.take_append_drop]
  omega

set_option maxRecDepth 100000 in
set_option maxHeartbeats 8000000 in
theorem concatNd {w : World} {g cp : Nat} {rs : List PartNd} (hg : ∀ j r, rs[j]? = some r → w.cell? ⟨g, j, none⟩ = some r.1) (hr : ∀ r ∈ rs, Read w r.1 r.2.1 r.2.2 ∧ r.2.2.length = r.2.1 * 1 ∧ ∀ u ∈ r.2.2, u.oneCell' = true) (hl : rs.length ≤ 1000) (hs : sumNNd rs ≤ 100000) :
    Calls Tryz.prog 232 #[.slice (some ⟨g, 0, none⟩) rs.length cp] w (FreshNd w (sumNNd rs) (rs.flatMap (·.2.2))) := by
  obtain ⟨i0, z0, hii, hz0, hzi1, hzi2, hzi3⟩ := partsNd
  have HI := Lib.hid hii; have HZ0 := Lib.hid hz0; have HZ1 := Lib.hid hzi1; have HZ2 := Lib.hid hzi2
  have HG := Lib.hid hg; have HR := Lib.hid hr; have HST := Lib.hid (sumN_takeNd rs)
  obtain ⟨S, hS⟩ : ∃ S, S = sumNNd rs := ⟨_, rfl⟩
  have HS := Lib.hid hS
  rw [← hS] at hs
  clear hii hz0 hzi1 hzi2 hg hr hS
  go_enter Tryz.func232, Tryz.ntmps232
  go_wp2_with fail
  go_loopw [3, 11] (fun sz i wr => ∃ k : Nat, k ≤ rs.length ∧ i = .int .i64 k ∧ sz = .int .i64 (sumNNd (rs.take k)) ∧ wr = w) (fun _ i _ => rs.length - (intOf i).toNat)
  case atStart => exact ⟨0, Nat.zero_le _, rfl, rfl, rfl⟩
  case round =>
    obtain ⟨k, hk, rfl, rfl, rfl⟩ := hrel
    have hle := HST.out k
    rw [← HS.out] at hle
    by_cases hlt : k < rs.length
    · obtain ⟨r, hrk⟩ : ∃ r, rs[k]? = some r := ⟨_, List.getElem?_eq_getElem hlt⟩
      have hc := HG.out k r hrk
      obtain ⟨hR, hL, h1⟩ := HR.out r (List.mem_of_getElem? hrk)
      have hle2 := HST.out (k + 1)
      rw [← HS.out] at hle2
      have htk : rs.take (k + 1) = rs.take k ++ [r] := by rw [List.take_add_one, hrk]; rfl
      rw [htk, sumN_snocNd] at hle2
      obtain ⟨v, m, cs⟩ := r
      have hv : ∃ a c, v = .slice a m c := by
        rcases hR with ⟨e, e0, _⟩ | ⟨a, c, e, _⟩
        · exact ⟨none, 0, by simp only at e e0; rw [e, e0]⟩
        · exact ⟨some a, c, e⟩
      obtain ⟨a, c, rfl⟩ := hv
      simp only at hc hle2
      have HTK := Lib.hid htk
      obtain ⟨q, hq⟩ : ∃ q, q = sumNNd (rs.take k) := ⟨_, rfl⟩
      rw [← hq] at hle hle2 ⊢
      have HQ := Lib.hid hq
      clear hR hL h1 hrk htk hq
      have hneg : ¬ ((q : Int) + (m : Int) < 0) := by omega
      go_wp2_with fail
      go_roundw
      case rel => exact ⟨k + 1, hlt, by go_num, by rw [HTK.out, sumN_snocNd, ← HQ.out]; go_num, by simp⟩
      case measure => simp [intOf]; omega
    · obtain rfl : k = rs.length := by omega
      rw [List.take_length, ← HS.out]
      go_wp2_with (go_at_call 240; refine (growNilNd wr S (by omega)).mono ?_; rintro e w1 ⟨v0, rfl, hw1, hw2, hw3⟩; have HW1 := Lib.hid hw1; have HW2 := Lib.hid hw2; have HW3 := Lib.hid hw3; clear hw1 hw2 hw3)
      go_loopw [6, 27] (fun v i w2 => ∃ k : Nat, k ≤ rs.length ∧ i = .int .i64 k ∧ RowNd w2 v (sumNNd (rs.take k)) ((rs.take k).flatMap (·.2.2)) ∧ Mod NoB wr w2 ∧ ∀ g ∈ ownL v, wr.heap.size ≤ g) (fun _ i _ => rs.length - (intOf i).toNat)
      case atStart => exact ⟨0, Nat.zero_le _, rfl, HW1.out, HW2.out, HW3.out⟩
      case round =>
        obtain ⟨k, hk, rfl, hrow, hmod, hnew⟩ := hrel
        by_cases hlt : k < rs.length
        · obtain ⟨r, hrk⟩ : ∃ r, rs[k]? = some r := ⟨_, List.getElem?_eq_getElem hlt⟩
          have hc := hmod.cellS (HG.out k r hrk)
          obtain ⟨hR, hL, h1⟩ := HR.out r (List.mem_of_getElem? hrk)
          have hle2 := HST.out (k + 1)
          rw [← HS.out] at hle2
          have htk : rs.take (k + 1) = rs.take k ++ [r] := by rw [List.take_add_one, hrk]; rfl
          rw [htk, sumN_snocNd] at hle2
          have HTK := Lib.hid htk; have HR1 := Lib.hid (hR.mod hmod (fun _ _ x => x)); have HL := Lib.hid hL; have H1 := Lib.hid h1
          have HROW := Lib.hid hrow; have HMOD := Lib.hid hmod; have HNEW := Lib.hid hnew
          clear hR hL h1 hrk htk hrow hmod hnew
          go_wp2_with (at_builtin; go_loud (refine wpList_appended rfl (.tmp 31) (.tmp 32) 188 rfl 185 i0 z0 1 tySNd HI.out HZ0.out HZ1.out HZ2.out hzi3 (by decide) _ _ _ rfl HROW.out r.1 r.2.1 r.2.2 rfl HR1.out HL.out H1.out (by omega) ?_; intro v' w3 ha; have HA := Lib.hid ha; clear ha))
          go_roundw
          case rel =>
            have ha := HA.out
            refine ⟨k + 1, hlt, by go_num, ?_, HMOD.out.then ha.mod (fun q hq hg => by have := HNEW.out q hg; omega), fun q hq => ?_⟩
            · have := ha.own
              rw [HTK.out, sumN_snocNd, List.flatMap_append]
              simpa using this
            · rcases ha.new q hq with h | h
              · exact HNEW.out q h
              · exact Nat.le_trans HMOD.out.size h
          case measure => simp [intOf]; omega
        · obtain rfl : k = rs.length := by omega
          rw [List.take_length] at hrow
          go_wp2_with fail
          go_ret
          exact ⟨_, rfl, by rw [HS.out]; exact hrow, hmod, hnew⟩
end Go.Proofs.YtpcmbnbdppembaaGreatDoor
