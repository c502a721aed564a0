/- Package slices at elements of 2 cells (It): Clone, Delete, Concat. Printed by gen_sl.py. -/
import Derived.Test.YtmagddchjidamaaGreatDoorSlIt
namespace Go.Proofs.YtmagddchjidamaaGreatDoor
set_option linter.unusedSimpArgs false
set_option linter.unusedVariables false
open Go.RowKit Go.Shelf
attribute [local go_sem ↓] Go.wp_at_zero Go.wp_at_succ

/-- what a fresh row is -/
def FreshIt (w : World) (n : Nat) (xs : List Value) (e : Ending) (w' : World) : Prop :=
  ∃ v, e = .returned v ∧ RowIt w' v n xs ∧ Mod NoB w w' ∧ ∀ g ∈ ownL v, w.heap.size ≤ g

set_option maxRecDepth 100000 in
set_option maxHeartbeats 8000000 in
theorem cloneIt {w : World} {v : Value} {n : Nat} {cs : List Value} (hr : Read w v n cs) (hl : cs.length = n * 2) (h1c : ∀ u ∈ cs, u.oneCell' = true) (hbig : n ≤ 100000) :
    Calls Tryz.prog 106 #[v] w (FreshIt w n cs) := by
  obtain ⟨i0, z0, hii, hz0, hzi1, hzi2, hzi3⟩ := partsIt
  have HI := Lib.hid hii; have HZ0 := Lib.hid hz0; have HZ1 := Lib.hid hzi1; have HZ2 := Lib.hid hzi2
  clear hii hz0 hzi1 hzi2
  rcases hr with ⟨rfl, rfl, rfl⟩ | ⟨a, cap, rfl, hc⟩
  · have heq := Lib.run_eql_slice_nil (P := Tryz.prog) w 35 43 none 0 0 0 0 tySIt
    go_enter Tryz.func106, Tryz.ntmps106
    go_wp2_with fail
    go_ret
    exact ⟨_, rfl, World.ownsRow_nil _ _ _ _, Mod.refl _ _, fun g hg => by simp [ownL, Value.ownBlock] at hg⟩
  · have heq := Lib.run_eql_slice_nil (P := Tryz.prog) w 35 43 (some a) n cap 0 0 tySIt
    have HC := Lib.hid hc; have HL := Lib.hid hl; have H1C := Lib.hid h1c
    clear hc hl h1c
    go_enter Tryz.func106, Tryz.ntmps106
    go_wp2_with (at_builtin; go_loud (refine wpList_appended rfl (.tmp 5) (.tmp 6) 35 rfl 43 i0 z0 2 tySIt HI.out HZ0.out HZ1.out HZ2.out hzi3 (by decide) (.slice (some ⟨w.heap.size, 0, none⟩) 0 0) 0 [] rfl (World.ownsRow_made w #[] 0 (Nat.zero_le _) (Nat.zero_le _) (by simp)) (.slice (some a) n cap) n cs rfl (.inr ⟨a, cap, rfl, fun j u hu => ((Mod.refl NoB w).alloc _).cellS (HC.out j u hu)⟩) HL.out H1C.out (by omega) ?_; intro v' w' ha; have HA := Lib.hid ha; clear ha))
    go_ret
    have ha := HA.out
    refine ⟨v', rfl, by simpa using ha.own, ?_, fun g hg => ?_⟩
    · exact ((Mod.refl NoB w).alloc _).then ha.mod (fun k hk h => by simp [ownL, Value.ownBlock] at h; omega)
    · rcases ha.new g hg with h | h
      · simp [ownL, Value.ownBlock] at h; omega
      · simp at h; omega

set_option maxRecDepth 100000 in
set_option maxHeartbeats 8000000 in
theorem delAtIt {w : World} {b c n i : Nat} {cs : List Value} (h : RowIt w (.slice (some ⟨b, 0, none⟩) n c) n cs) (h1c : ∀ u ∈ cs, u.oneCell' = true) (hi : i < n) :
    Calls Tryz.prog 95 #[.slice (some ⟨b, 0, none⟩) n c, .int .i64 i, .int .i64 ((i : Int) + 1)] w fun e w' =>
      e = .returned (.slice (some ⟨b, 0, none⟩) (n - 1) c) ∧ RowIt w' (.slice (some ⟨b, 0, none⟩) (n - 1) c) (n - 1) (cs.take (i * 2) ++ cs.drop (i * 2 + 2)) ∧ Mod (· = b) w w' := by
  obtain ⟨_, cur, hb, hnc, hcm, hcs, htk⟩ := ownsRow_block h
  obtain ⟨i0, z0, hii, hz0, hzi1, hzi2, hzi3⟩ := partsIt
  have hzz : z0 = .agg #[.string ⟨#[]⟩, .string ⟨#[]⟩] := by
    have := infIt
    rw [hii] at this
    simp only [Option.map_some, Option.some.injEq, Prod.mk.injEq] at this
    rw [hz0] at this
    exact Option.some.inj this.1
  have hz1c : ∀ u ∈ z0.cells.toList, u.oneCell' = true := by
    rw [hzz]
    intro u hu
    simp [Value.cells] at hu
    rcases hu with rfl | rfl <;> rfl
  have HI := Lib.hid hii; have HZ0 := Lib.hid hz0; have HZ1 := Lib.hid hzi1; have HZ2 := Lib.hid hzi2; have HZC := Lib.hid hz1c
  clear hii hz0 hzi1 hzi2 hzz hz1c
  unfold maxLen at hcm
  have hdl : (cs.drop (i * 2 + 2)).length = (n - 1 - i) * 2 := by rw [List.length_drop, h.1]; omega
  have hrd : ∀ W : World, W.heap = w.heap → Read W (.slice (some (if c = i + 1 then ⟨b, 0, none⟩ else ⟨b, (i + 1) * 2, none⟩)) (n - (i + 1)) (c - (i + 1))) (n - (i + 1)) (cs.drop (i * 2 + 2)) := by
    intro W hW
    refine .inr ⟨_, _, rfl, fun j u hu => ?_⟩
    have hj : j < (cs.drop (i * 2 + 2)).length := (List.getElem?_eq_some_iff.1 hu).1
    rw [hdl] at hj
    rw [if_neg (by omega)]
    have := h.cells (g := b) rfl (i * 2 + 2 + j) u (by rwa [List.getElem?_drop] at hu)
    rw [addr_lit] at this ⊢
    rw [World.cell?_of_block (w := w) (by rw [hW])]
    simpa [Nat.add_mul] using this
  have H := Lib.hid h; have HB := Lib.hid hb; have HT := Lib.hid htk; have HS := Lib.hid hcs; have H1C := Lib.hid h1c; have HDL := Lib.hid hdl; have HRD := Lib.hid hrd
  clear h hb htk hcs h1c hdl hrd
  have hin : i ≤ n := by omega
  have hin1 : i + 1 ≤ n := by omega
  have hw1 : IntKind.i64.wrap ((i : Int) + 1) = (i : Int) + 1 := by rw [IntKind.wrap_i64]; omega
  have htn : ((i : Int) + 1).toNat = i + 1 := by omega
  have hbi1 : (0 : Int) ≤ (i : Int) + 1 := by omega
  have hbi4 : (i : Int) + 1 ≤ (n : Int) := by omega
  have hne : ¬ ((i : Int) = (i : Int) + 1) := by omega
  have hin2 : i + (n - (i + 1)) = n - 1 := by omega
  have hin3 : n - (n - 1) = 1 := by omega
  have hcn : ¬ (c = n - 1) := by omega
  have hin4 : n - 1 ≤ n := by omega
  have hin5 : i ≤ c := by omega
  have hbi7 : (i : Int) ≤ (i : Int) + 1 := by omega
  by_cases hce : c = i + 1
  · subst hce
    have HRD2 := HRD
    simp only [if_true] at HRD2
    clear HRD
    have HRD := HRD2
    clear HRD2
    go_enter Tryz.func95, Tryz.ntmps95
    go_wp2_with fail
    go_region_law ((refine step_roomed (by rfl) (.tmp 22) (.tmp 25) 35 (by rfl) 43 i0 2 tySIt HI.out HZ1.out b i (i + 1) (by simp [Act.eval, Act.put]) cur HB.out HS.out _ (n - (i + 1)) (cs.drop (i * 2 + 2)) (by simp [Act.eval, Act.put]; try omega) (HRD.out _ rfl) (by rw [HDL.out, Nat.sub_sub, Nat.add_comm]) (fun u hu => H1C.out u (List.mem_of_mem_drop hu)) (by omega) ?_; intro w1 cur1 C1; have HC1 := Lib.hid C1; clear C1; rw [hin2]))
    go_wp2_with ((with_reducible refine wpList_clearedk rfl (.tmp 31) 35 rfl 43 i0 z0 2 tySIt HI.out HZ0.out HZ2.out HZC.out b ((n - 1) * 2) ((i + 1) - (n - 1)) rfl cur1 HC1.out.heap (by rw [HC1.out.size, HS.out]; omega) ?_); intro w2 cur2 C2; have HC2 := Lib.hid C2; clear C2)
    go_ret
    refine ⟨rfl, ownsRow_of_heap HC2.out.heap (by omega) (by unfold maxLen; omega) (by rw [HC2.out.size, HC1.out.size, HS.out]) ?_, (((Mod.refl _ _).drew).trans HC1.out.mod).trans HC2.out.mod⟩
    have hz : z0.cells.toList.length = 2 := by simpa using HZ2.out
    rw [Nat.sub_mul]
    refine cut_row (N := n * 2) (k := 1 * 2) (z := z0.cells.toList) (c1 := cur1.toList) (by omega) (by simp [HS.out]; omega) HT.out hz (by simpa using HC1.out.list) ?_
    simpa [Nat.sub_mul] using HC2.out.list
  · have HRD2 := HRD
    simp only [hce, if_false] at HRD2
    clear HRD
    have HRD := HRD2
    clear HRD2
    go_enter Tryz.func95, Tryz.ntmps95
    go_wp2_with fail
    go_region_law ((refine step_roomed (by rfl) (.tmp 22) (.tmp 25) 35 (by rfl) 43 i0 2 tySIt HI.out HZ1.out b i c (by simp [Act.eval, Act.put]) cur HB.out HS.out _ (n - (i + 1)) (cs.drop (i * 2 + 2)) (by simp [Act.eval, Act.put]; try omega) (HRD.out _ rfl) (by rw [HDL.out, Nat.sub_sub, Nat.add_comm]) (fun u hu => H1C.out u (List.mem_of_mem_drop hu)) (by omega) ?_; intro w1 cur1 C1; have HC1 := Lib.hid C1; clear C1; rw [hin2]))
    go_wp2_with ((with_reducible refine wpList_clearedk rfl (.tmp 31) 35 rfl 43 i0 z0 2 tySIt HI.out HZ0.out HZ2.out HZC.out b ((n - 1) * 2) (c - (n - 1)) rfl cur1 HC1.out.heap (by rw [HC1.out.size, HS.out]; omega) ?_); intro w2 cur2 C2; have HC2 := Lib.hid C2; clear C2)
    go_ret
    refine ⟨rfl, ownsRow_of_heap HC2.out.heap (by omega) (by unfold maxLen; omega) (by rw [HC2.out.size, HC1.out.size, HS.out]) ?_, (((Mod.refl _ _).drew).trans HC1.out.mod).trans HC2.out.mod⟩
    have hz : z0.cells.toList.length = 2 := by simpa using HZ2.out
    rw [Nat.sub_mul]
    refine cut_row (N := n * 2) (k := 1 * 2) (z := z0.cells.toList) (c1 := cur1.toList) (by omega) (by simp [HS.out]; omega) HT.out hz (by simpa using HC1.out.list) ?_
    simpa [Nat.sub_mul] using HC2.out.list

set_option maxRecDepth 100000 in
set_option maxHeartbeats 8000000 in
theorem growNilIt (w : World) (n : Nat) (hn : n ≤ 200000) : Calls Tryz.prog 134 #[.slice none 0 0, .int .i64 n] w (FreshIt w 0 []) := by
  obtain ⟨i0, z0, hii, hz0, hzi1, hzi2, hzi3⟩ := partsIt
  have HI := Lib.hid hii; have HZ0 := Lib.hid hz0; have HZ1 := Lib.hid hzi1; have HZ2 := Lib.hid hzi2
  clear hii hz0 hzi1 hzi2
  by_cases h0 : n = 0
  · subst h0
    go_enter Tryz.func134, Tryz.ntmps134
    go_wp2_with fail
    go_ret
    exact ⟨_, rfl, World.ownsRow_nil _ _ _ _, Mod.refl _ _, fun g hg => by simp [ownL, Value.ownBlock] at hg⟩
  · have hp : (0 : Int) < (n : Int) := by omega
    go_enter Tryz.func134, Tryz.ntmps134
    go_wp2_with (at_builtin; go_loud (refine wpList_zeroed rfl (.tmp 20) (.tmp 21) 35 3 rfl 43 i0 z0 2 .i64 .i64 tySIt tyIntIt HI.out HZ0.out HZ1.out HZ2.out hzi3 none 0 0 (n : Int) rfl rfl [] (run_firstCells_none w.drew 2 0 0 0) (by simp) n rfl (by omega) (by decide) (by omega) (by omega) ?_; intro w1 G cur hG1 hG2 Z1; have HZ := Lib.hid Z1; have HG2 := Lib.hid hG2; clear Z1 hG2))
    go_ret
    refine ⟨_, rfl, ownsRow_of_heap HZ.out.heap (Nat.zero_le _) HG2.out HZ.out.size (by simp), HZ.out.mod, fun g hg => ?_⟩
    simp [ownL, Value.ownBlock] at hg
    omega

abbrev PartIt := Value × Nat × List Value
def sumNIt (l : List PartIt) : Nat := (l.map (·.2.1)).sum
theorem sumN_snocIt (l : List PartIt) (r : PartIt) : sumNIt (l ++ [r]) = sumNIt l + r.2.1 := by simp [sumNIt]
theorem sumN_takeIt (l : List PartIt) (k : Nat) : sumNIt (l.take k) ≤ sumNIt l := by
  have h : sumNIt l = sumNIt (l.take k) + sumNIt (l.drop k) := by
    unfold sumNIt
    rw [← List.sum_append_nat, ← List.map_append, List.take_append_drop]
  omega

set_option maxRecDepth 100000 in
set_option maxHeartbeats 8000000 in
theorem concatIt {w : World} {g cp : Nat} {rs : List PartIt} (hg : ∀ j r, rs[j]? = some r → w.cell? ⟨g, j, none⟩ = some r.1) (hr : ∀ r ∈ rs, Read w r.1 r.2.1 r.2.2 ∧ r.2.2.length = r.2.1 * 2 ∧ ∀ u ∈ r.2.2, u.oneCell' = true) (hl : rs.length ≤ 1000) (hs : sumNIt rs ≤ 100000) :
    Calls Tryz.prog 126 #[.slice (some ⟨g, 0, none⟩) rs.length cp] w (FreshIt w (sumNIt rs) (rs.flatMap (·.2.2))) := by
  obtain ⟨i0, z0, hii, hz0, hzi1, hzi2, hzi3⟩ := partsIt
  have HI := Lib.hid hii; have HZ0 := Lib.hid hz0; have HZ1 := Lib.hid hzi1; have HZ2 := Lib.hid hzi2
  have HG := Lib.hid hg; have HR := Lib.hid hr; have HST := Lib.hid (sumN_takeIt rs)
  obtain ⟨S, hS⟩ : ∃ S, S = sumNIt rs := ⟨_, rfl⟩
  have HS := Lib.hid hS
  rw [← hS] at hs
  clear hii hz0 hzi1 hzi2 hg hr hS
  go_enter Tryz.func126, Tryz.ntmps126
  go_wp2_with fail
  go_loopw [3, 11] (fun sz i wr => ∃ k : Nat, k ≤ rs.length ∧ i = .int .i64 k ∧ sz = .int .i64 (sumNIt (rs.take k)) ∧ wr = w) (fun _ i _ => rs.length - (intOf i).toNat)
  case atStart => exact ⟨0, Nat.zero_le _, rfl, rfl, rfl⟩
  case round =>
    obtain ⟨k, hk, rfl, rfl, rfl⟩ := hrel
    have hle := HST.out k
    rw [← HS.out] at hle
    by_cases hlt : k < rs.length
    · obtain ⟨r, hrk⟩ : ∃ r, rs[k]? = some r := ⟨_, List.getElem?_eq_getElem hlt⟩
      have hc := HG.out k r hrk
      obtain ⟨hR, hL, h1⟩ := HR.out r (List.mem_of_getElem? hrk)
      have hle2 := HST.out (k + 1)
      rw [← HS.out] at hle2
      have htk : rs.take (k + 1) = rs.take k ++ [r] := by rw [List.take_add_one, hrk]; rfl
      rw [htk, sumN_snocIt] at hle2
      obtain ⟨v, m, cs⟩ := r
      have hv : ∃ a c, v = .slice a m c := by
        rcases hR with ⟨e, e0, _⟩ | ⟨a, c, e, _⟩
        · exact ⟨none, 0, by simp only at e e0; rw [e, e0]⟩
        · exact ⟨some a, c, e⟩
      obtain ⟨a, c, rfl⟩ := hv
      simp only at hc hle2
      have HTK := Lib.hid htk
      obtain ⟨q, hq⟩ : ∃ q, q = sumNIt (rs.take k) := ⟨_, rfl⟩
      rw [← hq] at hle hle2 ⊢
      have HQ := Lib.hid hq
      clear hR hL h1 hrk htk hq
      have hneg : ¬ ((q : Int) + (m : Int) < 0) := by omega
      go_wp2_with fail
      go_roundw
      case rel => exact ⟨k + 1, hlt, by go_num, by rw [HTK.out, sumN_snocIt, ← HQ.out]; go_num, by simp⟩
      case measure => simp [intOf]; omega
    · obtain rfl : k = rs.length := by omega
      rw [List.take_length, ← HS.out]
      go_wp2_with (go_at_call 134; refine (growNilIt wr S (by omega)).mono ?_; rintro e w1 ⟨v0, rfl, hw1, hw2, hw3⟩; have HW1 := Lib.hid hw1; have HW2 := Lib.hid hw2; have HW3 := Lib.hid hw3; clear hw1 hw2 hw3)
      go_loopw [6, 27] (fun v i w2 => ∃ k : Nat, k ≤ rs.length ∧ i = .int .i64 k ∧ RowIt w2 v (sumNIt (rs.take k)) ((rs.take k).flatMap (·.2.2)) ∧ Mod NoB wr w2 ∧ ∀ g ∈ ownL v, wr.heap.size ≤ g) (fun _ i _ => rs.length - (intOf i).toNat)
      case atStart => exact ⟨0, Nat.zero_le _, rfl, HW1.out, HW2.out, HW3.out⟩
      case round =>
        obtain ⟨k, hk, rfl, hrow, hmod, hnew⟩ := hrel
        by_cases hlt : k < rs.length
        · obtain ⟨r, hrk⟩ : ∃ r, rs[k]? = some r := ⟨_, List.getElem?_eq_getElem hlt⟩
          have hc := hmod.cellS (HG.out k r hrk)
          obtain ⟨hR, hL, h1⟩ := HR.out r (List.mem_of_getElem? hrk)
          have hle2 := HST.out (k + 1)
          rw [← HS.out] at hle2
          have htk : rs.take (k + 1) = rs.take k ++ [r] := by rw [List.take_add_one, hrk]; rfl
          rw [htk, sumN_snocIt] at hle2
          have HTK := Lib.hid htk; have HR1 := Lib.hid (hR.mod hmod (fun _ _ x => x)); have HL := Lib.hid hL; have H1 := Lib.hid h1
          have HROW := Lib.hid hrow; have HMOD := Lib.hid hmod; have HNEW := Lib.hid hnew
          clear hR hL h1 hrk htk hrow hmod hnew
          go_wp2_with (at_builtin; go_loud (refine wpList_appended rfl (.tmp 31) (.tmp 32) 35 rfl 43 i0 z0 2 tySIt HI.out HZ0.out HZ1.out HZ2.out hzi3 (by decide) _ _ _ rfl HROW.out r.1 r.2.1 r.2.2 rfl HR1.out HL.out H1.out (by omega) ?_; intro v' w3 ha; have HA := Lib.hid ha; clear ha))
          go_roundw
          case rel =>
            have ha := HA.out
            refine ⟨k + 1, hlt, by go_num, ?_, HMOD.out.then ha.mod (fun q hq hg => by have := HNEW.out q hg; omega), fun q hq => ?_⟩
            · have := ha.own
              rw [HTK.out, sumN_snocIt, List.flatMap_append]
              simpa using this
            · rcases ha.new q hq with h | h
              · exact HNEW.out q h
              · exact Nat.le_trans HMOD.out.size h
          case measure => simp [intOf]; omega
        · obtain rfl : k = rs.length := by omega
          rw [List.take_length] at hrow
          go_wp2_with fail
          go_ret
          exact ⟨_, rfl, by rw [HS.out]; exact hrow, hmod, hnew⟩
end Go.Proofs.YtmagddchjidamaaGreatDoor
