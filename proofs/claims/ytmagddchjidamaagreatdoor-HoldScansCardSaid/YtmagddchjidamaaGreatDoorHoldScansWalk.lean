/- HoldScans: the walk. -/
import Derived.Test.YtmagddchjidamaaGreatDoorScanDo
import Derived.Test.YtmagddchjidamaaGreatDoorScanPlain
import Derived.Test.YtmagddchjidamaaGreatDoorHoldAlive
import Derived.Deep.AppendLies
import Derived.Laws.AppendOwnNone
import Derived.Deep.CutBlock
import Derived.Laws.Cover1
namespace Go.Proofs.YtmagddchjidamaaGreatDoor
set_option linter.unusedSimpArgs false
set_option linter.unusedVariables false
open Go.RowKit Go.Shelf
attribute [local go_sem ↓] Go.wp_at_zero Go.wp_at_succ

def stC (a : Arc) : HSt := ownSt ⟨1, 200, 0, [], false, ⟨0, 0⟩, []⟩ a 1

theorem stC_own {a : Arc} (ha : a.ok) : ∀ o ∈ (stC a).own, Pt64 o.t := by
  intro o ho
  simp only [stC, ownSt, List.nil_append, List.mem_map] at ho
  obtain ⟨p, hp, rfl⟩ := ho
  have : ∀ q ∈ piecesA a, Pt64 q.t := by
    unfold piecesA
    intro q hq
    split at hq
    · simp only [List.mem_cons, List.not_mem_nil, or_false] at hq
      subst hq
      exact ha.2
    · simp only [List.mem_cons, List.not_mem_nil, or_false] at hq
      rcases hq with rfl | rfl
      · exact ⟨by show (0 : Int) ≤ 0; decide, by show (0 : Int) < 18446744073709551616; decide⟩
      · exact ha.2
  exact this p hp
theorem stC_len (a : Arc) : (stC a).own.length ≤ 1000000 := by
  simp only [stC, ownSt, List.nil_append, List.length_map]
  unfold piecesA
  split <;> simp
theorem stC_kept (a : Arc) : 0 ≤ (stC a).kept ∧ (stC a).kept ≤ 1000000 := by
  show (0 : Int) ≤ 0 ∧ (0 : Int) ≤ 1000000
  exact ⟨by decide, by decide⟩
theorem stC_most (a : Arc) : (stC a).most ≤ 1000000 := by
  show (200 : Int) ≤ 1000000
  decide
theorem stC_pts (a : Arc) : (stC a).pts.length ≤ 1000000 := by
  show (0 : Nat) ≤ 1000000
  decide
theorem stC_a (a : Arc) : Pt64 (stC a).a.f := by
  show Pt64 0
  exact ⟨by decide, by decide⟩

theorem bl_lessB : (a b : List UInt8) → Op.bytesLess a b = lessB a b
  | [], [] => rfl
  | [], _ :: _ => rfl
  | _ :: _, [] => rfl
  | x :: a, y :: b => by
    unfold Op.bytesLess lessB
    rw [bl_lessB a b]
    by_cases h1 : x < y
    · simp [h1]
    · by_cases h2 : y < x
      · have : ¬ x = y := fun e => by rw [e] at h2; exact UInt8.lt_irrefl _ h2
        simp [h1, h2, this]
      · obtain rfl : x = y := UInt8.le_antisymm (UInt8.not_lt.1 h2) (UInt8.not_lt.1 h1)
        simp [h1]
theorem bl_keyLt (a b : ByteArray) : Op.bytesLess a.toList b.toList = keyLt a b := by
  rw [bl_lessB, Lib.toList_data, Lib.toList_data]
  rfl
theorem toList_ne {a b : ByteArray} (h : a ≠ b) : ¬ a.toList = b.toList := fun e => h (by
  rw [Lib.toList_data, Lib.toList_data] at e
  cases a; cases b
  simp only [ByteArray.mk.injEq]
  exact Array.ext' e)

set_option maxRecDepth 100000 in
set_option maxHeartbeats 16000000 in
theorem scans_walk {w : World} {v : Value} {l : List Itm} (hl : SlAt 2 encIt w v l) (hll : l.length ≤ 9223372036854775807) (a : Arc) (ha : a.ok) (fr tk : ByteArray) (hfr : fr.size ≤ 9223372036854775807) (htk : tk.size ≤ 9223372036854775807) (most : Int) :
    Calls Tryz.prog 4 #[v, .agg #[.int .u64 a.f, .int .u64 a.t], .string fr, .string tk, .int .i64 most] w fun e w' => e = .returned (.bool true) ∧ Mod NoB w w' := by
  obtain ⟨va, vcap, hv, hx⟩ := hl
  have HL := Lib.hid (show SlAt 2 encIt w v l from ⟨va, vcap, hv, hx⟩)
  subst hv
  clear hx
  by_cases hg : l.length ≤ 40 ∧ fr.size ≤ 16 ∧ tk.size ≤ 40 ∧ 1 ≤ most ∧ most ≤ 40
  case neg =>
    have hcc : (40 : Int) < l.length ∨ (¬ (40 : Int) < l.length ∧ (16 : Int) < fr.size) ∨ (¬ (40 : Int) < l.length ∧ ¬ (16 : Int) < fr.size ∧ (40 : Int) < tk.size) ∨ (¬ (40 : Int) < l.length ∧ ¬ (16 : Int) < fr.size ∧ ¬ (40 : Int) < tk.size ∧ most < 1) ∨ (¬ (40 : Int) < l.length ∧ ¬ (16 : Int) < fr.size ∧ ¬ (40 : Int) < tk.size ∧ ¬ most < 1 ∧ 40 < most) := by omega
    clear hg
    rcases hcc with h1 | ⟨h1, h2⟩ | ⟨h1, h2, h3⟩ | ⟨h1, h2, h3, h4⟩ | ⟨h1, h2, h3, h4, h5⟩
    all_goals
      go_enter Tryz.func4, Tryz.ntmps4
      go_wp2_with fail
      refine (alive_any _).mono ?_
      rintro e w1 ⟨rfl, hm1⟩
      have M1 := Lib.hid (((Mod.refl NoB w).alloc (.cells #[.int .u64 a.f, .int .u64 a.t] 29)).trans hm1)
      clear hm1
      go_wp2_with fail
      go_ret
      exact ⟨rfl, M1.out⟩
  obtain ⟨g1, g2, g3, g4, g5⟩ := hg
  have n1 : ¬ (40 : Int) < l.length := by omega
  have n2 : ¬ (16 : Int) < fr.size := by omega
  have n3 : ¬ (40 : Int) < tk.size := by omega
  have n4 : ¬ most < 1 := by omega
  have n5 : ¬ 40 < most := by omega
  obtain ⟨mo, hmo⟩ : ∃ mo : Nat, most = mo := ⟨most.toNat, by omega⟩
  subst hmo
  go_enter Tryz.func4, Tryz.ntmps4
  go_wp2_with fail
  refine (alive_any _).mono ?_
  rintro e w1 ⟨rfl, hm1⟩
  have hA0 := heap_alloc_new w (.cells #[.int .u64 a.f, .int .u64 a.t] 29)
  have M1 := Lib.hid (((Mod.refl NoB w).alloc (.cells #[.int .u64 a.f, .int .u64 a.t] 29)).trans hm1)
  have HA1 := Lib.hid ((hm1.block _ (by simp) (fun x => x)).trans hA0)
  clear hm1 hA0
  go_wp2_with fail
  refine (new_any 1 200 _ (by decide) (by decide)).mono ?_
  rintro e w2 ⟨h, B2, rfl, q1, q2, q3⟩
  have N2 : Hid (NewI w1 w2 h ⟨1, 200, 0, [], false, ⟨0, 0⟩, []⟩ [] B2) := Lib.hid ⟨⟨none, 0, q1, ShOK.start⟩, q2, q3⟩
  have HA2 := Lib.hid ((q2.block _ (Array.getElem?_eq_some_iff.1 HA1.out).1 (fun x => x)).trans HA1.out)
  have Q1 := Lib.hid q1
  clear q1 q2 q3
  have a0 := cell_of HA2.out 0 (v := .int .u64 a.f) rfl
  have a1 := cell_of HA2.out 1 (v := .int .u64 a.t) rfl
  go_wp2_with fail
  refine (own_any Q1.out a 1 (by simp)).mono ?_
  rintro e w3 ⟨rfl, B3, hh3, ht3⟩
  rw [may_none (by decide) rfl] at hh3 ⊢
  rw [if_pos rfl] at hh3
  have N3 : Hid (NewI w1 w3 h (stC a) [] B3) := Lib.hid (N2.out.turn ⟨none, 0, hh3, ShOK.start⟩ ht3)
  clear hh3 ht3 Q1 N2 a0 a1
  go_wp2_with fail
  go_loopw [12] (fun i wr => ∃ (j : Nat) (xs : List Itm) (B : List Nat), j ≤ l.length ∧ i = .int .i64 j ∧ NewI w1 wr h (stC a) xs B ∧ xs.length ≤ j) (fun i _ => l.length - (intOf i).toNat)
  case atStart => exact ⟨0, [], B3, Nat.zero_le _, rfl, N3.out, by simp⟩
  case round =>
    clear N3
    obtain ⟨j, xs, B, hj, rfl, hN, hxj⟩ := hrel
    obtain ⟨Wr, rfl⟩ : ∃ Wr : World, Wr = wr := ⟨_, rfl⟩
    by_cases hlt : j < l.length
    · have he : l[j]? = some l[j] := List.getElem?_eq_getElem hlt
      obtain ⟨pb, po, cap', hv, hbl, p0, p1⟩ := at2 (HL.out.mod (M1.out.trans hN.2.1)) he
      generalize l[j] = x at *
      clear he
      simp only [Value.slice.injEq] at hv
      obtain ⟨rfl, _, rfl⟩ := hv
      obtain ⟨k, vv⟩ := x
      dsimp only at p0 p1
      have NN := Lib.hid hN; have HXJ := Lib.hid hxj
      clear hN hxj
      by_cases hc : k.size ≤ 40 ∧ vv.size ≤ 40
      case neg =>
        have hcc : (40 : Int) < k.size ∨ (¬ (40 : Int) < k.size ∧ (40 : Int) < vv.size) := by omega
        clear hc
        have hfin : Mod NoB w Wr := M1.out.trans NN.out.2.1
        rcases hcc with h1 | ⟨h1, h2⟩
        all_goals
          go_wp2_with fail
          go_ret
          exact ⟨rfl, hfin⟩
      obtain ⟨c1, c2⟩ := hc
      have m1 : ¬ (40 : Int) < k.size := by omega
      have m2 : ¬ (40 : Int) < vv.size := by omega
      go_wp2_with fail
      go_still_tail 12, (by kernel_rfl)
      change wpList _ _ _ _ _ Wr.drew
      have ND := Lib.hid (NN.out.quiet ((Mod.refl NoB Wr).drew))
      have p0' := ((Mod.refl NoB Wr).drew).cellS p0; have p1' := ((Mod.refl NoB Wr).drew).cellS p1
      generalize Wr.drew = Wd at *
      go_wp2_with fail
      refine (do_put_any (st := stC a) ND.out.1 k vv ⟨#[]⟩ 0 (by omega) (by omega) (by have := HXJ.out; omega) (stC_kept a) (stC_most a) (stC_pts a)).mono ?_
      rintro e w5 ⟨rfl, B5, hh5, ht5⟩
      have N5 := Lib.hid (ND.out.turn hh5 ht5)
      have hpl := pput_any (st := stC a) (k := k) (v := vv) ND.out.1.rising
      have HPL := Lib.hid (show (pIts (stC a) k vv xs).length ≤ j + 1 by have := HXJ.out; omega)
      clear hh5 ht5 hpl
      go_wp2_with fail
      exact ⟨⟨j + 1, _, B5, by omega, by go_num, N5.out, HPL.out⟩, by simp [intOf]; omega⟩
    · obtain rfl : j = l.length := by omega
      have NN := Lib.hid hN; have HXJ := Lib.hid hxj
      clear hN hxj
      go_wp2_with fail
      refine (hitems_any NN.out.1 (by have := HXJ.out; omega)).mono ?_
      rintro e w4 ⟨vi, rfl, hri, hm4, hni⟩
      have N4 := Lib.hid (NN.out.quiet hm4)
      have hsl := own_slAt (k := 2) (enc := encIt) (fun _ => rfl) hri
      obtain ⟨av, cap, rfl, _⟩ := id hsl
      have HSL := Lib.hid hsl
      clear hri hm4 hsl hni NN
      go_upto_block 2 with fail
      have hrise := N4.out.1.rising
      have hsz : ∀ x ∈ xs, x.1.size ≤ 16 := by
        obtain ⟨tr, n, _, ho⟩ := N4.out.1
        exact ho.2.2.1
      have HRISE := Lib.hid hrise; have HSZ := Lib.hid hsz
      clear hrise hsz
      obtain ⟨i0, z0, hi, hz0, hz1, hz2, hz3⟩ := itInfo_parts
      go_cut [14, 15] (fun s14 s15 wc => ∃ (c : ByteArray) (gl : List Itm) (P : Itm → Bool), s14 = .string c ∧ wc.ownsRow w4.heap.size 43 2 s15 gl.length (gl.flatMap encIt) ∧ gl = xs.filter P ∧ (∀ x, wentF fr tk c x = true → P x = true) ∧ Below w4.heap.size w4 wc)
      case first =>
        have hb0 : budget (stC a) xs fr ≤ 41 := by
          unfold budget
          have h1 := List.length_filter_le (fun x : Itm => !keyLt x.1 fr) xs
          have := HXJ.out
          split <;> omega
        go_wp2_with fail
        go_loopw [14, 15, 16] (fun s14 s15 s16 wr => ∃ (c : ByteArray) (gl : List Itm) (n : Nat), s14 = .string c ∧ s16 = .int .i64 n ∧ wr.ownsRow w4.heap.size 43 2 s15 gl.length (gl.flatMap encIt) ∧ gl = xs.filter (wentF fr tk c) ∧ keyLt c fr = false ∧ c.size ≤ 16 ∧ n + budget (stC a) xs c ≤ 42 ∧ Below w4.heap.size w4 wr) (fun _ _ s16 _ => 100 - (intOf s16).toNat)
        case atStart => exact ⟨fr, [], 0, rfl, rfl, World.ownsRow_nil _ _ _ _, (wentF_start fr tk xs).symm, keyLt_irrefl fr, g2, by omega, Below.refl _ _⟩
        case round =>
          obtain ⟨c, gl, n, rfl, rfl, hrow, hgl, hcf, hcs, hbud, hbel⟩ := hrel
          obtain ⟨Wr, rfl⟩ : ∃ Wr : World, Wr = wr := ⟨_, rfl⟩
          have NW := Lib.hid (N4.out.quiet (Mod.ofBelow hbel))
          have HROW := Lib.hid hrow; have HGL := Lib.hid hgl; have HBEL := Lib.hid hbel; have HBUD := Lib.hid hbud
          have hn60 : (n : Int) ≤ 60 := by omega
          have hnn : ¬ (n : Int) = 60 := by omega
          clear hrow hgl hbel hbud
          go_wp2_with fail
          cases hat : (stC a).at (addr c) with
          | none =>
            obtain ⟨tr, nn, hh, _⟩ := NW.out.1
            refine (do_scan_else hh c ⟨#[]⟩ tk mo (by omega) (by omega) hcs hat (stC_pts a)).mono ?_
            rintro e w5 ⟨rfl, hm5⟩
            have M5 := Lib.hid hm5
            clear hm5
            go_wp2_with fail
            go_meet
            have hmA : Mod NoB Wr (w5.alloc (.cells #[.int .i64 8, .string ⟨#[]⟩, .slice none 0 0, .bool false, .string ⟨#[]⟩, .int .i64 (wherN ((stC a).whereP (addr c)))] 37)) := M5.out.trans ((Mod.refl NoB w5).alloc _)
            exact ⟨c, gl, wentF fr tk c, rfl, own_mod' HROW.out hmA (fun _ _ x => x), HGL.out, fun _ h => h, HBEL.out.trans (hmA.below_self.mono HBEL.out.size)⟩
          | some ow =>
            have hat2 : ((stC a).at (addr c)).isSome = true := by rw [hat]; rfl
            have hst := scan_step HRISE.out HSZ.out (stC_own ha) (stC_a a) rfl (by omega : 1 ≤ mo) hat2 hcf HGL.out
            refine (do_scan_in NW.out.1 c ⟨#[]⟩ tk mo (by omega) hcs (by omega) (by have := HXJ.out; omega) hat2 rfl (stC_own ha) (stC_a a) (stC_len a)).mono ?_
            rintro e w5 ⟨u, rfl, hru, hm5⟩
            obtain ⟨its, more, next, hr⟩ : ∃ its more next, scanR (stC a) c tk mo xs = ⟨its, more, next⟩ := ⟨_, _, _, rfl⟩
            rw [hr] at hst hru ⊢
            dsimp only at hst hru ⊢
            obtain ⟨hst1, hst2, hst3⟩ := hst
            have ST1 := Lib.hid hst1; have ST2 := Lib.hid hst2; have ST3 := Lib.hid hst3; have M5 := Lib.hid hm5; have HRU := Lib.hid hru
            have nlen : ¬ (mo : Int) < (its.length : Int) := by omega
            have HRA := Lib.hid (fun o => own_mod' HROW.out (hm5.trans ((Mod.refl NoB w5).alloc o)) (fun _ _ x => x))
            have HBA := Lib.hid (fun o => HBEL.out.trans ((hm5.trans ((Mod.refl NoB w5).alloc o)).below_self.mono HBEL.out.size))
            have hgl2 : gl.length + its.length ≤ 1000000 := by
              have h1 : gl.length ≤ xs.length := by rw [HGL.out]; exact List.length_filter_le _ _
              have := HXJ.out
              omega
            have HGL2 := Lib.hid hgl2
            clear hst1 hst2 hst3 hm5 hr hat hgl2
            rcases hru.2 with ⟨hu, hz⟩ | ⟨g, cap', cur, hu, _⟩
            · subst hu
              clear hru
              have hits : its = [] := List.eq_nil_of_length_eq_zero hz
              subst hits
              cases more with
              | false =>
                have hST := ST2.out rfl
                have ST := Lib.hid hST
                clear hST ST1 ST2
                go_wp2_with (at_builtin; refine wpList_append_own_none rfl _ _ 35 rfl w4.heap.size 43 i0 2 tyIts hi _ _ _ rfl (HRA.out _) rfl ?_)
                go_meet
                obtain ⟨P, h1, h2⟩ := ST.out
                rw [List.append_nil] at h1
                exact ⟨c, gl, P, rfl, HRA.out _, h1, h2, HBA.out _⟩
              | true =>
                have ST := Lib.hid (ST1.out rfl)
                clear ST1 ST2
                have hrs := ST.out.rise
                have hL1 : Op.bytesLess next.toList c.toList = false := by rw [bl_keyLt]; exact keyLt_asymm hrs
                have hL2 : ¬ next.toList = c.toList := toList_ne (keyLt_ne hrs).symm
                have hL3 : (next.toList == c.toList) = false := by simp [hL2]
                go_wp2_with (at_builtin; refine wpList_append_own_none rfl _ _ 35 rfl w4.heap.size 43 i0 2 tyIts hi _ _ _ rfl (HRA.out _) rfl ?_)
                have h1 := ST.out.went
                have h2 := ST.out.less
                have h3 := ST.out.short
                dsimp only at h1 h2 h3
                rw [List.append_nil] at h1
                exact ⟨⟨next, gl, n + 1, rfl, by go_num, HRA.out _, h1, keyLt_asymm (keyLt_le_trans hcf hrs), h3, by have := HBUD.out; omega, HBA.out _⟩, by simp [intOf]; omega⟩
            · subst hu
              clear hru
              cases more with
              | false =>
                have hST := ST2.out rfl
                have ST := Lib.hid hST
                clear hST ST1 ST2
                have HNEWS := Lib.hid (fun o => (own_mod' (S := NoB) HRU.out ((Mod.refl NoB w5).alloc o) (fun _ _ x => x)).cells (g := g) rfl)
                have HONE : Hid (∀ u ∈ its.flatMap encIt, u.oneCell' = true) := Lib.hid (by intro u hu; rw [List.mem_flatMap] at hu; obtain ⟨x, _, hx⟩ := hu; exact oneIt hx)
                have H63 : Hid (gl.length + its.length ≤ maxLen) := Lib.hid (by have := HGL2.out; unfold maxLen; omega)
                have HBY : Hid ((gl.length + its.length) * i0.bytes ≤ 140737488355328) := Lib.hid (Nat.le_trans (Nat.mul_le_mul (show gl.length + its.length ≤ 1000000 from HGL2.out) hz3) (by decide))
                have HFL := Lib.hid HRU.out.1
                have HP2 : Hid (∀ (o : Obj) (w6 : World), (w5.alloc o).grownBy w6 u15.ownBlock → Below w4.heap.size w4 w6) := Lib.hid (fun o w6 hg => (HBA.out o).grown hg (HBA.out o).size (fun q hq => (HROW.out.lt q hq).1))
                have HT : Hid (∀ (cs : Array Value) (w6 : World), (w5.alloc (.cells cs 37)).grownBy w6 u15.ownBlock → w6.heap[w5.heap.size]? = some (.cells cs 37 (0, 0))) := Lib.hid (fun cs w6 hg =>
                  (hg.block w5.heap.size (by simp) (not_own_row (cs := cs) (t := 37) (e := 43) (heap_alloc_new w5 _) (by decide) (HRA.out _))).trans (heap_alloc_new w5 _))
                go_wp2_with (at_builtin; go_loud (refine wpList_append_own_at _ rfl _ _ 35 rfl w4.heap.size 43 i0 z0 2 i0.bytes tyIts hi hz0 hz1 rfl hz2 (by decide) _ _ _ rfl (HRA.out _) ⟨g, 0, none⟩ its.length cap' (its.flatMap encIt) rfl HFL.out (HNEWS.out _) HONE.out H63.out HBY.out (HBA.out _).size ?_; intro v' w6 hown' hgrow hnn hat'; have P1 := Lib.hid hown'; have P2 := Lib.hid (HP2.out _ _ hgrow); have hT := HT.out _ _ hgrow; have t3 := cell_of hT 3 rfl; have t4 := cell_of hT 4 rfl; clear hown' hgrow hnn hat' hT))
                go_meet
                obtain ⟨P, h1, h2⟩ := ST.out
                exact ⟨c, gl ++ its, P, rfl, by rw [List.length_append, List.flatMap_append]; exact P1.out, h1, h2, P2.out⟩
              | true =>
                have ST := Lib.hid (ST1.out rfl)
                clear ST1 ST2
                have hrs := ST.out.rise
                have hL1 : Op.bytesLess next.toList c.toList = false := by rw [bl_keyLt]; exact keyLt_asymm hrs
                have hL2 : ¬ next.toList = c.toList := toList_ne (keyLt_ne hrs).symm
                have hL3 : (next.toList == c.toList) = false := by simp [hL2]
                have HNEWS := Lib.hid (fun o => (own_mod' (S := NoB) HRU.out ((Mod.refl NoB w5).alloc o) (fun _ _ x => x)).cells (g := g) rfl)
                have HONE : Hid (∀ u ∈ its.flatMap encIt, u.oneCell' = true) := Lib.hid (by intro u hu; rw [List.mem_flatMap] at hu; obtain ⟨x, _, hx⟩ := hu; exact oneIt hx)
                have H63 : Hid (gl.length + its.length ≤ maxLen) := Lib.hid (by have := HGL2.out; unfold maxLen; omega)
                have HBY : Hid ((gl.length + its.length) * i0.bytes ≤ 140737488355328) := Lib.hid (Nat.le_trans (Nat.mul_le_mul (show gl.length + its.length ≤ 1000000 from HGL2.out) hz3) (by decide))
                have HFL := Lib.hid HRU.out.1
                have HP2 : Hid (∀ (o : Obj) (w6 : World), (w5.alloc o).grownBy w6 u15.ownBlock → Below w4.heap.size w4 w6) := Lib.hid (fun o w6 hg => (HBA.out o).grown hg (HBA.out o).size (fun q hq => (HROW.out.lt q hq).1))
                have HT : Hid (∀ (cs : Array Value) (w6 : World), (w5.alloc (.cells cs 37)).grownBy w6 u15.ownBlock → w6.heap[w5.heap.size]? = some (.cells cs 37 (0, 0))) := Lib.hid (fun cs w6 hg =>
                  (hg.block w5.heap.size (by simp) (not_own_row (cs := cs) (t := 37) (e := 43) (heap_alloc_new w5 _) (by decide) (HRA.out _))).trans (heap_alloc_new w5 _))
                go_wp2_with (at_builtin; go_loud (refine wpList_append_own_at _ rfl _ _ 35 rfl w4.heap.size 43 i0 z0 2 i0.bytes tyIts hi hz0 hz1 rfl hz2 (by decide) _ _ _ rfl (HRA.out _) ⟨g, 0, none⟩ its.length cap' (its.flatMap encIt) rfl HFL.out (HNEWS.out _) HONE.out H63.out HBY.out (HBA.out _).size ?_; intro v' w6 hown' hgrow hnn hat'; have P1 := Lib.hid hown'; have P2 := Lib.hid (HP2.out _ _ hgrow); have hT := HT.out _ _ hgrow; have t3 := cell_of hT 3 rfl; have t4 := cell_of hT 4 rfl; clear hown' hgrow hnn hat' hT))
                have h1 := ST.out.went
                have h2 := ST.out.less
                have h3 := ST.out.short
                dsimp only at h1 h2 h3
                exact ⟨⟨next, gl ++ its, n + 1, rfl, by go_num, by rw [List.length_append, List.flatMap_append]; exact P1.out, h1, keyLt_asymm (keyLt_le_trans hcf hrs), h3, by have := HBUD.out; omega, P2.out⟩, by simp [intOf]; omega⟩
      case rest =>
        obtain ⟨c, gl, P, rfl, hrow, hgl, hP, hbel⟩ := hcut
        have hsl := own_slAt (k := 2) (enc := encIt) (fun _ => rfl) hrow
        obtain ⟨gv, gcap, rfl, _⟩ := id hsl
        have hmb := Mod.ofBelow hbel
        obtain ⟨Wc, rfl⟩ : ∃ Wc : World, Wc = wc := ⟨_, rfl⟩
        have HGS := Lib.hid hsl; have HIS := Lib.hid (HSL.out.mod hmb); have HGL := Lib.hid hgl; have HP := Lib.hid hP
        have MF := Lib.hid (show Mod NoB w Wc from M1.out.trans (N4.out.2.1.trans hmb))
        have hglen : gl.length ≤ 1000000 := by
          have h1 : gl.length ≤ xs.length := by rw [hgl]; exact List.length_filter_le _ _
          have := HXJ.out
          omega
        have hx40 : xs.length ≤ 1000000 := by have := HXJ.out; omega
        clear hsl hrow hmb hbel hgl hP HSL
        go_wp2_with fail
        go_loopw [18, 140] (fun s18 s140 wr => ∃ i : Nat, i ≤ xs.length ∧ s140 = .int .i64 i ∧ s18 = .int .i64 ((xs.take i).filter P).length ∧ Mod NoB Wc wr) (fun _ s140 _ => xs.length - (intOf s140).toNat)
        case atStart => exact ⟨0, Nat.zero_le _, rfl, rfl, Mod.refl _ _⟩
        case round =>
          obtain ⟨i, hi', rfl, rfl, hm⟩ := hrel
          by_cases hlt : i < xs.length
          · have he : xs[i]? = some xs[i] := List.getElem?_eq_getElem hlt
            obtain ⟨xb, xo, xc, hv1, hb1, r0, r1⟩ := at2 (HIS.out.mod hm) he
            have hnx := HGL.out
            have hfl := filt_len (P := P) he
            have hfa := filt_at (P := P) he
            have hfn := fun hp y hy => filt_not (P := P) HRISE.out he hp (y := y) hy
            have hPx := HP.out xs[i]
            generalize xs[i] = x at *
            clear he
            simp only [Value.slice.injEq] at hv1
            obtain ⟨rfl, _, rfl⟩ := hv1
            obtain ⟨xk, xv⟩ := x
            dsimp only at r0 r1 hfn hPx
            rw [← HGL.out] at hfa hfn
            have MR := Lib.hid hm
            obtain ⟨K, hK⟩ : ∃ K, K = ((xs.take i).filter P).length := ⟨_, rfl⟩
            rw [← hK] at hfl hfa hfn ⊢
            have HFL := Lib.hid hfl; have HFN := Lib.hid hfn
            clear hm hfl hfn hnx hK
            cases hp : P (xk, xv) with
            | true =>
              have hg := hfa hp
              have hKl : K < gl.length := (List.getElem?_eq_some_iff.1 hg).1
              obtain ⟨yb, yo, yc, hv2, hb2, q0, q1⟩ := at2 (HGS.out.mod MR.out) hg
              simp only [Value.slice.injEq] at hv2
              obtain ⟨rfl, _, rfl⟩ := hv2
              dsimp only at q0 q1
              have HE := Lib.hid (by rw [HFL.out, if_pos hp] : ((xs.take (i + 1)).filter P).length = K + 1)
              clear hfa hg hPx
              have hKI : (K : Int) < (gl.length : Int) := by omega
              have hd : decide ((K : Int) < (gl.length : Int)) = true := by simpa using hKI
              have q0' := ((Mod.refl NoB wr).alloc (.cells #[.string xk, .string xv] 43)).cellS q0
              have q1' := ((Mod.refl NoB wr).alloc (.cells #[.string xk, .string xv] 43)).cellS q1
              go_wp2_with fail
              go_quiet (fail)
              go_wp2_with fail
              exact ⟨⟨i + 1, by omega, by go_num, by rw [HE.out]; go_num, (MR.out.trans ((Mod.refl NoB wr).alloc _)).trans ((Mod.refl NoB _).drewN _)⟩, by simp [intOf]; omega⟩
            | false =>
              have HE := Lib.hid (by rw [HFL.out, if_neg (by rw [hp]; simp), Nat.add_zero] : ((xs.take (i + 1)).filter P).length = K)
              have hcase : keyLt xk fr = true ∨ (keyLt xk fr = false ∧ keyLt xk c = false) ∨ (keyLt xk fr = false ∧ keyLt xk c = true ∧ tk ≠ ⟨#[]⟩ ∧ keyLt xk tk = false) := by
                cases h1 : keyLt xk fr with
                | true => exact .inl rfl
                | false =>
                  cases h2 : keyLt xk c with
                  | false => exact .inr (.inl ⟨rfl, rfl⟩)
                  | true =>
                    refine .inr (.inr ⟨rfl, rfl, ?_⟩)
                    have hq : toB tk xk = false := by
                      cases h3 : toB tk xk with
                      | false => rfl
                      | true => have := hPx (by simp [wentF, h1, h2, h3]); rw [hp] at this; cases this
                    simp only [toB, Bool.or_eq_false_iff, decide_eq_false_iff_not] at hq
                    exact hq
              by_cases hKl : K < gl.length
              · obtain ⟨y, hy⟩ : ∃ y, gl[K]? = some y := ⟨_, List.getElem?_eq_getElem hKl⟩
                obtain ⟨yb, yo, yc, hv2, hb2, q0, q1⟩ := at2 (HGS.out.mod MR.out) hy
                have hne := HFN.out hp y hy
                simp only [Value.slice.injEq] at hv2
                obtain ⟨rfl, _, rfl⟩ := hv2
                obtain ⟨yk, yv⟩ := y
                dsimp only at q0 q1 hne
                have hKI : (K : Int) < (gl.length : Int) := by omega
                have hd : decide ((K : Int) < (gl.length : Int)) = true := by simpa using hKI
                have q0' := ((Mod.refl NoB wr).alloc (.cells #[.string xk, .string xv] 43)).cellS q0
                have q1' := ((Mod.refl NoB wr).alloc (.cells #[.string xk, .string xv] 43)).cellS q1
                have w1' : ¬ yk.toList = xk.toList := toList_ne hne
                have w2' : (yk.toList == xk.toList) = false := by simp [w1']
                have w3' : (yk == xk) = false := by
                  cases h : (yk == xk) with
                  | false => rfl
                  | true => exact absurd ((MapKept.bytes_beq _ _).1 h) hne
                clear hy
                rcases hcase with z1 | ⟨z1, z2⟩ | ⟨z1, z2, z3, z4⟩
                · have y1 : Op.bytesLess xk.toList fr.toList = true := by rw [bl_keyLt]; exact z1
                  clear hPx hfa
                  go_wp2_with fail
                  go_quiet (fail)
                  go_wp2_with fail
                  exact ⟨⟨i + 1, by omega, by go_num, by rw [HE.out], (MR.out.trans ((Mod.refl NoB wr).alloc _)).trans ((Mod.refl NoB _).drewN _)⟩, by simp [intOf]; omega⟩
                · have y1 : Op.bytesLess xk.toList fr.toList = false := by rw [bl_keyLt]; exact z1
                  have y2 : Op.bytesLess xk.toList c.toList = false := by rw [bl_keyLt]; exact z2
                  clear hPx hfa
                  go_wp2_with fail
                  go_quiet (fail)
                  go_wp2_with fail
                  exact ⟨⟨i + 1, by omega, by go_num, by rw [HE.out], (MR.out.trans ((Mod.refl NoB wr).alloc _)).trans ((Mod.refl NoB _).drewN _)⟩, by simp [intOf]; omega⟩
                · have y1 : Op.bytesLess xk.toList fr.toList = false := by rw [bl_keyLt]; exact z1
                  have y2 : Op.bytesLess xk.toList c.toList = true := by rw [bl_keyLt]; exact z2
                  have y4 : Op.bytesLess xk.toList tk.toList = false := by rw [bl_keyLt]; exact z4
                  have y3 : ¬ tk.toList = [] := fun e => z3 (by
                    cases tk with | mk d => exact congrArg ByteArray.mk (Array.ext' (by rw [Lib.toList_data] at e; exact e)))
                  have y5 : tk.toList.isEmpty = false := by
                    cases h : tk.toList with
                    | nil => exact absurd h y3
                    | cons _ _ => rfl
                  clear hPx hfa
                  go_wp2_with fail
                  go_quiet (fail)
                  go_wp2_with fail
                  exact ⟨⟨i + 1, by omega, by go_num, by rw [HE.out], (MR.out.trans ((Mod.refl NoB wr).alloc _)).trans ((Mod.refl NoB _).drewN _)⟩, by simp [intOf]; omega⟩
              · have hKI : ¬ (K : Int) < (gl.length : Int) := by omega
                have hd : decide ((K : Int) < (gl.length : Int)) = false := by simpa using hKI
                rcases hcase with z1 | ⟨z1, z2⟩ | ⟨z1, z2, z3, z4⟩
                · have y1 : Op.bytesLess xk.toList fr.toList = true := by rw [bl_keyLt]; exact z1
                  clear hPx hfa
                  go_wp2_with fail
                  go_quiet (fail)
                  go_wp2_with fail
                  exact ⟨⟨i + 1, by omega, by go_num, by rw [HE.out], (MR.out.trans ((Mod.refl NoB wr).alloc _)).trans ((Mod.refl NoB _).drewN _)⟩, by simp [intOf]; omega⟩
                · have y1 : Op.bytesLess xk.toList fr.toList = false := by rw [bl_keyLt]; exact z1
                  have y2 : Op.bytesLess xk.toList c.toList = false := by rw [bl_keyLt]; exact z2
                  clear hPx hfa
                  go_wp2_with fail
                  go_quiet (fail)
                  go_wp2_with fail
                  exact ⟨⟨i + 1, by omega, by go_num, by rw [HE.out], (MR.out.trans ((Mod.refl NoB wr).alloc _)).trans ((Mod.refl NoB _).drewN _)⟩, by simp [intOf]; omega⟩
                · have y1 : Op.bytesLess xk.toList fr.toList = false := by rw [bl_keyLt]; exact z1
                  have y2 : Op.bytesLess xk.toList c.toList = true := by rw [bl_keyLt]; exact z2
                  have y4 : Op.bytesLess xk.toList tk.toList = false := by rw [bl_keyLt]; exact z4
                  have y3 : ¬ tk.toList = [] := fun e => z3 (by
                    cases tk with | mk d => exact congrArg ByteArray.mk (Array.ext' (by rw [Lib.toList_data] at e; exact e)))
                  have y5 : tk.toList.isEmpty = false := by
                    cases h : tk.toList with
                    | nil => exact absurd h y3
                    | cons _ _ => rfl
                  clear hPx hfa
                  go_wp2_with fail
                  go_quiet (fail)
                  go_wp2_with fail
                  exact ⟨⟨i + 1, by omega, by go_num, by rw [HE.out], (MR.out.trans ((Mod.refl NoB wr).alloc _)).trans ((Mod.refl NoB _).drewN _)⟩, by simp [intOf]; omega⟩
          · obtain rfl : i = xs.length := by omega
            have hfin : Mod NoB w wr := MF.out.trans hm
            have hlast : ((xs.take xs.length).filter P).length = gl.length := by rw [List.take_length, HGL.out]
            rw [hlast] at *
            go_wp2_with fail
            go_ret
            exact ⟨rfl, hfin⟩
end Go.Proofs.YtmagddchjidamaaGreatDoor
