/- (*shelf.node).all at every depth; Items. -/
import Derived.Test.YtpcmbnbdppembaaGreatDoorTreePut
namespace Go.Proofs.YtpcmbnbdppembaaGreatDoor
set_option linter.unusedSimpArgs false
set_option linter.unusedVariables false
open Go.RowKit Go.Shelf
attribute [local go_sem ↓] Go.wp_at_zero Go.wp_at_succ

def AllE (w : World) (vout : Value) (ys : List Itm) (e : Ending) (w' : World) : Prop :=
  ∃ v, e = .returned v ∧ RowIt w' v ys.length (ys.flatMap encIt) ∧ Mod (· ∈ ownL vout) w w' ∧ ∀ g ∈ ownL v, g ∈ ownL vout ∨ w.heap.size ≤ g

def AllOK (d : Nat) : Prop := ∀ (w : World) (b : Nat) (t : Tree) (L : List Nat) (outs : List Itm) (vout : Value), TreeP w b t L → okT d t → RowIt w vout outs.length (outs.flatMap encIt) → (∀ g ∈ ownL vout, g ∉ L) → outs.length + t.its.length ≤ 100000 →
  Calls Tryz.prog 154 #[.pointer (some ⟨b, 0, none⟩), vout] w (AllE w vout (outs ++ t.its))

theorem all_leaf_ok : AllOK 0 := by
  intro w b t L outs vout ht ho hr hd hl
  obtain ⟨xs, ts⟩ := t
  unfold okT at ho
  obtain ⟨rfl, hw⟩ := ho
  obtain ⟨L', h1, hp⟩ := ht.at
  rw [its_leaf] at hl ⊢
  exact all_leaf h1 outs vout hr (fun g hg hc => hd g hg (hp.mem_iff.1 hc)) (by omega)

theorem TreesP.get {w : World} {bs : List Nat} {ts : List Tree} {L : List Nat} (h : TreesP w bs ts L) {k : Nat} (hk : k < ts.length) : ∃ c t Lt, bs[k]? = some c ∧ ts[k]? = some t ∧ TreeP w c t Lt ∧ ∀ g ∈ Lt, g ∈ L := by
  have hsp : ts = ts.take k ++ ts[k] :: ts.drop (k + 1) := by rw [List.getElem_cons_drop, List.take_append_drop]
  rw [hsp] at h
  obtain ⟨bA, c, bB, LA, Lt, LB, rfl, hbA, k1, k2, k3, kp⟩ := h.mid
  have hl : bA.length = k := by rw [hbA, List.length_take]; omega
  exact ⟨c, ts[k], Lt, by rw [← hl]; simp, List.getElem?_eq_getElem hk, k2, fun g hg => kp.mem_iff.2 (List.mem_append_left _ hg)⟩

theorem preT_take {xs : List Itm} {ts : List Tree} {k : Nat} {x : Itm} {t : Tree} (hx : xs[k]? = some x) (ht : ts[k]? = some t) : preT (xs.take (k + 1)) (ts.take (k + 1)) = preT (xs.take k) (ts.take k) ++ (t.its ++ [x]) := by
  have h1 := (List.getElem?_eq_some_iff.1 hx).1
  have h2 := (List.getElem?_eq_some_iff.1 ht).1
  rw [List.take_add_one, List.take_add_one, hx, ht]
  exact preT_append _ _ _ _ (by rw [List.length_take, List.length_take]; omega)

theorem its_whole {xs : List Itm} {ts : List Tree} {t : Tree} (hl : ts.length = xs.length + 1) (ht : ts[xs.length]? = some t) : (Tree.mk xs ts).its = preT xs (ts.take xs.length) ++ t.its := by
  have h2 := (List.getElem?_eq_some_iff.1 ht)
  have hsp : ts = ts.take xs.length ++ t :: [] := by
    have h3 : ts.drop xs.length = [t] := by
      rw [List.drop_eq_getElem_cons h2.1, h2.2, List.drop_eq_nil_of_le (by omega)]
    rw [← h3, List.take_append_drop]
  have := its_focus (x1 := xs) (x2 := []) (A := ts.take xs.length) (B := []) (t := t) (by rw [List.length_take]; omega) rfl
  rw [List.append_nil, ← hsp] at this
  simpa [postT] using this

theorem preT_bound {xs : List Itm} {ts : List Tree} (hl : ts.length = xs.length + 1) (k : Nat) (hk : k ≤ xs.length) : (preT (xs.take k) (ts.take k)).length ≤ (Tree.mk xs ts).its.length := by
  obtain ⟨t, ht⟩ : ∃ t, ts[xs.length]? = some t := ⟨_, List.getElem?_eq_getElem (by omega)⟩
  rw [its_whole hl ht]
  have e1 : preT xs (ts.take xs.length) = preT (xs.take k ++ xs.drop k) ((ts.take xs.length).take k ++ (ts.take xs.length).drop k) := by rw [List.take_append_drop, List.take_append_drop]
  rw [e1, preT_append _ _ _ _ (by simp; omega), List.take_take, Nat.min_eq_left hk]
  simp

def AllRel2 (w : World) (outs : List Itm) (vout : Value) (xs : List Itm) (ts : List Tree) (o i : Value) (wr : World) : Prop :=
  ∃ k : Nat, k ≤ xs.length ∧ i = .int .i64 k ∧ RowIt wr o (outs ++ preT (xs.take k) (ts.take k)).length ((outs ++ preT (xs.take k) (ts.take k)).flatMap encIt) ∧ Mod (· ∈ ownL vout) w wr ∧ ∀ g ∈ ownL o, g ∈ ownL vout ∨ w.heap.size ≤ g

set_option maxRecDepth 100000 in
set_option maxHeartbeats 16000000 in
theorem all_in_ok {d : Nat} (ih : AllOK d) : AllOK (d + 1) := by
  intro w b t L outs vout ht ho hro hd hl
  obtain ⟨xs, ts⟩ := t
  have hok := ho
  unfold okT at ho
  obtain ⟨o1, o2, o3⟩ := ho
  obtain ⟨v, u, bs, Ls, h1, h2, hp⟩ := ht.open
  have hbl : bs.length = xs.length + 1 := by rw [h2.len, o1]
  have hsl := own_slAt (k := 2) (enc := encIt) (fun _ => rfl) h1.2.1
  obtain ⟨av, cap, rfl, _⟩ := id hsl
  rcases ownsRow_form h1.2.2 with ⟨_, h0⟩ | ⟨gu, cu, rfl⟩
  · omega
  have c0 : w.cell? ⟨b, 0, none⟩ = some (.slice av xs.length cap) := cell_of h1.1 0 rfl
  have c1 : w.cell? ⟨b, 1, none⟩ = some (.slice (some ⟨gu, 0, none⟩) bs.length cu) := cell_of h1.1 1 rfl
  obtain ⟨n, hn⟩ : ∃ n, n = bs.length := ⟨_, rfl⟩
  rw [← hn] at c1
  have hdn : ∀ k ∈ nodeL b (.slice av xs.length cap) (.slice (some ⟨gu, 0, none⟩) bs.length cu), k ∉ ownL vout := fun k hk e => hd k e (hp.mem_iff.2 (List.mem_append_left _ hk))
  have hleaf : ∀ W, Mod (· ∈ ownL vout) w W → Calls Tryz.prog 148 #[.pointer (some ⟨b, 0, none⟩)] W fun e w' => e = .returned (.bool false) ∧ w' = W := fun W hm => by
    have := leaf_node (h1.mod hm hdn)
    rwa [show decide (bs.length = 0) = false by rw [hbl]; simp] at this
  have hkid : ∀ k, k ≤ xs.length → ∃ c t Lt, w.cell? ⟨gu, k, none⟩ = some (.pointer (some ⟨c, 0, none⟩)) ∧ ts[k]? = some t ∧ TreeP w c t Lt ∧ okT d t ∧ (∀ g ∈ Lt, g ∉ ownL vout) := fun k hk => by
    obtain ⟨c, t, Lt, q1, q2, q3, q4⟩ := h2.get (k := k) (by omega)
    have hc := h1.2.2.cells (g := gu) rfl k (.pointer (some ⟨c, 0, none⟩)) (by simpa using flat_cell (k := 1) (enc := encNd) (fun _ => rfl) _ k c q1 0 _ rfl)
    rw [addr_lit, Nat.zero_add] at hc
    exact ⟨c, t, Lt, hc, q2, q3, (o3 t (List.mem_of_getElem? q2)).1, fun g hg e => hd g e (hp.mem_iff.2 (List.mem_append_right _ (q4 g hg)))⟩
  have hbo : b ∉ ownL vout := hdn b (by simp [nodeL])
  have hgo : gu ∉ ownL vout := hdn gu (by simp [nodeL, ownL, Value.ownBlock])
  have hao : ∀ b' o', av = some ⟨b', o', none⟩ → b' ∉ ownL vout := fun b' o' e => hdn b' (by simp [nodeL, ownL, Value.ownBlock, e])
  have hbnd := fun k hk => preT_bound (xs := xs) (ts := ts) o1 k hk
  have HLF := Lib.hid hleaf; have HK := Lib.hid hkid; have HS := Lib.hid hsl; have HRO := Lib.hid hro; have HD := Lib.hid hd; have HBO := Lib.hid hbo; have HGO := Lib.hid hgo; have HAO := Lib.hid hao; have HO1 := Lib.hid o1; have HLT := Lib.hid h1.lts; have HBND := Lib.hid hbnd; have HN := Lib.hid hn; have HBL := Lib.hid hbl
  have C0 := Lib.hid c0; have C1 := Lib.hid c1
  have hvlt := own_lt hro
  have HVLT := Lib.hid hvlt
  have hnx : n ≤ xs.length + 1 ∧ xs.length + 1 ≤ n := by omega
  obtain ⟨hnx1, hnx2⟩ := hnx
  have hgw : gu < w.heap.size := h1.lts gu (by simp [nodeL, ownL, Value.ownBlock])
  have hbw : b < w.heap.size := h1.lts b (by simp [nodeL])
  obtain ⟨ys, hys⟩ : ∃ ys, ys = outs ++ (Tree.mk xs ts).its := ⟨_, rfl⟩
  rw [← hys]
  have HYS := Lib.hid hys
  clear ht hok o1 o3 h1 h2 hp hbl hsl c1 hn hdn hleaf hkid hbo hgo hao hbnd hro hd hvlt hys
  go_enter Tryz.func154, Tryz.ntmps154
  go_wp2_with fail
  clear c0
  go_loopw [1, 15] (fun o i wr => AllRel2 w outs vout xs ts o i wr) (fun _ i _ => xs.length - (intOf i).toNat)
  case atStart => exact ⟨0, Nat.zero_le _, rfl, by simpa [preT] using HRO.out, Mod.refl _ _, fun g hg => .inl hg⟩
  case round =>
    obtain ⟨k, hk, rfl, hrow, hm, hb⟩ := hrel
    obtain ⟨c, tc, Lt, q1, q2, q3, q4, q5⟩ := HK.out k hk
    have hkd := hm.size
    have d1 : wr.cell? ⟨b, 1, none⟩ = some (.slice (some ⟨gu, 0, none⟩) n cu) := (hm.cell (p := ⟨b, 1, none⟩) hbw HBO.out).trans C1.out
    have dc : wr.cell? ⟨gu, k, none⟩ = some (.pointer (some ⟨c, 0, none⟩)) := (hm.cell (p := ⟨gu, k, none⟩) hgw HGO.out).trans q1
    have ht3 := q3.mod hm q5
    have hkn : k < n := by omega
    have hn9 : n ≤ 9223372036854775807 := by omega
    have hov : ∀ g ∈ ownL u1, g ∉ Lt := fun g hg e => by
      rcases hb g hg with h | h
      · exact q5 g e h
      · have := q3.lts g e; omega
    have HR := Lib.hid hrow; have HM := Lib.hid hm; have HB := Lib.hid hb; have HT3 := Lib.hid ht3; have HOV := Lib.hid hov; have Q2 := Lib.hid q2; have Q4 := Lib.hid q4; have HBK := Lib.hid (HBND.out k hk)
    have hleafW : ∀ W, Mod NoB wr W → Calls Tryz.prog 148 #[.pointer (some ⟨b, 0, none⟩)] W fun e w' => e = .returned (.bool false) ∧ w' = W := fun W h2 => HLF.out W (HM.out.trans (h2.mono (fun _ _ x => x.elim)))
    have HLW := Lib.hid hleafW
    clear hrow hm hb ht3 hov q1 q2 q3 q4 q5 hleafW
    by_cases hlt : k < xs.length
    · have he : xs[k]? = some xs[k] := List.getElem?_eq_getElem hlt
      generalize xs[k] = x at he
      obtain ⟨b', o', cap', hv, hb', p0, p1⟩ := at2 HS.out he
      simp only [Value.slice.injEq] at hv
      obtain ⟨rfl, _, rfl⟩ := hv
      have hna := HAO.out b' o' rfl
      have p0 := (HM.out.cell (p := ⟨b', o' + k * 2, none⟩) hb' hna).trans p0
      have p1 := (HM.out.cell (p := ⟨b', o' + k * 2 + 1, none⟩) hb' hna).trans p1
      have d1a : ∀ o, (wr.alloc o).cell? ⟨b, 1, none⟩ = some (.slice (some ⟨gu, 0, none⟩) n cu) := fun o => ((Mod.refl NoB wr).alloc o).cellS d1
      have dca : ∀ o, (wr.alloc o).cell? ⟨gu, k, none⟩ = some (.pointer (some ⟨c, 0, none⟩)) := fun o => ((Mod.refl NoB wr).alloc o).cellS dc
      have hulw : ∀ g ∈ ownL u1, g < wr.heap.size := own_lt HR.out
      have HULW := Lib.hid hulw
      have hpt := preT_take he Q2.out
      have hb1 := HBND.out (k + 1) hlt
      rw [hpt] at hb1
      have hbd1 : (outs ++ preT (xs.take k) (ts.take k)).length + tc.its.length ≤ 100000 := by
        simp at hb1 ⊢; omega
      have HE := Lib.hid he; have HPT := Lib.hid hpt; have HB1 := Lib.hid hb1; have HBD1 := Lib.hid hbd1
      obtain ⟨i0, z0, hii, hz0, hzi1, hzi2, hzi3⟩ := partsIt
      have HI := Lib.hid hii; have HZ0 := Lib.hid hz0; have HZ1 := Lib.hid hzi1; have HZ2 := Lib.hid hzi2
      clear he hpt hb1 hbd1 hulw hna hii hz0 hzi1 hzi2
      go_wp2_with (first
        | (go_at_call 148; refine (HLW.out _ ((Mod.refl _ _).alloc _)).mono ?_; rintro e w2 ⟨rfl, rfl⟩)
        | (go_at_call 154; refine (ih _ c tc Lt (outs ++ preT (xs.take k) (ts.take k)) u1 (HT3.out.mod ((Mod.refl NoB wr).alloc _) (fun _ _ x => x)) Q4.out (own_mod' HR.out ((Mod.refl NoB wr).alloc _) (fun _ _ x => x)) HOV.out HBD1.out).mono ?_; rintro e w3 ⟨v2, rfl, hr2, hm2, hn2⟩; have iu := heap_keep (heap_alloc_new wr (.cells #[.string x.1, .string x.2] 73)) (Mod.refl NoB _) hm2 (fun x => x) (fun e => absurd (HULW.out _ e) (Nat.lt_irrefl _)); have iu0 : w3.cell? ⟨wr.heap.size, 0, none⟩ = some (.string x.1) := cell_of iu 0 rfl; have iu1 : w3.cell? ⟨wr.heap.size, 1, none⟩ = some (.string x.2) := cell_of iu 1 rfl; have HR2 := Lib.hid hr2; have HM2 := Lib.hid hm2; have HN2 := Lib.hid hn2; clear hr2 hm2 hn2 iu)
        | (at_builtin; go_loud (refine wpList_appended rfl (.tmp 32) (.tmp 34) 22 rfl 73 i0 z0 2 tySIt HI.out HZ0.out HZ1.out HZ2.out hzi3 (by decide) v2 _ _ rfl (own_mod' HR2.out ((Mod.refl NoB w3).alloc _) (fun _ _ x => x)) (.slice (some ⟨w3.heap.size, 0, none⟩) 1 1) 1 (encIt x) rfl (.inr ⟨_, _, rfl, World.news_of_block (heap_alloc_new w3 _)⟩) rfl (fun _ hu => oneIt hu) (by have := HB1.out; have := HBD1.out; simp at *; omega) ?_; intro v3 w4 ha; have HA := Lib.hid ha; clear ha)))
      refine ⟨⟨k + 1, hlt, by go_num, ?_, ?_, ?_⟩, by simp [intOf]; omega⟩
      · have ha := HA.out.own
        rw [HPT.out]
        have e1 : outs ++ (preT (xs.take k) (ts.take k) ++ (tc.its ++ [x])) = (outs ++ preT (xs.take k) (ts.take k) ++ tc.its) ++ [x] := by simp
        rw [e1, List.length_append, List.flatMap_append]
        simpa using ha
      · have s1 := HM.out.size
        refine (((HM.out.alloc _).then HM2.out (fun g hg h => (HB.out g h).resolve_right (by omega))).alloc _).then HA.out.mod (fun g hg h => ?_)
        rcases HN2.out g h with h | h
        · exact (HB.out g h).resolve_right (by omega)
        · simp at h; omega
      · intro g hg
        have s1 := HM.out.size
        have s2 := HM2.out.size
        simp at s2
        rcases HA.out.new g hg with h | h
        · rcases HN2.out g h with h | h
          · exact HB.out g h
          · right; simp at h; omega
        · right; simp at h; omega
    · obtain rfl : k = xs.length := by omega
      have d0 : wr.cell? ⟨b, 0, none⟩ = some (.slice av xs.length cap) := (HM.out.cell (p := ⟨b, 0, none⟩) hbw HBO.out).trans C0.out
      have hxl : xs.length < n := hkn
      have hwh := its_whole HO1.out Q2.out
      have hbd1 : (outs ++ preT (xs.take xs.length) (ts.take xs.length)).length + tc.its.length ≤ 100000 := by
        have e := congrArg List.length hwh
        simp at e ⊢; omega
      have HWH := Lib.hid hwh; have HBD1 := Lib.hid hbd1
      clear hwh hbd1
      go_wp2_with (go_at_call 148; refine (HLW.out _ (Mod.refl _ _)).mono ?_; rintro e w2 ⟨rfl, rfl⟩)
      go_region_law ((go_simp; go_at_call 154; go_loud (refine (ih _ c tc Lt (outs ++ preT (xs.take xs.length) (ts.take xs.length)) u1 (HT3.out.mod (S := NoB) (by repeat (first | exact Mod.refl _ _ | refine Mod.alloc ?_ _ | refine Mod.drew ?_)) (fun _ _ x => x)) Q4.out (own_mod' (S := NoB) HR.out (by repeat (first | exact Mod.refl _ _ | refine Mod.alloc ?_ _ | refine Mod.drew ?_)) (fun _ _ x => x)) HOV.out HBD1.out).mono ?_; rintro e w3 ⟨v2, rfl, hr2, hm2, hn2⟩; have HR2 := Lib.hid hr2; have HM2 := Lib.hid hm2; have HN2 := Lib.hid hn2; clear hr2 hm2 hn2)))
      all_goals
        go_wp2_with fail
        go_ret
        refine ⟨v2, rfl, ?_, ?_, fun g hg => ?_⟩
        · have := HR2.out
          rw [HYS.out, HWH.out]
          simpa using this
        · exact (HM.out.drew).then HM2.out (fun g hg h => (HB.out g h).resolve_right (by omega))
        · rcases HN2.out g hg with h | h
          · exact HB.out g h
          · right; exact Nat.le_trans hkd h

theorem all_ok : (d : Nat) → AllOK d
  | 0 => all_leaf_ok
  | d + 1 => all_in_ok (all_ok d)

/-- Items of a tree that is well formed -/
theorem items_tree {t : Tree} {d : Nat} (ho : okT d t) (hl : t.its.length ≤ 100000) : ItemsOK (some t) t.its := by
  intro w s most n L h
  unfold ShelfAt at h
  obtain ⟨b, Lt, h1, h2, rfl⟩ := h
  have c2 : w.cell? ⟨s, 2, none⟩ = some (.pointer (some ⟨b, 0, none⟩)) := cell_of h1 2 rfl
  have HT := Lib.hid (treeP_at h2)
  clear h1 h2
  go_enter Tryz.func64, Tryz.ntmps64
  go_wp2_with fail
  refine (all_ok d w b t Lt [] (.slice none 0 0) HT.out ho (World.ownsRow_nil _ _ _ _) (fun g hg => by simp [ownL, Value.ownBlock] at hg) (by simpa using hl)).mono ?_
  rintro e w1 ⟨v, rfl, hr, hm, hb⟩
  have HR := Lib.hid hr; have HM := Lib.hid hm; have HB := Lib.hid hb; clear hr hm hb
  go_wp2_with fail
  go_ret
  exact ⟨_, rfl, by simpa using HR.out, HM.out.mono (fun k _ hk => by simp [ownL, Value.ownBlock] at hk), fun g hg => (HB.out g hg).resolve_left (fun hk => by simp [ownL, Value.ownBlock] at hk)⟩
end Go.Proofs.YtpcmbnbdppembaaGreatDoor
