/- Put together out of: Copied, ShelfCopy, CutIn, HoldKeep, HoldWin. -/
import Derived.Test.YtpcmbnbdppembaaGreatDoorTreePut
import Derived.Deep.DeepCutAuto
import Derived.Test.YtpcmbnbdppembaaGreatDoorShelfAny
import Derived.Test.YtpcmbnbdppembaaGreatDoorHoldI
import Derived.Test.YtpcmbnbdppembaaGreatDoorLayWin
/- (*shelf.node).copied, of every depth. -/
namespace Go.Proofs.YtpcmbnbdppembaaGreatDoor
set_option linter.unusedSimpArgs false
set_option linter.unusedVariables false
open Go.RowKit Go.Shelf
attribute [local go_sem ↓] Go.wp_at_zero Go.wp_at_succ

/-- what a copy of a tree is -/
def CopyE (w : World) (t : Tree) (e : Ending) (w' : World) : Prop :=
  ∃ c L', e = .returned (.pointer (some ⟨c, 0, none⟩)) ∧ TreeP w' c t L' ∧ L'.Nodup ∧ Mod NoB w w' ∧ ∀ k ∈ L', w.heap.size ≤ k

/-- a copy under way: its node, the children that it has -/
def CpAt (w W : World) (c : Nat) (v : Value) (xs : List Itm) (u : Value) (cs : List Nat) (ts : List Tree) : Prop :=
  ∃ Ls, NodeAt W c v xs u cs ∧ TreesP W cs ts Ls ∧ (nodeL c v u ++ Ls).Nodup ∧ Mod NoB w W ∧ ∀ k ∈ nodeL c v u ++ Ls, w.heap.size ≤ k

theorem CpAt.quiet {w W W' : World} {c : Nat} {v : Value} {xs : List Itm} {u : Value} {cs : List Nat} {ts : List Tree} (h : CpAt w W c v xs u cs ts) (hm : Mod NoB W W') : CpAt w W' c v xs u cs ts := by
  obtain ⟨Ls, h1, h2, h3, h4, h5⟩ := h
  exact ⟨Ls, h1.mod hm (fun _ _ x => x), h2.mod hm (fun _ _ x => x), h3, h4.trans hm, h5⟩

theorem cp_step {w W w7 w8 w9 : World} {c c7 : Nat} {v u u' : Value} {xs : List Itm} {cs L7 : List Nat} {ts : List Tree} {y : Tree} (h : CpAt w W c v xs u cs ts) (hM : Mod NoB W w7) (ht : TreeP w7 c7 y L7) (hn7 : L7.Nodup) (hL7 : ∀ k ∈ L7, W.heap.size ≤ k) (hm8 : Mod NoB w7 w8)
    (hA : Appended w8 w9 u u' 185 1 cs.length 1 (cs.flatMap encNd) (encNd c7)) : CpAt w (w9.setCell ⟨c, 1, none⟩ u') c v xs u' (cs ++ [c7]) (ts ++ [y]) := by
  obtain ⟨Ls, h1, h2, h3, h4, h5⟩ := h
  have hlt1 := h1.lts
  have hlt2 := h2.lts
  have hlt7 := ht.lts
  have s1 := hM.size
  have s2 := hm8.size
  obtain ⟨n1, n2, n3⟩ := List.nodup_append.1 h3
  have h18 := h1.mod (hM.trans hm8) (fun _ _ x => x)
  obtain ⟨q1, q2, q3⟩ := node_below (u' := u') (bs' := cs ++ [c7]) h18 n1 hA.mod (by have := hA.own; rw [List.flatMap_append]; simpa using this) hA.new
  have hT := q3.1
  have h28 := h2.mod (hM.trans hm8) (fun _ _ x => x)
  have e1 := h28.mod hT (fun k hk hc => n3 k hc k hk rfl)
  have e2 := (ht.mod hm8 (fun _ _ x => x)).mod hT (fun k hk hc => by have := hlt1 k hc; have := hL7 k hk; omega)
  have hnl : ∀ k ∈ nodeL c v u', k ∈ nodeL c v u ∨ w8.heap.size ≤ k := q3.2
  refine ⟨Ls ++ (L7 ++ []), q1, TreesP.append e1 (TreesP.cons e2 (TreesP.nil _)), ?_, (h4.trans (hM.trans hm8)).then hT (fun k hk hc => absurd (h5 k (List.mem_append_left _ hc)) (by omega)), fun k hk => ?_⟩
  · rw [List.append_nil]
    refine List.nodup_append.2 ⟨q2, List.nodup_append.2 ⟨n2, hn7, fun a ha b hb e => ?_⟩, fun a ha b hb e => ?_⟩
    · have := hlt2 a ha; have := hL7 b hb; omega
    · subst e
      rcases List.mem_append.1 hb with hb | hb
      · rcases hnl a ha with h | h
        · exact n3 a h a hb rfl
        · have := hlt2 a hb; omega
      · rcases hnl a ha with h | h
        · have := hlt1 a h; have := hL7 a hb; omega
        · have := hlt7 a hb; omega
  · have hw := h4.size
    rw [List.append_nil] at hk
    rcases List.mem_append.1 hk with hk | hk
    · rcases hnl k hk with h | h
      · exact h5 k (List.mem_append_left _ h)
      · omega
    · rcases List.mem_append.1 hk with hk | hk
      · exact h5 k (List.mem_append_right _ hk)
      · have := hL7 k hk; omega

theorem CpAt.drew {w W : World} {c : Nat} {v : Value} {xs : List Itm} {u : Value} {cs : List Nat} {ts : List Tree} (h : CpAt w W c v xs u cs ts) : CpAt w W.drew c v xs u cs ts := h.quiet (Mod.refl _ _).drew

theorem at1n {w : World} {v : Value} {l : List Nat} (h : SlAt 1 encNd w v l) {i : Nat} {x : Nat} (hi : l[i]? = some x) :
    ∃ b o cap, v = .slice (some ⟨b, o, none⟩) l.length cap ∧ b < w.heap.size ∧ w.cell? ⟨b, o + i, none⟩ = some (.pointer (some ⟨x, 0, none⟩)) := by
  obtain ⟨a, cap, hv, hx⟩ := h
  obtain ⟨b, o, rfl, hj⟩ := hx i x hi
  have := hj 0 _ rfl
  rw [Nat.mul_one, Nat.add_zero] at this
  exact ⟨b, o, cap, hv, cell_lt' this, this⟩

theorem trees_at {w : World} : {bs : List Nat} → {ts : List Tree} → {L : List Nat} → TreesP w bs ts L → ∀ {i : Nat} {b : Nat} {t : Tree}, bs[i]? = some b → ts[i]? = some t → ∃ L', TreeP w b t L'
  | [], [], _, _, i, b, t, h, _ => by simp at h
  | b :: bs, t :: ts, L, h, 0, b', t', h1, h2 => by
    unfold TreesP at h
    obtain ⟨L1, L2, k1, k2, kp⟩ := h
    simp at h1 h2
    subst h1 h2
    exact ⟨L1, k1⟩
  | b :: bs, t :: ts, L, h, i + 1, b', t', h1, h2 => by
    unfold TreesP at h
    obtain ⟨L1, L2, k1, k2, kp⟩ := h
    exact trees_at k2 (by simpa using h1) (by simpa using h2)
  | [], _ :: _, _, h, _, _, _, _, _ => by unfold TreesP at h; exact h.elim
  | _ :: _, [], _, h, _, _, _, _, _ => by unfold TreesP at h; exact h.elim

set_option maxRecDepth 100000 in
set_option maxHeartbeats 16000000 in
theorem copied_walk {w : World} {b : Nat} {v u : Value} {xs : List Itm} {bs : List Nat} {ts : List Tree} {Ls : List Nat} (hN : NodeAt w b v xs u bs) (hT : TreesP w bs ts Ls) (hx : xs.length ≤ 6) (hb : bs.length ≤ 7)
    (hIH : ∀ t ∈ ts, ∀ (w : World) (b : Nat) (L : List Nat), TreeP w b t L → Calls Tryz.prog 220 #[.pointer (some ⟨b, 0, none⟩)] w (CopyE w t)) :
    Calls Tryz.prog 220 #[.pointer (some ⟨b, 0, none⟩)] w (CopyE w (.mk xs ts)) := by
  obtain ⟨i0, z0, hii, hz0, hzi1, hzi2, hzi3⟩ := partsNd
  have HI := Lib.hid hii; have HZ0 := Lib.hid hz0; have HZ1 := Lib.hid hzi1; have HZ2 := Lib.hid hzi2
  clear hii hz0 hzi1 hzi2
  have hlen := hT.len
  have c0 : w.cell? ⟨b, 0, none⟩ = some v := cell_of hN.1 0 rfl
  have c1 : w.cell? ⟨b, 1, none⟩ = some u := cell_of hN.1 1 rfl
  have hsl : SlAt 1 encNd w u bs := own_slAt (k := 1) (enc := encNd) (l := bs) (fun _ => rfl) hN.2.2
  obtain ⟨au, capu, rfl, _⟩ := id hsl
  have hrd := Read.ofRow hN.2.1
  have HSL := Lib.hid hsl; have HT := Lib.hid hT; have HIH := Lib.hid hIH; have C1 := Lib.hid c1; have HRD := Lib.hid hrd; have HLEN := Lib.hid hlen
  clear hsl hT hIH hrd hN hlen c1
  go_enter Tryz.func220, Tryz.ntmps220
  go_wp2_with fail
  refine (cloneIt HRD.out (flat_length (k := 2) (fun _ => rfl) _) (flat_one (fun _ _ hu => oneIt hu)) (by omega)).mono ?_
  rintro e w2 ⟨v2, rfl, r1, r2, r3⟩
  have hvs : ∃ a m cap, v2 = .slice a m cap := by
    rcases ownsRow_form r1 with ⟨e, _⟩ | ⟨g, cap, e⟩
    · exact ⟨_, _, _, e⟩
    · exact ⟨_, _, _, e⟩
  obtain ⟨va, vm, vcap, rfl⟩ := hvs
  have R1 := Lib.hid r1; have R2 := Lib.hid r2; have R3 := Lib.hid r3
  have c1' := r2.cellS C1.out
  have c1a : ∀ o, (w2.alloc o).cell? ⟨b, 1, none⟩ = some (.slice au bs.length capu) := fun o => ((Mod.refl NoB w2).alloc o).cellS c1'
  clear r1 r2 r3
  have hcp : CpAt w (w2.alloc (.cells #[(.slice va vm vcap), .slice none 0 0] 190)) w2.heap.size (.slice va vm vcap) xs (.slice none 0 0) [] [] := by
    refine ⟨[], ⟨heap_alloc_new w2 _, own_mod' R1.out ((Mod.refl NoB _).alloc _) (fun _ _ x => x), World.ownsRow_nil _ _ _ _⟩, TreesP.nil _, ?_, R2.out.alloc _, fun k hk => ?_⟩
    · have h1 : w2.heap.size ∉ ownL (.slice va vm vcap) := fun e => by have := own_lt R1.out _ e; omega
      simp [nodeL, h1, ownL_nodup, show ownL (.slice none 0 0) = [] from rfl]
    · simp only [nodeL, List.append_nil, show ownL (.slice none 0 0) = [] from rfl, List.mem_cons] at hk
      rcases hk with rfl | hk
      · exact R2.out.size
      · exact R3.out k hk
  have HCP := Lib.hid hcp
  have M3 := Lib.hid (show Mod NoB w (w2.alloc (.cells #[(.slice va vm vcap), .slice none 0 0] 190)) from R2.out.alloc _)
  clear hcp
  go_wp2_with fail
  generalize w2.alloc (.cells #[(.slice va vm vcap), .slice none 0 0] 190) = w3 at *
  go_loopw [20] (fun i wr => ∃ (j : Nat) (cs : List Nat) (uj : Value), j ≤ bs.length ∧ i = .int .i64 j ∧ cs.length = j ∧ CpAt w wr w2.heap.size (.slice va vm vcap) xs uj cs (ts.take j)) (fun i _ => bs.length - (intOf i).toNat)
  case atStart => exact ⟨0, [], _, Nat.zero_le _, rfl, rfl, HCP.out⟩
  case round =>
    obtain ⟨j, cs, uj, hj, rfl, hcs, hcp⟩ := hrel
    obtain ⟨W4, rfl⟩ : ∃ W4 : World, W4 = wr := ⟨_, rfl⟩
    by_cases hlt : j < bs.length
    · have he : bs[j]? = some bs[j] := List.getElem?_eq_getElem hlt
      have het : ts[j]? = some (ts[j]'(by rw [← HLEN.out]; exact hlt)) := List.getElem?_eq_getElem _
      have hmt := List.mem_of_getElem? het
      have htk : ts.take (j + 1) = ts.take j ++ [ts[j]'(by rw [← HLEN.out]; exact hlt)] := by rw [List.take_add_one, het]; rfl
      obtain ⟨Ly, hTy⟩ := trees_at HT.out he het
      have hm4 : Mod NoB w W4 := by obtain ⟨_, _, _, _, h4, _⟩ := hcp; exact h4
      obtain ⟨b1, o1, cp1, hv1, _, p0⟩ := at1n (HSL.out.mod hm4) he
      have hIHy := HIH.out _ hmt
      generalize ts[j]'(by rw [← HLEN.out]; exact hlt) = y at *
      generalize bs[j] = yb at *
      simp only [Value.slice.injEq] at hv1
      obtain ⟨rfl, _, rfl⟩ := hv1
      obtain ⟨d0, d1, dr⟩ : W4.cell? ⟨w2.heap.size, 0, none⟩ = some (.slice va vm vcap) ∧ W4.cell? ⟨w2.heap.size, 1, none⟩ = some uj ∧ W4.frozen? ⟨w2.heap.size, 1, none⟩ = false := by
        obtain ⟨_, h1, _⟩ := hcp
        exact ⟨cell_of h1.1 0 rfl, cell_of h1.1 1 rfl, frozen_of h1.1 1⟩
      have HCJ := Lib.hid hcp; have HTK := Lib.hid htk; have HTY := Lib.hid (hTy.mod hm4 (fun _ _ x => x)); have HIY := Lib.hid hIHy
      obtain ⟨hb4, hrow, hcn⟩ : W4.heap[w2.heap.size]? = some (.cells #[.slice va vm vcap, uj] 190 (0, 0)) ∧ RowNd W4 uj cs.length (cs.flatMap encNd) ∧ w2.heap.size ∉ ownL uj := by
        obtain ⟨_, h1, _, h3, _⟩ := hcp
        refine ⟨h1.1, h1.2.2, fun e => ?_⟩
        simp only [nodeL, List.cons_append, List.nodup_cons, List.mem_append, not_or] at h3
        exact h3.1.1.2 e
      have HB4 := Lib.hid hb4; have HROW := Lib.hid hrow; have HCN := Lib.hid hcn
      clear hcp htk hTy hIHy he het hmt hm4 hb4 hrow hcn
      go_upto_region 7 with (fail)
      go_region_law ((first | (have hM7 := M7.out; go_loud (refine step_appended (by rfl) (.tmp 28) (.tmp 31) 188 (by rfl) 185 i0 z0 1 tySNd HI.out HZ0.out HZ1.out HZ2.out hzi3 (by decide) uj cs.length (cs.flatMap encNd) (by simp [Act.eval, Act.put]) (own_mod' HROW.out (M7.out.trans (by repeat (first | exact Mod.refl _ _ | refine Mod.alloc ?_ _ | refine Mod.drew ?_))) (fun _ _ x => x)) (.slice (some ⟨w7.heap.size, 0, none⟩) 1 1) 1 (encNd c7) (by simp [Act.eval, Act.put]) (.inr ⟨_, _, rfl, fun q x hq => World.news_of_block (heap_alloc_new _ _) q x hq⟩) rfl (fun _ hu => oneNd hu) (by omega) ?_); intro u9 w9 hA; obtain ⟨g9, cap9, rfl⟩ := (ownsRow_form hA.own).resolve_left (fun h => absurd h.2 (by omega)); have hk9 := heap_keep2 HB4.out hA.mod (M7.out.trans (by repeat (first | exact Mod.refl _ _ | refine Mod.alloc ?_ _ | refine Mod.drew ?_))) HCN.out; have e9 : w9.cell? ⟨w2.heap.size, 1, none⟩ = some uj := cell_of hk9 1 rfl; have ef9 := frozen_of hk9 1; have HA9 := Lib.hid hA; clear hA hk9) | (go_simp; go_at_call 220; refine (HIY.out _ yb Ly (HTY.out.mod (S := NoB) (by repeat (first | exact Mod.refl _ _ | refine Mod.alloc ?_ _ | refine Mod.drew ?_)) (fun _ _ x => x))).mono ?_; rintro e w7 ⟨c7, L7, rfl, t1, t2, t3, t4⟩; have M7 := Lib.hid (Mod.trans (S := NoB) (a := W4) (by repeat (first | exact Mod.refl _ _ | refine Mod.alloc ?_ _ | refine Mod.drew ?_)) t3); have d1' := M7.out.cellS d1; have d1a := fun o => ((Mod.refl NoB w7).alloc o).cellS d1'; have T1 := Lib.hid t1; have T2 := Lib.hid t2; have T4 := Lib.hid t4; clear t1 t2 t3 t4)))
      all_goals
        go_wp2_with fail
        refine ⟨⟨j + 1, cs ++ [c7], .slice (some ⟨g9, 0, none⟩) (j + 1) cap9, by omega, by go_num, by simp [hcs], ?_⟩, by simp [intOf]; omega⟩
        rw [HTK.out]
        have hfin := (cp_step HCJ.out M7.out T1.out T2.out (fun k hk => Nat.le_trans (Mod.size (S := NoB) (by repeat (first | exact Mod.refl _ _ | refine Mod.alloc ?_ _ | refine Mod.drew ?_))) (T4.out k hk)) (by repeat (first | exact Mod.refl _ _ | refine Mod.alloc ?_ _ | refine Mod.drew ?_)) HA9.out)
        rw [hcs] at hfin
        exact hfin
    · obtain rfl : j = bs.length := by omega
      rw [HLEN.out, List.take_length] at hcp
      go_wp2_with fail
      go_ret
      obtain ⟨Ls2, h1, h2, h3, h4, h5⟩ := hcp
      exact ⟨w2.heap.size, _, rfl, treeP_of h1 h2, h3, h4, h5⟩

/-- of every depth -/
def CopyOK (d : Nat) : Prop := ∀ (t : Tree), okT d t → ∀ (w : World) (b : Nat) (L : List Nat), TreeP w b t L → Calls Tryz.prog 220 #[.pointer (some ⟨b, 0, none⟩)] w (CopyE w t)

theorem copied_ok : ∀ d, CopyOK d
  | 0 => fun t ho w b L ht => by
    obtain ⟨xs, ts⟩ := t
    unfold okT at ho
    obtain ⟨rfl, hw⟩ := ho
    obtain ⟨v, u, bs, Ls, h1, h2, _⟩ := ht.open
    have hl := h2.len
    exact copied_walk h1 h2 hw (by simp at hl; rw [hl]; simp) (fun t h => absurd h List.not_mem_nil)
  | d + 1 => fun t ho w b L ht => by
    obtain ⟨xs, ts⟩ := t
    unfold okT at ho
    obtain ⟨h0, hw, hk⟩ := ho
    obtain ⟨v, u, bs, Ls, h1, h2, _⟩ := ht.open
    have hl := h2.len
    exact copied_walk h1 h2 hw (by omega) (fun t h => copied_ok d t (hk t h).1)
end Go.Proofs.YtpcmbnbdppembaaGreatDoor

/- (*shelf.Shelf).Copy, of every shelf. -/
namespace Go.Proofs.YtpcmbnbdppembaaGreatDoor
set_option linter.unusedSimpArgs false
set_option linter.unusedVariables false
open Go.RowKit Go.Shelf
attribute [local go_sem ↓] Go.wp_at_zero Go.wp_at_succ

theorem copied_nil (w : World) : Calls Tryz.prog 220 #[.pointer none] w fun e w' => e = .returned (.pointer none) ∧ w' = w := by
  go_enter Tryz.func220, Tryz.ntmps220
  go_wp2_with fail
  go_ret
  exact ⟨rfl, rfl⟩

set_option maxRecDepth 100000 in
set_option maxHeartbeats 8000000 in
theorem scopy_walk {w : World} {s n : Nat} {most : Int} {p : Option Addr} (hs : w.heap[s]? = some (.cells #[.int .i64 most, .int .i64 n, .pointer p] 192 (0, 0))) {Post : World → Option Addr → World → Prop}
    (hc : ∀ W, Mod NoB w W → Calls Tryz.prog 220 #[.pointer p] W (fun e w' => ∃ q, e = .returned (.pointer q) ∧ Mod NoB W w' ∧ Post W q w')) :
    Calls Tryz.prog 200 #[.pointer (some ⟨s, 0, none⟩)] w fun e w' => ∃ q s2 W w7, e = .returned (.pointer (some ⟨s2, 0, none⟩)) ∧ w'.heap[s2]? = some (.cells #[.int .i64 most, .int .i64 n, .pointer q] 192 (0, 0)) ∧
      Mod NoB w W ∧ Post W q w7 ∧ Mod NoB W w7 ∧ Mod NoB w7 w' ∧ w7.heap.size ≤ s2 := by
  have c0 : w.cell? ⟨s, 0, none⟩ = some (.int .i64 most) := cell_of hs 0 rfl
  have c1 : w.cell? ⟨s, 1, none⟩ = some (.int .i64 n) := cell_of hs 1 rfl
  have c2 : w.cell? ⟨s, 2, none⟩ = some (.pointer p) := cell_of hs 2 rfl
  have HC := Lib.hid hc
  clear hs hc
  go_enter Tryz.func200, Tryz.ntmps200
  go_upto_region 3 with (fail)
  go_region_law ((go_simp; go_at_call 220; refine (HC.out _ (by repeat (first | exact Mod.refl _ _ | refine Mod.alloc ?_ _ | refine Mod.drew ?_))).mono ?_; rintro e w7 ⟨q, rfl, hm7, hp⟩; have M7 := Lib.hid (Mod.trans (S := NoB) (a := w) (by repeat (first | exact Mod.refl _ _ | refine Mod.alloc ?_ _ | refine Mod.drew ?_)) hm7); have d0 := M7.out.cellS c0; have d1 := M7.out.cellS c1; have HM7 := Lib.hid hm7; have HP := Lib.hid hp; clear hm7 hp))
  all_goals
    go_wp2_with fail
    go_ret
    refine ⟨q, _, _, w7, rfl, ?_, ?_, HP.out, HM7.out, (by repeat (first | exact Mod.refl _ _ | refine Mod.alloc ?_ _ | refine Mod.drew ?_)), Nat.le_refl _⟩
    · exact heap_alloc_new w7 _
    · repeat (first | exact Mod.refl _ _ | refine Mod.alloc ?_ _ | refine Mod.drew ?_)

theorem scopy_any {w : World} {s : Nat} {most : Int} {tr : Option Tree} {n : Nat} {L : List Nat} {xs : List Itm} (h : ShelfAt w s most tr n L) (ho : ShOK tr xs n) :
    Calls Tryz.prog 200 #[.pointer (some ⟨s, 0, none⟩)] w fun e w' => ∃ s2 L2, e = .returned (.pointer (some ⟨s2, 0, none⟩)) ∧ ShelfAt w' s2 most tr n L2 ∧ L2.Nodup ∧ Mod NoB w w' ∧ ∀ k ∈ L2, w.heap.size ≤ k := by
  cases tr with
  | none =>
    unfold ShelfAt at h
    obtain ⟨h1, rfl⟩ := h
    refine (scopy_walk (Post := fun _ q _ => q = none) h1 (fun W hm => (copied_nil W).mono ?_)).mono ?_
    · rintro e w' ⟨rfl, rfl⟩
      exact ⟨none, rfl, Mod.refl _ _, rfl⟩
    · rintro e w' ⟨q, s2, W, w7, rfl, k1, k2, rfl, k3, k4, k5⟩
      refine ⟨s2, [s2], rfl, ?_, by simp, (k2.trans k3).trans k4, fun k hk => ?_⟩
      · unfold ShelfAt; exact ⟨k1, rfl⟩
      · simp only [List.mem_cons, List.not_mem_nil, or_false] at hk
        have := (k2.trans k3).size
        omega
  | some t =>
    obtain ⟨o1, o2, o3, d, q1, q2, q3⟩ := ho
    unfold ShelfAt at h
    obtain ⟨b, Lt, h1, h2, rfl⟩ := h
    refine (scopy_walk (Post := fun W q w7 => ∃ c L', q = some ⟨c, 0, none⟩ ∧ TreeP w7 c t L' ∧ L'.Nodup ∧ ∀ k ∈ L', W.heap.size ≤ k) h1 (fun W hm => (copied_ok d t q1 W b Lt ((treeP_at h2).mod hm (fun _ _ x => x))).mono ?_)).mono ?_
    · rintro e w' ⟨c, L', rfl, p1, p2, p3, p4⟩
      exact ⟨_, rfl, p3, c, L', rfl, p1, p2, p4⟩
    · rintro e w' ⟨q, s2, W, w7, rfl, k1, k2, ⟨c, L', rfl, p1, p2, p4⟩, k3, k4, k5⟩
      have hs2 : s2 ∉ L' := fun e => by have := p1.lts s2 e; omega
      obtain ⟨L'', z1, z2, z3⟩ := shelf_of k1 (p1.mod k4 (fun _ _ x => x)) p2 hs2
      refine ⟨s2, s2 :: L'', rfl, z1, z2, (k2.trans k3).trans k4, fun k hk => ?_⟩
      have e1 := (k2.trans k3).size
      have e2 := k2.size
      rcases List.mem_cons.1 hk with rfl | hk
      · omega
      · have := p4 k (z3.mem_iff.1 hk); omega
end Go.Proofs.YtpcmbnbdppembaaGreatDoor

/- cut.In of items that all fit. -/
namespace Go.Proofs.YtpcmbnbdppembaaGreatDoor
set_option linter.unusedSimpArgs false
set_option linter.unusedVariables false
open Go.RowKit Go.Shelf
attribute [local go_sem ↓] Go.wp_at_zero Go.wp_at_succ

def putAll (most : Int) (xs its : List Itm) : List Itm := its.foldl (fun ys it => putIts most it.1 it.2 ys) xs
theorem putAll_snoc {most : Int} {xs its : List Itm} {j : Nat} {it : Itm} (h : its[j]? = some it) : putAll most xs (its.take (j + 1)) = putIts most it.1 it.2 (putAll most xs (its.take j)) := by
  unfold putAll
  rw [List.take_add_one, h, List.foldl_append]
  rfl

theorem sl_beside {S : Nat → Prop} {w w' : World} {v : Value} {xs : List Itm} (h : SlAt 2 encIt w v xs) (hm : Mod S w w') (hb : ∀ g ∈ ownL v, ¬ S g) : SlAt 2 encIt w' v xs := by
  obtain ⟨a, cap, rfl, hx⟩ := h
  refine ⟨a, cap, rfl, fun i x hi => ?_⟩
  obtain ⟨b, o, rfl, hj⟩ := hx i x hi
  refine ⟨b, o, rfl, fun j u hu => ?_⟩
  have h1 := hj j u hu
  rw [hm.cell (cell_lt' h1) (hb b (by simp [ownL, Value.ownBlock]))]
  exact h1

set_option maxRecDepth 100000 in
set_option maxHeartbeats 8000000 in
theorem cutin_ok {w : World} {s n : Nat} {most : Int} {tr : Option Tree} {L : List Nat} {xs : List Itm} {v : Value} {its : List Itm} (hs : ShelfAt w s most tr n L) (hn : L.Nodup) (ho : ShOK tr xs n) (hl : SlAt 2 encIt w v its) (hv : ∀ g ∈ ownL v, g ∉ L)
    (hlen : its.length ≤ 1000000) (hmost : most ≤ 1000000) (hsz : ∀ it ∈ its, it.1.size ≤ 1000000 ∧ it.2.size ≤ 1000000) (hfit : ∀ (j : Nat) (it : Itm), its[j]? = some it → putErr most it.1 it.2 (putAll most xs (its.take j)) = 0) :
    Calls Tryz.prog 161 #[.pointer (some ⟨s, 0, none⟩), v] w (SPutE w s most L 0 (putAll most xs its)) := by
  obtain ⟨av, cap, rfl, _⟩ := id hl
  have HS := Lib.hid hs; have HN := Lib.hid hn; have HO := Lib.hid ho; have HL := Lib.hid hl; have HV := Lib.hid hv; have HSZ := Lib.hid hsz; have HF := Lib.hid hfit
  clear hs hn ho hl hv hsz hfit
  go_enter Tryz.func161, Tryz.ntmps161
  go_wp2_with fail
  refine (scopy_any HS.out HO.out).mono ?_
  rintro e w2 ⟨s2, L2, rfl, h1, h2, h3, h4⟩
  have H1 := Lib.hid h1; have H2 := Lib.hid h2; have H3 := Lib.hid h3; have H4 := Lib.hid h4
  clear h1 h2 h3 h4
  go_wp2_with fail
  go_loopw [17] (fun i wr => ∃ (j : Nat) (tr2 : Option Tree) (n2 : Nat) (Lj : List Nat), j ≤ its.length ∧ i = .int .i64 j ∧ ShelfAt wr s2 most tr2 n2 Lj ∧ Lj.Nodup ∧ ShOK tr2 (putAll most xs (its.take j)) n2 ∧ Mod NoB w wr ∧ ∀ k ∈ Lj, w.heap.size ≤ k) (fun i _ => its.length - (intOf i).toNat)
  case atStart => exact ⟨0, tr, n, L2, Nat.zero_le _, rfl, H1.out, H2.out, HO.out, H3.out, H4.out⟩
  case round =>
    obtain ⟨j, tr2, n2, Lj, hj, rfl, k1, k2, k3, k4, k5⟩ := hrel
    by_cases hlt : j < its.length
    · have he : its[j]? = some its[j] := List.getElem?_eq_getElem hlt
      obtain ⟨b1, o1, c1, hv1, _, p0, p1⟩ := at2 (HL.out.mod k4) he
      obtain ⟨z1, z2⟩ := HSZ.out its[j] (List.getElem_mem hlt)
      have hf := HF.out j _ he
      have hps := putAll_snoc (most := most) (xs := xs) he
      generalize its[j] = it at *
      simp only [Value.slice.injEq] at hv1
      obtain ⟨rfl, _, rfl⟩ := hv1
      have K1 := Lib.hid k1; have K2 := Lib.hid k2; have K3 := Lib.hid k3; have K4 := Lib.hid k4; have K5 := Lib.hid k5; have FF := Lib.hid hf; have PS := Lib.hid hps
      clear k1 k2 k3 k4 k5 hf hps he
      go_wp2_with fail
      refine (sput_any (K1.out.mod ((Mod.refl NoB _).alloc (.cells #[.string it.1, .string it.2] 73)) (fun _ _ x => x)) K2.out K3.out it.1 it.2 z1 z2 hmost).mono ?_
      rintro e w5 ⟨rfl, tr5, n5, L5, m1, m2, m3, m4⟩
      rw [FF.out]
      have M1 := Lib.hid m1; have M2 := Lib.hid m2; have M3 := Lib.hid m3; have M4 := Lib.hid m4
      clear m1 m2 m3 m4
      go_wp2_with fail
      refine ⟨⟨j + 1, tr5, n5, L5, by omega, by go_num, M1.out, M2.out, by rw [PS.out]; exact M4.out, (K4.out.alloc _).then M3.out.1 (fun k hk e => absurd (K5.out k e) (by omega)), fun k hk => ?_⟩, by simp [intOf]; omega⟩
      rcases M3.out.2 k hk with h | h
      · exact K5.out k h
      · have := K4.out.size; simp at h; omega
    · obtain rfl : j = its.length := by omega
      have K4 := Lib.hid k4
      clear k1 k2 k3 k4 k5
      go_wp2_with fail
      go_loopw [33] (fun i wr => ∃ (j : Nat) (tr2 : Option Tree) (n2 : Nat) (Lj : List Nat), j ≤ its.length ∧ i = .int .i64 j ∧ ShelfAt wr s most tr2 n2 Lj ∧ Lj.Nodup ∧ ShOK tr2 (putAll most xs (its.take j)) n2 ∧ Turn L w wr Lj) (fun i _ => its.length - (intOf i).toNat)
      case atStart => exact ⟨0, tr, n, L, Nat.zero_le _, rfl, HS.out.mod K4.out (fun _ _ x => x), HN.out, HO.out, Turn.of_no K4.out⟩
      case round =>
        obtain ⟨j, tr2, n2, Lj, hj, rfl, k1, k2, k3, k4⟩ := hrel
        by_cases hlt : j < its.length
        · have he : its[j]? = some its[j] := List.getElem?_eq_getElem hlt
          obtain ⟨b1, o1, c1, hv1, _, p0, p1⟩ := at2 (sl_beside HL.out k4.1 HV.out) he
          obtain ⟨z1, z2⟩ := HSZ.out its[j] (List.getElem_mem hlt)
          have hps := putAll_snoc (most := most) (xs := xs) he
          generalize its[j] = it at *
          simp only [Value.slice.injEq] at hv1
          obtain ⟨rfl, _, rfl⟩ := hv1
          have K1 := Lib.hid k1; have K2 := Lib.hid k2; have K3 := Lib.hid k3; have KT := Lib.hid k4; have PS := Lib.hid hps
          clear k1 k2 k3 k4 hps he
          go_wp2_with fail
          refine (sput_any (K1.out.mod ((Mod.refl NoB _).alloc (.cells #[.string it.1, .string it.2] 73)) (fun _ _ x => x)) K2.out K3.out it.1 it.2 z1 z2 hmost).mono ?_
          rintro e w5 ⟨rfl, tr5, n5, L5, m1, m2, m3, m4⟩
          have M1 := Lib.hid m1; have M2 := Lib.hid m2; have M3 := Lib.hid m3; have M4 := Lib.hid m4
          clear m1 m2 m3 m4
          go_wp2_with fail
          exact ⟨⟨j + 1, tr5, n5, L5, by omega, by go_num, M1.out, M2.out, by rw [PS.out]; exact M4.out, (KT.out.trans (Turn.of_no ((Mod.refl NoB _).alloc _))).trans M3.out⟩, by simp [intOf]; omega⟩
        · obtain rfl : j = its.length := by omega
          rw [List.take_length] at k3
          go_wp2_with fail
          go_ret
          exact ⟨rfl, tr2, n2, Lj, k1, k2, k4, k3⟩
end Go.Proofs.YtpcmbnbdppembaaGreatDoor

/- (*hold.Hold).Keep, Release. -/
namespace Go.Proofs.YtpcmbnbdppembaaGreatDoor
set_option linter.unusedSimpArgs false
set_option linter.unusedVariables false
open Go.RowKit Go.Shelf
attribute [local go_sem ↓] Go.wp_at_zero Go.wp_at_succ

/-- a hold whose room that is kept is another one now -/
theorem hold_kept {w W : World} {h : Nat} {st : HSt} {xs : List Itm} {B : List Nat} (hh : HoldI w h st xs B) (hm : Mod NoB w W) (kp : Int) : HoldI (W.setCell ⟨h, 2, none⟩ (.int .i64 kp)) h { st with kept := kp } xs B ∧ Turn B w (W.setCell ⟨h, 2, none⟩ (.int .i64 kp)) B := by
  obtain ⟨tr, n, hh, ho⟩ := hh.mod hm (fun _ _ x => x)
  obtain ⟨vo, vp, s, L, h1, h2, h3, h4, rfl, h5⟩ := hh
  have hb : Mod (· = h) W (W.setCell ⟨h, 2, none⟩ (.int .i64 kp)) := Mod.setCell (S := (· = h)) (Mod.refl _ _) (by intro _; rfl) _
  have hn := h5
  simp only [List.nodup_cons, List.mem_append, not_or] at hn
  refine ⟨⟨tr, n, ⟨vo, vp, s, L, ?_, own_mod' h2 hb (fun k hk e => hn.1.1.1 (e ▸ hk)), own_mod' h3 hb (fun k hk e => hn.1.1.2 (e ▸ hk)), h4.mod hb (fun k hk e => hn.1.2 (e ▸ hk)), rfl, h5⟩, ho⟩, ((hm.mono (fun _ _ x => x.elim)).then hb (fun k _ e => by simp [e])), fun k hk => .inl hk⟩
  have := heap_set h1 2 (.int .i64 kp)
  simpa using this

set_option maxRecDepth 100000 in
set_option maxHeartbeats 8000000 in
theorem release_any {w : World} {h : Nat} {st : HSt} {xs : List Itm} {B : List Nat} (hh : HoldI w h st xs B) (n : Int) (h0 : 0 ≤ n) (hn : n ≤ 1000000) (hk : 0 ≤ st.kept ∧ st.kept ≤ 1000000) :
    Calls Tryz.prog 78 #[.pointer (some ⟨h, 0, none⟩), .int .i64 n] w fun e w' => (∃ v, e = .returned v) ∧ HoldI w' h { st with kept := max (st.kept - n) 0 } xs B ∧ Turn B w w' B := by
  have HH := Lib.hid hh
  obtain ⟨tr, m, ⟨vo, vp, s, L, q1, q2⟩, _⟩ := hh
  have c2 : w.cell? ⟨h, 2, none⟩ = some (.int .i64 st.kept) := cell_of q1 2 rfl
  have f2 := frozen_of q1 2
  clear q1 q2
  obtain ⟨k0, k1⟩ := hk
  by_cases hp : 0 < n
  · go_enter Tryz.func78, Tryz.ntmps78
    go_wp2_with fail
    have := hold_kept HH.out (Mod.refl NoB w) (max (st.kept - n) 0)
    refine bodyPost_end (results_none rfl _ _ _) rfl ⟨⟨_, rfl⟩, ?_⟩
    exact this
  · have hz : n = 0 := by omega
    subst hz
    go_enter Tryz.func78, Tryz.ntmps78
    go_wp2_with fail
    refine bodyPost_end (results_none rfl _ _ _) rfl ⟨⟨_, rfl⟩, ?_⟩
    have e : max st.kept 0 = st.kept := by omega
    have hh2 : HoldI w h { st with kept := max st.kept 0 } xs B := by rw [e]; exact HH.out
    exact ⟨hh2, Turn.refl _ _⟩

set_option maxRecDepth 100000 in
set_option maxHeartbeats 8000000 in
theorem keep_any {w : World} {h : Nat} {st : HSt} {xs : List Itm} {B : List Nat} (hh : HoldI w h st xs B) (n : Int) (hn : -1000000 ≤ n ∧ n ≤ 1000000) (hk : 0 ≤ st.kept ∧ st.kept ≤ 1000000) (hm : 0 ≤ st.most ∧ st.most ≤ 1000000) (hx : xs.length ≤ 1000000) :
    Calls Tryz.prog 28 #[.pointer (some ⟨h, 0, none⟩), .int .i64 n] w fun e w' => e = .returned (.bool (decide (0 ≤ n ∧ n ≤ st.most - xs.length - st.kept))) ∧
      HoldI w' h { st with kept := if 0 ≤ n ∧ n ≤ st.most - xs.length - st.kept then st.kept + n else st.kept } xs B ∧ Turn B w w' B := by
  have HH := Lib.hid hh
  obtain ⟨tr, m, hh0, ho⟩ := hh
  have hmx : m = xs.length := ho.1
  subst hmx
  obtain ⟨s, L, c4, hs, _⟩ := hh0.shelf
  obtain ⟨vo, vp, s', L', q1, q2⟩ := hh0
  have c1 : w.cell? ⟨h, 1, none⟩ = some (.int .i64 st.most) := cell_of q1 1 rfl
  have c2 : w.cell? ⟨h, 2, none⟩ = some (.int .i64 st.kept) := cell_of q1 2 rfl
  have f2 := frozen_of q1 2
  have HS := Lib.hid hs
  clear q1 q2 ho hs
  obtain ⟨k0, k1⟩ := hk; obtain ⟨m0, m1⟩ := hm; obtain ⟨n0, n1⟩ := hn
  have W1 : Hid (IntKind.i64.wrap (st.most - xs.length) = st.most - xs.length) := Lib.hid (IntWalk.i64_in _ ⟨by omega, by omega⟩)
  have W2 : Hid (IntKind.i64.wrap (st.most - xs.length - st.kept) = st.most - xs.length - st.kept) := Lib.hid (IntWalk.i64_in _ ⟨by omega, by omega⟩)
  by_cases hneg : n < 0
  · have e1 : ¬ (0 ≤ n ∧ n ≤ st.most - xs.length - st.kept) := by omega
    rw [if_neg e1, decide_eq_false e1]
    go_enter Tryz.func28, Tryz.ntmps28
    go_wp2_with fail
    go_quiet (fail)
    go_wp2_with fail
    go_ret
    exact ⟨rfl, HH.out.mod ((Mod.refl NoB w).drewN nq) (fun _ _ x => x), Turn.of_no ((Mod.refl NoB w).drewN nq)⟩
  · by_cases hfit : n ≤ st.most - xs.length - st.kept
    · have e1 : (0 ≤ n ∧ n ≤ st.most - xs.length - st.kept) := by omega
      have e2 : ¬ st.most - xs.length - st.kept < n := by omega
      rw [if_pos e1, decide_eq_true e1]
      go_enter Tryz.func28, Tryz.ntmps28
      go_wp2_with fail
      go_quiet ((go_at_call 75; refine Calls.quiet_of_same ((slen_any (HS.out.mod (S := NoB) ((Mod.refl _ _).drewN _) (fun _ _ x => x))).mono (by rintro e w5 ⟨rfl, rfl⟩; exact ⟨rfl, rfl⟩))))
      have d2 : (w.drewN nq).cell? ⟨h, 2, none⟩ = some (.int .i64 st.kept) := c2
      have df2 : (w.drewN nq).frozen? ⟨h, 2, none⟩ = false := f2
      go_wp2_with fail
      all_goals first
        | (exfalso; rename_i hh; rw [W1.out, W2.out] at hh; omega)
        | (go_ret; exact ⟨rfl, hold_kept HH.out ((Mod.refl NoB w).drewN nq) (st.kept + n)⟩)
    · have e1 : ¬ (0 ≤ n ∧ n ≤ st.most - xs.length - st.kept) := by omega
      have e2 : st.most - xs.length - st.kept < n := by omega
      rw [if_neg e1, decide_eq_false e1]
      go_enter Tryz.func28, Tryz.ntmps28
      go_wp2_with fail
      go_quiet ((go_at_call 75; refine Calls.quiet_of_same ((slen_any (HS.out.mod (S := NoB) ((Mod.refl _ _).drewN _) (fun _ _ x => x))).mono (by rintro e w5 ⟨rfl, rfl⟩; exact ⟨rfl, rfl⟩))))
      go_wp2_with fail
      all_goals first
        | (exfalso; rename_i hh; rw [W1.out, W2.out] at hh; omega)
        | (go_ret; exact ⟨rfl, HH.out.mod ((Mod.refl NoB w).drewN nq) (fun _ _ x => x), Turn.of_no ((Mod.refl NoB w).drewN nq)⟩)
end Go.Proofs.YtpcmbnbdppembaaGreatDoor

/- (*hold.Hold).Win of an arc that may be owned, with items that lie in it and fit. -/
namespace Go.Proofs.YtpcmbnbdppembaaGreatDoor
set_option linter.unusedSimpArgs false
set_option linter.unusedVariables false
open Go.RowKit Go.Shelf
attribute [local go_sem ↓] Go.wp_at_zero Go.wp_at_succ

theorem idxIt_empty (a : Option Addr) (cap : Nat) (f : Value) (w : World) :
    Calls Tryz.prog 199 #[.slice a 0 cap, f] w fun e w' => e = .returned (.int .i64 (-1)) ∧ w' = w := by
  go_enter Tryz.func199, Tryz.ntmps199
  go_wp2
  go_loop [8] (fun i => i = .int .i64 0) (fun _ => 0)
  case atStart => rfl
  case round =>
    subst hrel
    go_wp2
    go_ret
    exact ⟨rfl, rfl⟩

theorem cfIt_empty (a : Option Addr) (cap : Nat) (f : Value) (w : World) :
    Calls Tryz.prog 159 #[.slice a 0 cap, f] w fun e w' => e = .returned (.bool false) ∧ w' = w := by
  go_enter Tryz.func159, Tryz.ntmps159
  go_wp2_with (go_at_call 199; refine (idxIt_empty _ _ _ _).mono ?_; rintro e w' ⟨rfl, rfl⟩)
  go_ret
  exact ⟨rfl, rfl⟩

set_option maxRecDepth 100000 in
set_option maxHeartbeats 4000000 in
theorem predWin (a : Arc) (B : Nat) (w : World) (hB : B < w.heap.size) (h0 : w.cell? ⟨B, 0, none⟩ = some (.int .u64 a.f)) (h1 : w.cell? ⟨B, 1, none⟩ = some (.int .u64 a.t)) :
    PredBelow Tryz.prog 160 #[.pointer (some ⟨B, 0, none⟩)] (fun o => .agg (encIt o).toArray) (fun o => !inA a (addr o.1)) w := fun W o hb => by
  have c0 : W.cell? ⟨B, 0, none⟩ = some (.int .u64 a.f) := (hb.cell (p := ⟨B, 0, none⟩) hB).trans h0
  have c1 : W.cell? ⟨B, 1, none⟩ = some (.int .u64 a.t) := (hb.cell (p := ⟨B, 1, none⟩) hB).trans h1
  have hBW : B < W.heap.size := Nat.lt_of_lt_of_le hB hb.size
  have hne : B ≠ W.heap.size := by omega
  show Calls Tryz.prog 160 #[.agg #[.string o.1, .string o.2], .pointer (some ⟨B, 0, none⟩)] W _
  have HBL := Lib.hid hb
  have c0a : ∀ x, (W.alloc x).cell? ⟨B, 0, none⟩ = some (.int .u64 a.f) := fun x => ((Mod.refl NoB W).alloc x).cellS c0
  have c1a : ∀ x, (W.alloc x).cell? ⟨B, 1, none⟩ = some (.int .u64 a.t) := fun x => ((Mod.refl NoB W).alloc x).cellS c1
  clear hb h0 h1
  go_enter Tryz.func160, Tryz.ntmps160
  go_upto_region 1 with (fail)
  go_region_law ((go_simp; (first | (go_at_call 53; refine (addr_any o.1 _).mono ?_; rintro e w9 ⟨rfl, rfl⟩) | (go_at_call 139; refine (in_any a (addr o.1) _).mono ?_; rintro e w9 ⟨rfl, hm9⟩; have M9 := Lib.hid (Mod.trans (S := NoB) (a := W) (by repeat (first | exact Mod.refl _ _ | refine Mod.alloc ?_ _ | refine Mod.drew ?_)) hm9); clear hm9))))
  all_goals
    go_wp2_with fail
    go_ret
    have hmm : Mod NoB W _ := M9.out.trans (by repeat (first | exact Mod.refl _ _ | refine Mod.alloc ?_ _ | refine Mod.drew ?_))
    exact ⟨by first | rfl | simp, HBL.out.trans (hmm.toBelow HBL.out.size)⟩

instance : Inhabited Itm := ⟨(⟨#[]⟩, ⟨#[]⟩)⟩

theorem cfWin {a : Arc} {W : World} {v : Value} {its : List Itm} {B : Nat} (hr : RowIt W v its.length (its.flatMap encIt)) (hB : B < W.heap.size) (h0 : W.cell? ⟨B, 0, none⟩ = some (.int .u64 a.f)) (h1 : W.cell? ⟨B, 1, none⟩ = some (.int .u64 a.t)) (hin : ∀ it ∈ its, inA a (addr it.1) = true) :
    Calls Tryz.prog 159 #[v, .func (.func 160) #[] #[.pointer (some ⟨B, 0, none⟩)]] W fun e w' => e = .returned (.bool false) ∧ Mod NoB W w' := by
  have eg : ∀ args w, (callFunc 160 args).run Tryz.prog w = .ok (.enter 160 args) w := enters_of Tryz.func160 (by kernel_rfl) rfl
  rcases own_row (k := 2) (enc := encIt) (fun _ => rfl) hr with ⟨rfl, hl⟩ | ⟨g, cap, rfl, hg, hcap, hcm, hrow⟩
  · refine (cfIt_empty _ _ _ _).mono ?_
    rintro e w' ⟨rfl, rfl⟩
    exact ⟨rfl, Mod.refl _ _⟩
  · have hcon := AnyQ.slices_ContainsFunc Tryz.cfIt 2 Tryz.isAgg73 Tryz.sizeOf73 encIt (fun _ => rfl) (fun o => !inA a (addr o.1)) 160 #[.pointer (some ⟨B, 0, none⟩)] eg g 0 its.length cap its W
      (predWin a B W hB h0 h1) (Nat.le_refl _) (Nat.le_trans hcap (by unfold maxLen at hcm; omega)) hg hrow
    have hval : ((its.take its.length).any fun o => !inA a (addr o.1)) = false := by
      rw [List.take_length, List.any_eq_false]
      intro x hx
      rw [hin x hx]; simp
    rw [hval] at hcon
    exact hcon.mono (fun e w' h => ⟨h.1, Mod.ofBelow h.2⟩)

set_option maxRecDepth 100000 in
set_option maxHeartbeats 8000000 in
theorem win_ok {w : World} {h : Nat} {st : HSt} {xs : List Itm} {B : List Nat} (hh : HoldI w h st xs B) {a : Arc} {ep : Int} {v : Value} {its : List Itm} (hr : Beside w v its B) (hmay : st.may a ep = true) (hin : ∀ it ∈ its, inA a (addr it.1) = true)
    (hlen : its.length ≤ 1000000) (hmost : st.most ≤ 1000000) (hk : 0 ≤ st.kept ∧ st.kept ≤ 1000000) (ho : st.own.length ≤ 1000000) (hsz : ∀ it ∈ its, it.1.size ≤ 1000000 ∧ it.2.size ≤ 1000000)
    (hfit : ∀ (j : Nat) (it : Itm), its[j]? = some it → putErr st.most it.1 it.2 (putAll st.most xs (its.take j)) = 0) :
    Calls Tryz.prog 77 #[.pointer (some ⟨h, 0, none⟩), .agg #[.int .u64 a.f, .int .u64 a.t], .int .i64 ep, v] w fun e w' => e = .returned (.int .i64 0) ∧
      ∃ B', HoldI w' h { ownSt st a ep with kept := max (st.kept - its.length) 0 } (putAll st.most xs its) B' ∧ Turn B w w' B' := by
  have HR := Lib.hid hr; have HIN := Lib.hid hin; have HSZ := Lib.hid hsz; have HF := Lib.hid hfit
  have HH := Lib.hid hh
  obtain ⟨tr, n, hh0, hsh⟩ := hh
  have HH0 := Lib.hid hh0; have HSH := Lib.hid hsh
  obtain ⟨vo, vp, s, L, q1, q2, q3, q4, hB, q6⟩ := id hh0
  have c4 : w.cell? ⟨h, 4, none⟩ = some (.pointer (some ⟨s, 0, none⟩)) := cell_of q1 4 rfl
  have hvs : ∃ av cap, v = .slice av its.length cap := by
    obtain ⟨av, cap, e, _⟩ := hr.sl
    exact ⟨av, cap, e⟩
  obtain ⟨av, cap, rfl⟩ := hvs
  have hnd : L.Nodup := by
    rw [hB] at q6
    simp only [List.nodup_cons, List.nodup_append] at q6
    exact q6.2.2.1
  have hvL : ∀ g ∈ ownL (.slice av its.length cap), g ∉ L := fun g hg e => hr.2 g hg (by rw [hB]; simp [e])
  have Q1 := Lib.hid q1; have Q2 := Lib.hid q2; have Q3 := Lib.hid q3; have Q4 := Lib.hid q4; have Q6 := Lib.hid q6; have HND := Lib.hid hnd; have HVL := Lib.hid hvL
  subst hB
  clear q1 q2 q3 q4 q6 hnd hvL hr hin hsz hfit hh0 hsh
  have b0 : (w.alloc (.cells #[.int .u64 a.f, .int .u64 a.t] 25)).cell? ⟨w.heap.size, 0, none⟩ = some (.int .u64 a.f) := by simp
  have b1 : (w.alloc (.cells #[.int .u64 a.f, .int .u64 a.t] 25)).cell? ⟨w.heap.size, 1, none⟩ = some (.int .u64 a.t) := by simp
  have A0 := Lib.hid b0; have A1 := Lib.hid b1
  clear b0 b1
  go_enter Tryz.func77, Tryz.ntmps77
  go_wp2_with fail
  refine (may_any (HH0.out.mod ((Mod.refl NoB w).alloc _) (fun _ _ x => x)) a ep).mono ?_
  rintro e w2 ⟨rfl, hm2⟩
  rw [hmay]
  have b0 := hm2.cellS A0.out; have b1 := hm2.cellS A1.out
  have M2 := Lib.hid (((Mod.refl NoB w).alloc _).trans hm2)
  have hlt2 : w.heap.size < w2.heap.size := by have := hm2.size; simp at this; omega
  clear hm2
  go_wp2_with fail
  refine (cfWin (own_mod' HR.out.1 M2.out (fun _ _ x => x)) hlt2 b0 b1 HIN.out).mono ?_
  rintro e w3 ⟨rfl, hm3⟩
  have M3 := Lib.hid (M2.out.trans hm3)
  have c4' := M3.out.cellS c4
  have B0 := Lib.hid (hm3.cellS b0); have B1 := Lib.hid (hm3.cellS b1)
  clear hm3 b0 b1
  go_wp2_with fail
  refine (cutin_ok (Q4.out.mod M3.out (fun _ _ x => x)) HND.out HSH.out (HR.out.quiet M3.out).sl HVL.out hlen hmost HSZ.out HF.out).mono ?_
  rintro e w4 ⟨rfl, tr4, n4, L4, k1, k2, k3, k4⟩
  obtain ⟨B4, hh4, ht4⟩ := hold_shelf Q1.out Q2.out Q3.out Q4.out Q6.out M3.out k1 k2 k3
  have hbs : w.heap.size ∉ L := fun e => by have := Q4.out.lts _ e; omega
  have b0 : w4.cell? ⟨w.heap.size, 0, none⟩ = some (.int .u64 a.f) := (k3.1.cell (p := ⟨w.heap.size, 0, none⟩) (cell_lt' B0.out) hbs).trans B0.out
  have b1 : w4.cell? ⟨w.heap.size, 1, none⟩ = some (.int .u64 a.t) := (k3.1.cell (p := ⟨w.heap.size, 1, none⟩) (cell_lt' B1.out) hbs).trans B1.out
  have HH4 := Lib.hid hh4; have HT4 := Lib.hid ht4; have HS4 := Lib.hid k4
  clear hh4 ht4 k1 k2 k3 k4 hbs
  go_wp2_with fail
  refine (own_any HH4.out a ep ho).mono ?_
  rintro e w5 ⟨rfl, B5, hh5, ht5⟩
  rw [hmay] at hh5 ⊢
  rw [if_pos rfl] at hh5
  have HI5 : Hid (HoldI w5 h (ownSt st a ep) (putAll st.most xs its) B5) := Lib.hid ⟨tr4, n4, hh5, HS4.out⟩
  have HT5 := Lib.hid (HT4.out.trans ht5)
  clear hh5 ht5
  go_wp2_with fail
  refine (release_any HI5.out its.length (by omega) (by omega) hk).mono ?_
  rintro e w6 ⟨⟨rv, rfl⟩, hh6, ht6⟩
  have HI6 := Lib.hid hh6; have HT6 := Lib.hid (HT5.out.trans ht6)
  clear hh6 ht6
  go_wp2_with fail
  go_ret
  exact ⟨rfl, B5, HI6.out, HT6.out⟩
end Go.Proofs.YtpcmbnbdppembaaGreatDoor
