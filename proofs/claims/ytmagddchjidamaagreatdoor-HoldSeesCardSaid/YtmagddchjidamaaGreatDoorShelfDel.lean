/- (*shelf.Shelf).Del, of every shelf; cut.Out of every shelf; a hold's Lose of every shelf. -/
import Derived.Test.YtmagddchjidamaaGreatDoorDelOK
import Derived.Test.YtmagddchjidamaaGreatDoorHoldI
namespace Go.Proofs.YtmagddchjidamaaGreatDoor
set_option linter.unusedSimpArgs false
set_option linter.unusedVariables false
open Go.RowKit Go.Shelf
attribute [local go_sem ↓] Go.wp_at_zero Go.wp_at_succ

/-- what Del gives -/
def SDelE (w : World) (s : Nat) (most : Int) (L : List Nat) (k : ByteArray) (xs : List Itm) (e : Ending) (w' : World) : Prop :=
  e = .returned (.bool (getS k xs).isSome) ∧ ∃ tr' n' L', ShelfAt w' s most tr' n' L' ∧ L'.Nodup ∧ Turn L w w' L' ∧ ShOK tr' (delS k xs) n'

theorem delS_small {k : ByteArray} {xs : List Itm} (h : ∀ x ∈ xs, x.1.size ≤ 16) : ∀ x ∈ delS k xs, x.1.size ≤ 16 := fun x hx => h x ((List.mem_filter.1 hx).1)

/-- a tree whose top has no item -/
theorem top_empty {d : Nat} {t : Tree} (ho : okT d t) (h0 : t.xs = []) : (t.ts = [] ∧ t.its = []) ∨ ∃ t0 d', d = d' + 1 ∧ t.ts = [t0] ∧ t.its = t0.its ∧ okT d' t0 ∧ 3 ≤ t0.xs.length := by
  obtain ⟨xs, ts⟩ := t
  dsimp only [Tree.xs] at h0
  subst h0
  cases d with
  | zero =>
    unfold okT at ho
    obtain ⟨rfl, _⟩ := ho
    exact .inl ⟨rfl, its_leaf _⟩
  | succ d =>
    unfold okT at ho
    obtain ⟨o1, _, o3⟩ := ho
    obtain ⟨t0, rfl⟩ : ∃ t0, ts = [t0] := List.length_eq_one_iff.1 (by simpa using o1)
    have := o3 t0 (by simp)
    exact .inr ⟨t0, d, rfl, rfl, by rw [its_mk, itsIn_one], this.1, this.2⟩

set_option maxRecDepth 100000 in
set_option maxHeartbeats 8000000 in
theorem sdel_none {w : World} {s n : Nat} {most : Int} {L : List Nat} (h : ShelfAt w s most none n L) (k : ByteArray) :
    Calls Tryz.prog 42 #[.pointer (some ⟨s, 0, none⟩), .string k] w fun e w' => e = .returned (.bool false) ∧ Mod NoB w w' := by
  unfold ShelfAt at h
  obtain ⟨h1, rfl⟩ := h
  have c2 : w.cell? ⟨s, 2, none⟩ = some (.pointer none) := cell_of h1 2 rfl
  clear h1
  go_enter Tryz.func42, Tryz.ntmps42
  go_wp2_with fail
  go_ret
  exact ⟨rfl, Mod.refl _ _⟩

/-- what a top of a tree says -/
theorem top_cells {w : World} {b : Nat} {t : Tree} {L : List Nat} (h : TreeP w b t L) : ∃ a cap bs v u, w.cell? ⟨b, 0, none⟩ = some (.slice a t.xs.length cap) ∧ NodeAt w b v t.xs u bs ∧ bs.length = t.ts.length := by
  obtain ⟨xs, ts⟩ := t
  obtain ⟨v, u, bs, Ls, h1, h2, hp⟩ := h.open
  obtain ⟨a, cap, e⟩ := Nd.vany (x := ⟨b, v, xs, u, bs⟩) h1
  have := (Nd.cv (x := ⟨b, v, xs, u, bs⟩) h1).1
  dsimp only at e this
  rw [e] at this
  exact ⟨a, cap, bs, v, u, this, h1, h2.len⟩

/-- a tree under a top without items -/
theorem only_child {w : World} {b : Nat} {xs : List Itm} {t0 : Tree} {L : List Nat} (h : TreeP w b (.mk xs [t0]) L) : ∃ gu cu c Lc, w.cell? ⟨b, 1, none⟩ = some (.slice (some ⟨gu, 0, none⟩) 1 cu) ∧ 1 ≤ cu ∧ w.cell? ⟨gu, 0, none⟩ = some (.pointer (some ⟨c, 0, none⟩)) ∧ TreeP w c t0 Lc ∧ (∀ k ∈ Lc, k ∈ L) ∧ (L.Nodup → Lc.Nodup) := by
  obtain ⟨v, u, bs, Ls, h1, h2, hp⟩ := h.open
  have hl := h2.len
  obtain ⟨bA, c, bB, LA, Lc, LB, rfl, hbA, k1, k2, k3, kp⟩ := TreesP.mid (A := []) (B := []) h2
  obtain ⟨g, cap, e, hc, _⟩ := Nd.uform (x := ⟨b, v, xs, u, bA ++ c :: bB⟩) h1 (by simp)
  have hk := Nd.kid (x := ⟨b, v, xs, u, bA ++ c :: bB⟩) h1 e (b1 := bA) (c := c) (b2 := bB) rfl
  have x1 := (Nd.cv (x := ⟨b, v, xs, u, bA ++ c :: bB⟩) h1).2.1
  dsimp only at e hc x1
  rw [e, hl] at x1
  rw [hbA] at hk
  rw [hl] at hc
  refine ⟨g, cap, c, Lc, x1, hc, hk, k2, fun q hq => hp.mem_iff.2 (List.mem_append_right _ (kp.mem_iff.2 (List.mem_append_left _ hq))), fun hn => ?_⟩
  have := (List.nodup_append.1 ((hp.nodup_iff).1 hn)).2.1
  exact (List.nodup_append.1 ((kp.nodup_iff).1 this)).1

set_option maxRecDepth 100000 in
set_option maxHeartbeats 8000000 in
theorem sdel_some {w : World} {s n b d : Nat} {most : Int} {t : Tree} {Lt : List Nat} (hs : w.heap[s]? = some (.cells #[.int .i64 most, .int .i64 n, .pointer (some ⟨b, 0, none⟩)] 111 (0, 0))) (ht : TreeP w b t Lt) (hnd : (s :: Lt).Nodup)
    (ho : okT d t) (hr : Rising t.its) (hsm : ∀ x ∈ t.its, x.1.size ≤ 16) (hn : n = t.its.length) (hne : 1 ≤ t.xs.length) (k : ByteArray) (hk : k.size ≤ 1000000) (hbig : t.its.length ≤ 1000000) :
    Calls Tryz.prog 42 #[.pointer (some ⟨s, 0, none⟩), .string k] w (SDelE w s most (s :: Lt) k t.its) := by
  have hsL : s ∉ Lt := (List.nodup_cons.1 hnd).1
  have hLn := (List.nodup_cons.1 hnd).2
  have hlt := ht.lts
  have hsw : s < w.heap.size := (Array.getElem?_eq_some_iff.1 hs).1
  have c2 : w.cell? ⟨s, 2, none⟩ = some (.pointer (some ⟨b, 0, none⟩)) := cell_of hs 2 rfl
  have hcall := del_ok d w b t Lt k ht ho hLn hr (fun x hx => Nat.le_trans (hsm x hx) (by decide)) hk (.inr hne)
  -- the shelf's cells stay
  have hshelf : ∀ w', Mod (· ∈ Lt) w w' → w'.heap[s]? = some (.cells #[.int .i64 most, .int .i64 n, .pointer (some ⟨b, 0, none⟩)] 111 (0, 0)) := fun w' hm => by
    rw [hm.block s hsw hsL]; exact hs
  have hsX : ∀ w' L', Turn Lt w w' L' → s ∉ L' := fun w' L' hT e => by
    rcases hT.2 s e with h | h
    · exact hsL h
    · omega
  cases hg : getS k t.its with
  | none =>
    rw [hg] at hcall
    have HCALL := Lib.hid hcall; have HSH := Lib.hid hshelf; have HSX := Lib.hid hsX; have HG := Lib.hid hg; have HR := Lib.hid hr; have HSM := Lib.hid hsm; have HN := Lib.hid hn; have HNE := Lib.hid hne
    clear hs ht hnd ho hr hsm hn hne hcall hshelf hsX hg hlt hbig hLn
    go_enter Tryz.func42, Tryz.ntmps42
    go_wp2_with (go_at_call 74; refine HCALL.out.mono ?_; rintro e w1 ⟨rfl, hd⟩; have HD := Lib.hid hd; clear hd)
    go_ret
    obtain ⟨t', L', q1, q2, q3, q4, q5, q6, q7⟩ := HD.out
    obtain ⟨L2, y1, y2, y3⟩ := shelf_of (HSH.out _ q4.1) q1 q3 (HSX.out _ _ q4)
    have e : delS k t.its = t.its := delS_same HG.out
    refine ⟨by rw [HG.out]; rfl, some t', n, s :: L2, y1, y2, turn_cons (q4.1.mono (fun _ _ h => List.mem_cons_of_mem _ h)) q4.2 y3, ?_⟩
    rw [e] at q5 ⊢
    exact ⟨HN.out, HR.out, HSM.out, d, q2, q5, Nat.le_trans HNE.out (q7 HG.out)⟩
  | some vv =>
    rw [hg] at hcall
    have hdl := delS_length hr hg
    obtain ⟨m, hm⟩ : ∃ m, n = m + 1 := ⟨(delS k t.its).length, by omega⟩
    subst hm
    have hml : (delS k t.its).length = m := by omega
    have hmb : m ≤ 1000000 := by omega
    have hw1 : IntKind.i64.wrap (m : Int) = (m : Int) := IntWalk.i64_in _ ⟨by omega, by omega⟩
    have HCALL := Lib.hid hcall; have HSH := Lib.hid hshelf; have HSX := Lib.hid hsX; have HG := Lib.hid hg; have HR := Lib.hid hr; have HSM := Lib.hid hsm; have HML := Lib.hid hml
    clear hs ht hnd ho hr hsm hn hne hcall hshelf hsX hg hlt hdl hbig hLn hml
    go_enter Tryz.func42, Tryz.ntmps42
    go_upto_region 3 with (go_at_call 74; refine HCALL.out.mono ?_; rintro e w1 ⟨rfl, hd⟩; have HD := Lib.hid hd; clear hd)
    obtain ⟨t', L', q1, q2, q3, q4, q5, q6, q7⟩ := HD.out
    have hs1 := HSH.out _ q4.1
    have hsx := HSX.out _ _ q4
    have d1 : w1.cell? ⟨s, 1, none⟩ = some (.int .i64 ((m : Int) + 1)) := cell_of hs1 1 (by simp)
    have d2 : w1.cell? ⟨s, 2, none⟩ = some (.pointer (some ⟨b, 0, none⟩)) := cell_of hs1 2 rfl
    have f1 := frozen_of hs1 1
    have f2 := frozen_of hs1 2
    -- behind the count
    have hw2 : ∀ u : Value, Mod (· = s) w1 (w1.setCell ⟨s, 1, none⟩ u) := fun u => Mod.setCell (S := (· = s)) (Mod.refl _ _) (by intro _; rfl) _
    have ht2 : TreeP (w1.setCell ⟨s, 1, none⟩ (.int .i64 (m : Int))) b t' L' := q1.mod (hw2 _) (fun q hq e => hsx (e ▸ hq))
    have hs2 : (w1.setCell ⟨s, 1, none⟩ (.int .i64 (m : Int))).heap[s]? = some (.cells #[.int .i64 most, .int .i64 m, .pointer (some ⟨b, 0, none⟩)] 111 (0, 0)) := by
      have := heap_set hs1 1 (.int .i64 (m : Int))
      simpa using this
    have hm2 : Mod (· ∈ s :: Lt) w (w1.setCell ⟨s, 1, none⟩ (.int .i64 (m : Int))) := (q4.1.mono (fun _ _ h => List.mem_cons_of_mem _ h)).then (hw2 _) (fun q _ e => by rw [e]; exact List.mem_cons_self)
    obtain ⟨a, cap, bs, v, u, tc0, tn, tl⟩ := top_cells ht2
    have hbs : b ≠ s := fun e => hsx (by
      have hx := ht2
      obtain ⟨xs', ts'⟩ := t'
      obtain ⟨_, _, _, _, _, _, hp⟩ := hx.open
      exact hp.mem_iff.2 (by simp [nodeL, e]))
    have T1 := Lib.hid q1; have Q2 := Lib.hid q2; have Q3 := Lib.hid q3; have Q4 := Lib.hid q4; have Q5 := Lib.hid q5; have HT2 := Lib.hid ht2; have HS2 := Lib.hid hs2; have HM2 := Lib.hid hm2; have HX := Lib.hid hsx; have HLF := Lib.hid (leaf_node tn); have TL := Lib.hid tl
    have hshok : ∀ tr', (match tr' with | none => delS k t.its = [] | some t'' => ∃ d, okT d t'' ∧ t''.its = delS k t.its ∧ 1 ≤ t''.xs.length) → ShOK tr' (delS k t.its) m := fun tr' h => ⟨HML.out.symm, rising_delS HR.out, delS_small HSM.out, h⟩
    have HSK := Lib.hid hshok
    have u2 : (w1.setCell ⟨s, 1, none⟩ (.int .i64 (m : Int))).cell? ⟨s, 2, none⟩ = some (.pointer (some ⟨b, 0, none⟩)) := cell_of hs2 2 rfl
    have uf2 := frozen_of hs2 2
    clear q1 q2 q3 q4 q5 q6 q7 hs1 hsx hw2 ht2 hs2 hm2 tn tl HD hshok
    by_cases hx0 : 0 < t'.xs.length
    · go_wp2_with fail
      go_ret
      obtain ⟨L2, y1, y2, y3⟩ := shelf_of HS2.out HT2.out Q3.out HX.out
      exact ⟨by rw [HG.out]; rfl, some t', m, s :: L2, y1, y2, turn_cons HM2.out Q4.out.2 y3, HSK.out (some t') ⟨d, Q2.out, Q5.out, hx0⟩⟩
    · have hxe : t'.xs = [] := List.eq_nil_of_length_eq_zero (by omega)
      have hx1 : t'.xs.length = 0 := by omega
      rcases top_empty Q2.out hxe with ⟨e1, e2⟩ | ⟨t0, d', rfl, e1, e2, e3, e4⟩
      · have hb0 : bs.length = 0 := by rw [TL.out, e1]; rfl
        have E2 := Lib.hid e2
        clear hxe e1 e2
        go_wp2_with (go_at_call 75; refine HLF.out.mono ?_; rintro e w5 ⟨rfl, rfl⟩)
        go_ret
        have hm3 : Mod (· = s) (w1.setCell ⟨s, 1, none⟩ (.int .i64 (m : Int))) ((w1.setCell ⟨s, 1, none⟩ (.int .i64 (m : Int))).setCell ⟨s, 2, none⟩ (.pointer none)) := Mod.setCell (S := (· = s)) (Mod.refl _ _) (by intro _; rfl) _
        have hs3 : ((w1.setCell ⟨s, 1, none⟩ (.int .i64 (m : Int))).setCell ⟨s, 2, none⟩ (.pointer none)).heap[s]? = some (.cells #[.int .i64 most, .int .i64 m, .pointer none] 111 (0, 0)) := by
          have := heap_set HS2.out 2 (.pointer none)
          simpa using this
        refine ⟨by rw [HG.out]; rfl, none, m, [s], ⟨hs3, rfl⟩, by simp, ⟨HM2.out.then hm3 (fun q _ e => by rw [e]; exact List.mem_cons_self), fun q hq => .inl (by simp at hq; simp [hq])⟩, HSK.out none (by rw [← Q5.out]; exact E2.out)⟩
      · have hb0 : ¬ bs.length = 0 := by rw [TL.out, e1]; simp
        obtain ⟨gu, cu, c, Lc, k1, k2, k3, k4, k5, k6⟩ := only_child (xs := []) (t0 := t0) (L := L') (w := w1.setCell ⟨s, 1, none⟩ (.int .i64 (m : Int))) (b := b) (by
          have := HT2.out
          obtain ⟨xs', ts'⟩ := t'
          dsimp only [Tree.xs, Tree.ts] at hxe e1
          subst hxe; subst e1
          exact this)
        have E2 := Lib.hid e2; have E3 := Lib.hid e3; have E4 := Lib.hid e4; have K4 := Lib.hid k4; have K5 := Lib.hid k5; have K6 := Lib.hid k6
        clear hxe e1 e2 e3 e4 k4 k5 k6
        go_wp2_with (go_at_call 75; refine HLF.out.mono ?_; rintro e w5 ⟨rfl, rfl⟩)
        go_ret
        have hm3 : Mod (· = s) (w1.setCell ⟨s, 1, none⟩ (.int .i64 (m : Int))) ((w1.setCell ⟨s, 1, none⟩ (.int .i64 (m : Int))).setCell ⟨s, 2, none⟩ (.pointer (some ⟨c, 0, none⟩))) := Mod.setCell (S := (· = s)) (Mod.refl _ _) (by intro _; rfl) _
        have hs3 : ((w1.setCell ⟨s, 1, none⟩ (.int .i64 (m : Int))).setCell ⟨s, 2, none⟩ (.pointer (some ⟨c, 0, none⟩))).heap[s]? = some (.cells #[.int .i64 most, .int .i64 m, .pointer (some ⟨c, 0, none⟩)] 111 (0, 0)) := by
          have := heap_set HS2.out 2 (.pointer (some ⟨c, 0, none⟩))
          simpa using this
        obtain ⟨L2, y1, y2, y3⟩ := shelf_of hs3 (K4.out.mod hm3 (fun q hq e => HX.out (e ▸ K5.out q hq))) (K6.out Q3.out) (fun e => HX.out (K5.out s e))
        refine ⟨by rw [HG.out]; rfl, some t0, m, s :: L2, y1, y2, turn_cons (HM2.out.then hm3 (fun q _ e => by rw [e]; exact List.mem_cons_self)) (fun q hq => Q4.out.2 q (K5.out q hq)) y3, HSK.out (some t0) ⟨d', E3.out, by rw [← E2.out, Q5.out], by have := E4.out; omega⟩⟩

theorem sdel_any {w : World} {s : Nat} {most : Int} {tr : Option Tree} {n : Nat} {L : List Nat} {xs : List Itm} (h : ShelfAt w s most tr n L) (hn : L.Nodup) (ho : ShOK tr xs n) (k : ByteArray) (hk : k.size ≤ 1000000) (hbig : xs.length ≤ 1000000) :
    Calls Tryz.prog 42 #[.pointer (some ⟨s, 0, none⟩), .string k] w (SDelE w s most L k xs) := by
  cases tr with
  | none =>
    have hx : xs = [] := ho.2.2.2
    subst hx
    refine (sdel_none h k).mono ?_
    rintro e w' ⟨rfl, hm⟩
    exact ⟨rfl, none, n, L, h.mod hm (fun _ _ e => e), hn, Turn.of_no hm, ho⟩
  | some t =>
    obtain ⟨o1, o2, o3, d, q1, q2, q3⟩ := ho
    subst q2
    unfold ShelfAt at h
    obtain ⟨b, Lt, h1, h2, rfl⟩ := h
    exact sdel_some h1 (treeP_at h2) hn q1 o2 o3 o1 q3 k hk hbig
end Go.Proofs.YtmagddchjidamaaGreatDoor
