/- (*hold.Hold).Arcs: all arcs, as few as it takes. -/
import Derived.Test.YtpcmbnbdppembaaGreatDoorViewAll
import Derived.StillTailTactics
import Derived.Test.YtpcmbnbdppembaaGreatDoorScanKit
namespace Go.Proofs.YtpcmbnbdppembaaGreatDoor
set_option linter.unusedSimpArgs false
set_option linter.unusedVariables false
open Go.RowKit Go.Shelf
attribute [local go_sem ↓] Go.wp_at_zero Go.wp_at_succ
attribute [local go_sem] Oper.semAt_some

/-- a view that came since a world -/
def NewV (w W : World) (v : Nat) (l : List Pt) (B : List Nat) : Prop := ViewAt W v l B ∧ Mod NoB w W ∧ ∀ k ∈ B, w.heap.size ≤ k
theorem NewV.turn {w W W' : World} {v : Nat} {l l' : List Pt} {B B' : List Nat} (hh : NewV w W v l B) (h1 : ViewAt W' v l' B') (h2 : Turn B W W' B') : NewV w W' v l' B' :=
  ⟨h1, hh.2.1.then h2.1 (fun k hk hB => by have := hh.2.2 k hB; omega), fun k hk => (h2.2 k hk).elim (hh.2.2 k) (fun h => Nat.le_trans hh.2.1.size h)⟩
theorem NewV.quiet {w W W' : World} {v : Nat} {l : List Pt} {B : List Nat} (hh : NewV w W v l B) (hm : Mod NoB W W') : NewV w W' v l B :=
  ⟨hh.1.mod hm (fun _ _ x => x), hh.2.1.trans hm, hh.2.2⟩
theorem NewV.start {w W : World} (hm : Mod NoB w W) : NewV w (W.alloc (.cells #[.slice none 0 0] 146)) W.heap.size [] [W.heap.size] :=
  ⟨⟨.slice none 0 0, heap_alloc_new W _, World.ownsRow_nil _ _ _ _, by simp [ownL, Value.ownBlock], by simp [ownL, Value.ownBlock]⟩, hm.alloc _, fun k hk => by
    rw [List.mem_singleton] at hk; subst hk; exact hm.size⟩

theorem NewV.at_lt {w W : World} {v : Nat} {l : List Pt} {B : List Nat} (hh : NewV w W v l B) : v < W.heap.size := by
  obtain ⟨⟨u, h1, _⟩, _⟩ := hh
  exact (Array.getElem?_eq_some_iff.1 h1).1

abbrev ndOw (nd : Int) (o : Ow) : Ow := ⟨o.f, o.t, nd, o.ep⟩
def viewOf (l : List Ow) : List Pt := (l.map (ndOw 0)).foldl learnP []
theorem viewOf_snoc (l : List Ow) (o : Ow) : viewOf (l ++ [o]) = learnP (viewOf l) (ndOw 0 o) := by
  unfold viewOf
  rw [List.map_append, List.foldl_append]
  rfl
theorem learnP_len (l : List Pt) (o : Ow) : (learnP l o).length ≤ l.length + 8 := by
  unfold learnP vpieces
  split
  · omega
  · have h1 := fun q l => learn1_len o l q
    split
    · have := h1 o.arc l
      simp only [List.foldl_cons, List.foldl_nil]; omega
    · split
      · have := h1 ⟨0, 0⟩ l
        simp only [List.foldl_cons, List.foldl_nil]; omega
      · have a1 := h1 ⟨0, o.t⟩ l
        have a2 := h1 ⟨o.f, 0⟩ (learn1 o l ⟨0, o.t⟩)
        simp only [List.foldl_cons, List.foldl_nil]; omega
theorem foldV_acc (l : List Ow) : ∀ acc : List Pt, (l.foldl learnP acc).length ≤ acc.length + 8 * l.length := by
  induction l with
  | nil => intro acc; simp
  | cons o l ih =>
    intro acc
    have h1 := ih (learnP acc o)
    have h2 := learnP_len acc o
    simp only [List.foldl_cons, List.length_cons]
    omega
theorem foldV_len (l : List Ow) : (l.foldl learnP []).length ≤ 8 * l.length := by
  have := foldV_acc l []
  simpa using this
theorem viewOf_len (l : List Ow) : (viewOf l).length ≤ 8 * l.length := by
  have := foldV_len (l.map (ndOw 0))
  rwa [List.length_map] at this

theorem keepsC_mod {Bo : Nat} {W W' : World} (hm : Mod NoB W W') (hB : Bo < W.heap.size) : KeepsC Bo W W' := by
  have hc : W'.cell? ⟨Bo, 0, none⟩ = W.cell? ⟨Bo, 0, none⟩ := World.cell?_of_block (hm.block Bo hB (fun x => x))
  exact ⟨hm.size, fun k o ho _ _ => (hm.block k (Array.getElem?_eq_some_iff.1 ho).1 (fun x => x)).trans ho, fun k hk => .inl ((BodyB.same hc k).1 hk), fun h k hk => Nat.lt_of_lt_of_le (h k ((BodyB.same hc k).1 hk)) hm.size⟩

/-- a round's word on the iterator's cells, from ahead of the round's own variable on -/
theorem keepsC_from {E : Nat} {W0 W1 W3 : World} {t : TypeId} {v : Value} (hc : ∀ (k : Nat) (o : Obj), W0.heap[k]? = some o → o.isCells = true → W1.heap[k]? = some o) (hsz : W0.heap.size ≤ W1.heap.size) (hE : Boxed W0 E t v) (hk : KeepsC E W1 W3) : KeepsC E W0 W3 := by
  have hE1 : Boxed W1 E t v := hc E _ hE rfl
  have hs : W1.cell? ⟨E, 0, none⟩ = W0.cell? ⟨E, 0, none⟩ := by rw [hE1.cell, hE.cell]
  exact ⟨Nat.le_trans hsz hk.size, fun k o ho h1 h2 => hk.cells k o (hc k o ho h1) h1 (fun h => h2 ((BodyB.same hs k).1 h)), fun k h => (hk.body k h).elim (fun h => .inl ((BodyB.same hs k).1 h)) (fun h => .inr (Nat.le_trans hsz h)),
    fun h k hk' => hk.lt (fun q hq => Nat.lt_of_lt_of_le (h q ((BodyB.same hs q).1 hq)) hsz) k hk'⟩
theorem keepsFrom_set {B b i : Nat} {W : World} {v : Value} {cs : Array Value} {t : TypeId} (hb : W.heap[b]? = some (.cells cs t (0, 0))) : KeepsFrom B W (W.setCell ⟨b, i, none⟩ v) :=
  ⟨by simp [World.setCell], fun k o _ ho hc => (Below.heap_setCell _ _ _ _ (fun e => by subst e; rw [hb] at ho; cases ho; cases hc)).trans ho⟩

set_option maxRecDepth 100000 in
set_option maxHeartbeats 16000000 in
theorem harcs_any {w : World} {h : Nat} {st : HSt} {tr : Option Tree} {n : Nat} {B : List Nat} (hh : HoldAt w h st tr n B) (hep : ∀ o ∈ st.own, 0 ≤ o.ep) (hlen : st.own.length ≤ 5000) {xs : List Ow} (hxl : xs.length ≤ 1000000)
    (hA : ∀ W v B', ViewAt W v (viewOf st.own) B' → ArcsOK v xs W) :
    Calls Tryz.prog 34 #[.pointer (some ⟨h, 0, none⟩)] w fun e w' => ∃ u, e = .returned u ∧ w'.ownsRow w.heap.size 128 4 u xs.length ((xs.map (ndOw st.node)).flatMap encOw) ∧ Mod NoB w w' := by
  obtain ⟨i0, z0, hi, hz0, hz1, hz2, hz3⟩ := owInfo_parts
  have HH := Lib.hid hh
  obtain ⟨vo, vp, s, L, q1, q2, q3, q4, rfl, q5⟩ := hh
  have c3 : w.cell? ⟨h, 3, none⟩ = some vo := cell_of q1 3 rfl
  have c0 : w.cell? ⟨h, 0, none⟩ = some (.int .i64 st.node) := cell_of q1 0 rfl
  have hvo := own_slAt (k := 4) (enc := encOw) (fun _ => rfl) q2
  obtain ⟨av, capv, rfl, _⟩ := id hvo
  have HVO := Lib.hid hvo
  clear q1 q2 q3 q4 q5 hvo
  refine (callsIn_wide (n := 6)).1 ?_
  refine callsIn_of_wp_marks Tryz.func34 rfl trivial ?_ rfl
  simp only [Tryz.ntmps34, List.size_toArray, List.length_cons, List.length_nil, Nat.reduceAdd, Nat.reduceSub, Array.replicate_succ, Array.replicate_zero, List.push_toArray, List.append_toArray, List.nil_append, List.cons_append]
  refine wpIn_wide.2 ?_
  obtain ⟨w0, hw0⟩ : ∃ w0, w0 = w.alloc (.cells #[.pointer (some ⟨h, 0, none⟩)] 28) := ⟨_, rfl⟩
  have hm0 : Mod NoB w w0 := by rw [hw0]; exact (Mod.refl _ _).alloc _
  have hs0 : w0.heap.size = w.heap.size + 1 := by rw [hw0]; simp
  have bH0 : Boxed w0 w.heap.size 28 (.pointer (some ⟨h, 0, none⟩)) := by rw [hw0]; exact Boxed.new w _ _
  have c3a : ∀ o1 o2, ((w.alloc o1).alloc o2).cell? ⟨h, 3, none⟩ = some (.slice av st.own.length capv) := fun o1 o2 => (((Mod.refl NoB w).alloc o1).alloc o2).cellS c3
  go_wp2_with fail
  go_loopw [15] (fun i wr => ∃ (k : Nat) (B' : List Nat), k ≤ st.own.length ∧ i = .int .i64 k ∧ NewV w0 wr (w.heap.size + 1) (viewOf (st.own.take k)) B') (fun i _ => st.own.length - (intOf i).toNat)
  case atStart =>
    refine ⟨0, [w.heap.size + 1], Nat.zero_le _, rfl, ?_⟩
    have := NewV.start (W := w.alloc (.cells #[.pointer (some ⟨h, 0, none⟩)] 28)) (Mod.refl NoB _)
    rw [hw0]
    simpa [viewOf] using this
  case round =>
    obtain ⟨k, B', hk, rfl, hv⟩ := hrel
    by_cases hlt : k < st.own.length
    · have he : st.own[k]? = some st.own[k] := List.getElem?_eq_getElem hlt
      have HEP := Lib.hid (hep st.own[k] (List.getElem_mem hlt))
      have HST : Hid (viewOf (st.own.take (k + 1)) = learnP (viewOf (st.own.take k)) (ndOw 0 st.own[k])) := Lib.hid (by rw [List.take_add_one, he, Option.toList_some, viewOf_snoc])
      have HLV : Hid ((viewOf (st.own.take k)).length ≤ 40000) := Lib.hid (by have := viewOf_len (st.own.take k); rw [List.length_take] at this; omega)
      generalize st.own[k] = o at *
      generalize viewOf (st.own.take k) = V at *
      obtain ⟨vb, vof, cap3, hvv, hvlt, x0, x1, x2, x3⟩ := at4w (HVO.out.mod (hm0.trans hv.2.1)) he
      simp only [Value.slice.injEq] at hvv
      obtain ⟨rfl, _, rfl⟩ := hvv
      have HV := Lib.hid hv
      have HW1 : Hid (NewV w0 (wr.alloc (.cells #[.int .u64 o.f, .int .u64 o.t, .int .i64 0, .int .i64 o.ep] 128)) (w.heap.size + 1) V B') :=
        Lib.hid (hv.quiet ((Mod.refl NoB wr).alloc _))
      clear hv he
      go_wp2_with fail
      refine (learn_any HW1.out.1 (ndOw 0 o) HEP.out (Int.le_refl _) (by simp) (by have := HLV.out; omega)).mono ?_
      rintro e w1 ⟨⟨b, rfl⟩, B2, hv2, ht2⟩
      have HN := Lib.hid (HW1.out.turn hv2 ht2)
      clear hv2 ht2
      go_wp2_with fail
      exact ⟨⟨k + 1, B2, by omega, by go_num, by rw [HST.out]; exact HN.out⟩, by simp [intOf]; omega⟩
    · obtain rfl : k = st.own.length := by omega
      rw [List.take_length] at hv
      have hAV := hA
      have HV := Lib.hid hv
      have hc0 : wr.cell? ⟨h, 0, none⟩ = some (.int .i64 st.node) := (hm0.trans hv.2.1).cellS c0
      have hbx : Boxed wr w.heap.size 28 (.pointer (some ⟨h, 0, none⟩)) := (hv.2.1.block _ (by omega) (fun x => x)).trans bH0
      clear hv c3a
      go_wp2_with fail
      refine (vall_make _ _).mono ?_
      rintro e w2 ⟨rfl, hw2⟩
      go_wp2_with fail
      refine (wpIn_wide (n := 6)).1 ?_
      obtain ⟨E, hE⟩ : ∃ E, E = wr.heap.size := ⟨_, rfl⟩
      obtain ⟨w3, hw3⟩ : ∃ w3, w3 = (wr.alloc (.cells #[.slice none 0 0] 32)).alloc (.cells #[.pointer (some ⟨w.heap.size + 1, 0, none⟩)] 204) := ⟨_, rfl⟩
      have bO : Boxed w3 E 32 (.slice none 0 0) := by rw [hw3, hE]; exact (Boxed.new wr 32 (.slice none 0 0)).alloc _
      have c1 : w3.cell? ⟨E + 1, 0, none⟩ = some (.pointer (some ⟨w.heap.size + 1, 0, none⟩)) := by
        rw [hw3, hE]
        have := (Boxed.new (wr.alloc (.cells #[.slice none 0 0] 32)) 204 (.pointer (some ⟨w.heap.size + 1, 0, none⟩))).cell
        rwa [World.size_alloc] at this
      have hm3 : Mod NoB wr w3 := by rw [hw3]; exact ((Mod.refl _ _).alloc _).alloc _
      have hs3 : w3.heap.size = E + 2 := by rw [hw3, hE]; simp
      rw [← hw3, ← hE]
      have hv3 := HV.out.quiet hm3
      have hA3 := hAV w3 _ _ hv3.1
      have hwE : w.heap.size + 2 ≤ E := by have := HV.out.at_lt; omega
      have bH : Boxed w3 w.heap.size 28 (.pointer (some ⟨h, 0, none⟩)) := (hm3.block _ (by omega) (fun x => x)).trans hbx
      have hap : Apart E w3 [] := by
        have hb : ∀ q, BodyB E w3 q → q = E := fun q hq => by
          rcases hq with rfl | ⟨u, hu, hq⟩
          · rfl
          · rw [bO.cell] at hu
            obtain rfl := (Option.some.inj hu).symm
            simp [ownL, Value.ownBlock] at hq
        exact ⟨by omega, fun q hq => by have := hb q hq; omega, fun g hg => absurd hg List.not_mem_nil, fun g hg => absurd hg List.not_mem_nil⟩
      have hseq := vall_any (Bo := E) hA3 hxl c1 hap
      have hbw : Below w.heap.size w w3 := (hm0.trans hv3.2.1).below_self
      clear hw3 hm3 hA3 hAV hv3 hw2 c1 hap hbx hA HV hc0 hE
      refine wpIn_rangeB (by decide) (gf := 164) (lb := #[.pointer (some ⟨E + 1, 0, none⟩)]) rfl (enters_of Tryz.func164 (by kernel_rfl) rfl) (n := 6) hseq (fun h k => h.trans k) (keepsC_b (by omega)) (Below.refl _ _) (fun _ => rfl)
        (fun pre W => (∃ v, Boxed W E 32 v ∧ W.ownsRow w.heap.size 128 4 v pre.length ((pre.map (ndOw st.node)).flatMap encOw) ∧ True) ∧ Below w.heap.size w W ∧ Boxed W w.heap.size 28 (.pointer (some ⟨h, 0, none⟩)))
        (fun _ _ _ => False) ?hI ?hIx ?h0
        (fun x b => { tmps := #[.pointer (some ⟨h, 0, none⟩), .pointer (some ⟨w.heap.size, 0, none⟩), .slice none 0 0, .pointer (some ⟨w.heap.size + 1, 0, none⟩), undef, u5, .pointer (some ⟨E, 0, none⟩), .pointer (some ⟨b, 0, none⟩), .pointer (some ⟨h, 0, none⟩), .bool false, .pointer (some ⟨h, 0, none⟩), .pointer (some ⟨h, 0, none⟩), .pointer (some ⟨h, 3, none⟩), .slice av st.own.length capv, .int .i64 st.own.length, .int .i64 st.own.length, .bool false, u17, u18, u19, u20, u21, u22, .func (.func 164) #[] #[.pointer (some ⟨E + 1, 0, none⟩)], .agg #[.int .u64 x.f, .int .u64 x.t, .int .i64 x.node, .int .i64 x.ep], undef, undef, undef, undef, undef, undef, undef, undef, undef, undef], defers := [] }) (fun x => .cells #[.int .u64 x.f, .int .u64 x.t, .int .i64 x.node, .int .i64 x.ep] 128) ?assign ?body ?done ?stop
      case hI =>
        refine OwnFrom.and (Own.from (holdsRow_own w.heap.size E 32 128 4 (fun pre : List Ow => pre.length) (fun pre => (pre.map (ndOw st.node)).flatMap encOw) (fun _ _ => True)) _) (OwnFrom.and (ownFrom_below (Nat.le_refl _) (by omega)) ?_)
        intro s A B row hs hg hr
        exact hs.kept hg (fun e => by have := (hr _ e.symm).1; omega)
      case hIx => intro c s A B row hs; exact hs.elim
      case h0 => exact ⟨⟨_, bO, World.ownsRow_nil _ _ _ _, trivial⟩, hbw, bH⟩
      case assign =>
        intro l x W K hK
        gi_wp2
        exact hK
      case body =>
        rintro l pre x W0 W ⟨⟨v0, hv0, hrow0, _⟩, hB0, hH0⟩ ⟨⟨v, hv, hrow, _⟩, hB, hH⟩ hlen hb hwb hsame hsz
        obtain rfl : v = v0 := by
          have := (hv.cell).symm.trans (Boxed.cell (hsame E _ hv0 rfl))
          exact Option.some.inj this
        obtain ⟨b, hbe⟩ : ∃ b, b = W0.heap.size := ⟨_, rfl⟩
        rw [← hbe] at hb hwb ⊢
        have hvb : ∀ g, v.ownBlock = some g → g < b := fun g hg => by rw [hbe]; exact (hrow0.lt g hg).2
        have hEb : E < b := by rw [hbe]; exact hv0.lt
        have hwb2 : w.heap.size + 2 ≤ b := by have := hB0.size; omega
        have hfr := frozen_of hb 2
        have y2' : W.cell? ⟨b, 2, none⟩ = some (.int .i64 x.node) := cell_of hb 2 rfl
        have hbox := hH.cell
        have hn := (Mod.ofBelow hB : Mod NoB w W).cellS c0
        obtain ⟨W1, hW1⟩ : ∃ W1, W1 = W.setCell ⟨b, 2, none⟩ (.int .i64 st.node) := ⟨_, rfl⟩
        have hb1 : W1.heap[b]? = some (.cells #[.int .u64 x.f, .int .u64 x.t, .int .i64 st.node, .int .i64 x.ep] 128 (0, 0)) := by
          rw [hW1]; exact heap_set hb 2 _
        have y0 := cell_of hb1 0 (v := .int .u64 x.f) rfl
        have y1 := cell_of hb1 1 (v := .int .u64 x.t) rfl
        have y2 := cell_of hb1 2 (v := .int .i64 st.node) rfl
        have y3 := cell_of hb1 3 (v := .int .i64 x.ep) rfl
        have ho : ∀ k, k ≠ b → W1.heap[k]? = W.heap[k]? := fun k hk => by rw [hW1]; exact Below.heap_setCell _ _ _ _ hk
        have hs1 : W1.heap.size = W.heap.size := by rw [hW1]; simp [World.setCell]
        have hv1 : Boxed W1 E 32 v := (ho E (by omega)).trans hv
        have hgset : W.grownBy W1 (some b) := by rw [hW1]; exact ⟨rfl, rfl, rfl, (KeepsWalks.setCell W _ _).size, fun k _ hk => Below.heap_setCell _ _ _ k (fun e => hk (by rw [e]))⟩
        have hrow1 : W1.ownsRow w.heap.size 128 4 v pre.length ((pre.map (ndOw st.node)).flatMap encOw) := by
          refine hrow.kept hgset ?_
          rcases hrow.2 with ⟨rfl, _⟩ | ⟨g, cap, cur, rfl, _, hgb, _⟩
          · exact .inl rfl
          · refine .inr fun e' => ?_
            have := hvb g rfl
            obtain rfl : g = b := by simpa [Value.ownBlock] using e'
            omega
        have hB1 : Below w.heap.size w W1 := hB.grown hgset hB.size (fun q hq => by cases hq; omega)
        have hH1 : Boxed W1 w.heap.size 28 (.pointer (some ⟨h, 0, none⟩)) := (ho _ (by omega)).trans hH
        have hKF : KeepsFrom w3.heap.size W W1 := by rw [hW1]; exact keepsFrom_set hb
        have hsame1 : ∀ (k : Nat) (o : Obj), W0.heap[k]? = some o → o.isCells = true → W1.heap[k]? = some o := fun k o h1 h2 => by
          have : k < W0.heap.size := (Array.getElem?_eq_some_iff.1 h1).1
          rw [ho k (by omega)]; exact hsame k o h1 h2
        have hc1 := hv1.cell
        have H63 : Hid (pre.length + 1 ≤ maxLen) := Lib.hid (by unfold maxLen; omega)
        have HBY : Hid ((pre.length + 1) * i0.bytes ≤ 140737488355328) := Lib.hid (Nat.le_trans (Nat.mul_le_mul (show pre.length + 1 ≤ 1000000 by omega) hz3) (by decide))
        have HNEW : Hid (∀ o : Obj, (W1.alloc o).heap[W.heap.size]? = some o) := Lib.hid (fun o => by rw [← hs1]; exact heap_alloc_new W1 o)
        have HSZ1 : Hid (∀ o : Obj, w.heap.size ≤ (W1.alloc o).heap.size) := Lib.hid (fun o => by have := hB1.size; simp only [World.size_alloc]; omega)
        have HB1 := Lib.hid hB1; have HROW1 := Lib.hid hrow1; have HV1 := Lib.hid hv1; have HH1 := Lib.hid hH1; have HSAME1 := Lib.hid hsame1; have HKF := Lib.hid hKF; have HV0 := Lib.hid hv0; have HSZ : Hid (W0.heap.size ≤ W1.heap.size) := Lib.hid (by omega)
        subst hW1
        clear hbe hb hb1 hv hrow hH hB hrow0 hB0 hH0 hsame hsz ho hs1 hv1 hgset hrow1 hB1 hH1 hKF hsame1 hseq hbw bH bO hv0
        gi_wp2_with (gi_at_builtin; go_loud (refine wpListIn_append_own_at _ rfl _ _ 32 rfl w.heap.size 128 i0 z0 4 i0.bytes tyOws hi hz0 hz1 rfl hz2 (by decide) _ _ _ rfl (HROW1.out.alloc _) ⟨W.heap.size, 0, none⟩ 1 1 (encOw (ndOw st.node x)) rfl rfl (by intro j u hu; exact World.news_of_block (HNEW.out _) j u (by simpa using hu)) (by intro u hu; exact oneOw hu) H63.out HBY.out (HSZ1.out _) ?_; intro v' w1 hown' hgrow hnn hat; obtain ⟨g', cap', rfl⟩ := ownsRow_succ hown'; obtain ⟨hv1, hv2, hr2, hk2, hb2⟩ := HV1.out.appended (by decide) HROW1.out HB1.out.size (by omega) hown' hgrow; have hc1 := hv1.cell; have hf1 := hv1.frozen; have hM1 := (HH1.out.alloc (.cells #[.int .u64 x.f, .int .u64 x.t, .int .i64 st.node, .int .i64 x.ep] 128)).kept hgrow (HH1.out.not_row (by decide) HROW1.out); have hKC := keepsC_app HV1.out hgrow (HV1.out.not_row (by decide) HROW1.out) hat hv1 (own_lt hown'); have HKC := Lib.hid hKC; have HR2 := Lib.hid hr2; have HV2 := Lib.hid hv2; have HK2 := Lib.hid hk2; have HB2 := Lib.hid hb2; have HM1 := Lib.hid hM1; clear hown' hgrow hnn hat hKC hr2 hv2 hk2 hb2 hM1))
        refine ⟨HKF.out.trans (HK2.out.from _), keepsC_from HSAME1.out HSZ.out HV0.out HKC.out, ⟨_, HV2.out, ?_, trivial⟩, HB1.out.trans HB2.out, ?_⟩
        · rw [List.length_append, List.map_append, List.flatMap_append]
          simpa using HR2.out
        · have := HM1.out
          exact (heap_set_other (by omega) _ _).trans this
      case done =>
        rintro D W hD ⟨⟨v, hv, hrow, _⟩, hB, hH⟩ hK
        have hc := hv.cell
        gi_wp2
        go_wp2_with fail
        refine ⟨by simp, .inl ⟨_, _, rfl, run_takeDeferred hK, ?_⟩⟩
        refine ⟨_, results_tmp rfl _ _ _, v, rfl, ?_, Mod.ofBelow (hB.trans (belowK_b (w := w) (Nat.le_refl _) W D _ _ (by omega) hK rfl rfl))⟩
        exact ownsRow_putObj hrow _ hK rfl
      case stop => intro D c pre W hD hp hf; exact hf.elim
end Go.Proofs.YtpcmbnbdppembaaGreatDoor
