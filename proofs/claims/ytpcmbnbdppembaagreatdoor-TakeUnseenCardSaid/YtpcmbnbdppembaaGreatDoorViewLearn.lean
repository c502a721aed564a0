/- (*view.View).Learn; pieces of an arc (view's own). -/
import Derived.Test.YtpcmbnbdppembaaGreatDoorViewCut
import Derived.Deep.RegionHeld3
import Derived.Deep.CutRange
namespace Go.Proofs.YtpcmbnbdppembaaGreatDoor
set_option linter.unusedSimpArgs false
set_option linter.unusedVariables false
open Go.RowKit Go.Shelf
attribute [local go_sem ↓] Go.wp_at_zero Go.wp_at_succ

def vpieces (a : Arc) : List Arc := if a.t = 0 ∨ a.f < a.t then [a] else if a.f = a.t then [⟨0, 0⟩] else [⟨0, a.t⟩, ⟨a.f, 0⟩]

set_option maxRecDepth 100000 in
set_option maxHeartbeats 8000000 in
theorem vpieces_any (a : Arc) (w : World) : Calls Tryz.prog 162 #[.agg #[.int .u64 a.f, .int .u64 a.t]] w fun e w' =>
    ∃ b, e = .returned (.slice (some ⟨b, 0, none⟩) (vpieces a).length (vpieces a).length) ∧ w.heap.size ≤ b ∧ SlAt 2 encArc w' (.slice (some ⟨b, 0, none⟩) (vpieces a).length (vpieces a).length) (vpieces a) ∧ Mod NoB w w' := by
  by_cases h : a.t = 0
  · have HP := Lib.hid (show vpieces a = [a] by simp [vpieces, h])
    have hq : (a.t == 0) = true := by simpa using h
    clear h
    go_enter Tryz.func162, Tryz.ntmps162
    go_wp2_with fail
    go_ret
    rw [HP.out]
    refine ⟨_, rfl, by omega, ?_, ((Mod.refl _ _).alloc _).alloc _⟩
    exact slAt_new (k := 2) (enc := encArc) (fun _ => rfl) _ _ [a] _ _ (by first | rfl | simp)
  · have hq : (a.t == 0) = false := by simpa using h
    by_cases h2 : a.f < a.t
    · have HP := Lib.hid (show vpieces a = [a] by simp [vpieces, h2])
      go_enter Tryz.func162, Tryz.ntmps162
      go_wp2_with fail
      go_ret
      rw [HP.out]
      refine ⟨_, rfl, by omega, ?_, ((Mod.refl _ _).alloc _).alloc _⟩
      exact slAt_new (k := 2) (enc := encArc) (fun _ => rfl) _ _ [a] _ _ (by first | rfl | simp)
    · by_cases h3 : a.f = a.t
      · have HP := Lib.hid (show vpieces a = [⟨0, 0⟩] by simp [vpieces, h, h2, h3])
        have h2' : ¬ a.t < a.t := Int.lt_irrefl _
        go_enter Tryz.func162, Tryz.ntmps162
        go_wp2_with fail
        go_ret
        rw [HP.out]
        refine ⟨_, rfl, by omega, ?_, ((Mod.refl _ _).alloc _).alloc _⟩
        exact slAt_new (k := 2) (enc := encArc) (fun _ => rfl) _ _ [⟨0, 0⟩] _ _ (by first | rfl | simp)
      · have HP := Lib.hid (show vpieces a = [⟨0, a.t⟩, ⟨a.f, 0⟩] by simp [vpieces, h, h2, h3])
        go_enter Tryz.func162, Tryz.ntmps162
        go_wp2_with fail
        go_ret
        rw [HP.out]
        refine ⟨_, rfl, by omega, ?_, ((Mod.refl _ _).alloc _).alloc _⟩
        exact slAt_new (k := 2) (enc := encArc) (fun _ => rfl) _ _ [⟨0, a.t⟩, ⟨a.f, 0⟩] _ _ (by first | rfl | simp)
/-! ### Learn -/
def skipQ (o : Ow) (q : Arc) (p : Pt) : Prop := p.f < q.f ∨ (0 < q.t ∧ q.t ≤ p.f) ∨ (0 ≤ p.n ∧ o.ep ≤ p.e)
instance (o : Ow) (q : Arc) (p : Pt) : Decidable (skipQ o q p) := by unfold skipQ; infer_instance
def learnQ (o : Ow) (q : Arc) (p : Pt) : Pt := if skipQ o q p then p else ⟨p.f, o.node, o.ep⟩
def cuts2 (l : List Pt) (q : Arc) : List Pt := if 0 < q.t then cutP (cutP l q.f) q.t else cutP l q.f
def learn1 (o : Ow) (l : List Pt) (q : Arc) : List Pt := (cuts2 l q).map (learnQ o q)
def learnP (l : List Pt) (o : Ow) : List Pt := if o.ep < 0 ∨ o.node < 0 ∨ 255 < o.node then l else (vpieces o.arc).foldl (learn1 o) l

theorem cutP0_len (l : List Pt) (x : Int) : (cutP0 l x).length ≤ l.length + 1 := by
  unfold cutP0
  split
  · split
    · omega
    · rw [List.length_append, List.length_cons, List.length_take, List.length_drop]; omega
  · omega
theorem cutP_len (l : List Pt) (x : Int) : (cutP l x).length ≤ l.length + 2 := by
  unfold cutP
  have := cutP0_len (if l = [] then [⟨0, -1, 0⟩] else l) x
  split at this
  · rename_i h
    rw [if_pos h]
    simp at this
    omega
  · rename_i h
    rw [if_neg h]
    omega
theorem learn1_len (o : Ow) (l : List Pt) (q : Arc) : (learn1 o l q).length ≤ l.length + 4 := by
  unfold learn1 cuts2
  rw [List.length_map]
  have h1 := cutP_len l q.f
  have h2 := cutP_len (cutP l q.f) q.t
  split <;> omega

/-- a cell of a row of one's own is stored -/
theorem vrow_set {w : World} {base : Nat} {e : TypeId} {size n g cap : Nat} {xs : List Value} (h : w.ownsRow base e size (.slice (some ⟨g, 0, none⟩) n cap) n xs) {i : Nat} (hi : i < xs.length) (x : Value) :
    (w.setCell ⟨g, i, none⟩ x).ownsRow base e size (.slice (some ⟨g, 0, none⟩) n cap) n (xs.set i x) := by
  obtain ⟨h1, h2⟩ := h
  refine ⟨by rw [List.length_set]; exact h1, .inr ?_⟩
  rcases h2 with ⟨he, _⟩ | ⟨g', cap', cur, he, hb, hc, h3, h4, h5, h6⟩
  · cases he
  · simp only [Value.slice.injEq, Option.some.injEq, Addr.mk.injEq] at he
    obtain ⟨⟨rfl, _⟩, _, rfl⟩ := he
    refine ⟨g, cap, cur.setIfInBounds i x, rfl, hb, ?_, h3, h4, by simpa using h5, ?_⟩
    · exact heap_set hc i x
    · rw [← h6]
      simp [List.take_set]

theorem vflat_set (l : List Pt) {j : Nat} {p : Pt} (hj : l[j]? = some p) (a b : Int) :
    ((l.flatMap encPt).set (j * 3 + 1) (.int .i64 a)).set (j * 3 + 2) (.int .i64 b) = (l.set j ⟨p.f, a, b⟩).flatMap encPt := by
  induction l generalizing j with
  | nil => simp at hj
  | cons y l ih =>
    cases j with
    | zero =>
      simp only [List.getElem?_cons_zero, Option.some.injEq] at hj
      subst hj
      simp [encPt]
    | succ j =>
      simp only [List.getElem?_cons_succ] at hj
      have := ih hj
      rw [List.set_cons_succ, List.flatMap_cons, List.flatMap_cons, ← this]
      have e1 : (j + 1) * 3 + 1 = (encPt y).length + (j * 3 + 1) := by simp; omega
      have e2 : (j + 1) * 3 + 2 = (encPt y).length + (j * 3 + 2) := by simp; omega
      rw [e1, e2, List.set_append_right _ _ (by omega), Nat.add_sub_cancel_left, List.set_append_right _ _ (by omega), Nat.add_sub_cancel_left]

/-- the first parts learnt -/
def upto (o : Ow) (q : Arc) (l : List Pt) (j : Nat) : List Pt := (l.take j).map (learnQ o q) ++ l.drop j
theorem upto_len (o : Ow) (q : Arc) (l : List Pt) (j : Nat) : (upto o q l j).length = l.length := by
  unfold upto
  rw [List.length_append, List.length_map, List.length_take, List.length_drop]; omega
theorem upto_at {o : Ow} {q : Arc} {l : List Pt} {j : Nat} {p : Pt} (h : l[j]? = some p) : (upto o q l j)[j]? = some p := by
  have hj : j < l.length := (List.getElem?_eq_some_iff.1 h).1
  unfold upto
  have e : ((l.take j).map (learnQ o q)).length = j := by rw [List.length_map, List.length_take]; omega
  rw [List.getElem?_append_right (by omega), e, Nat.sub_self, List.getElem?_drop, Nat.add_zero]
  exact h
theorem upto_succ {o : Ow} {q : Arc} {l : List Pt} {j : Nat} {p : Pt} (h : l[j]? = some p) : upto o q l (j + 1) = (upto o q l j).set j (learnQ o q p) := by
  have hj : j < l.length := (List.getElem?_eq_some_iff.1 h).1
  unfold upto
  have e : ((l.take j).map (learnQ o q)).length = j := by rw [List.length_map, List.length_take]; omega
  rw [List.set_append_right _ _ (by omega), e, Nat.sub_self, List.drop_eq_getElem_cons hj, List.set_cons_zero, List.take_add_one, h, List.map_append]
  simp
theorem upto_same {o : Ow} {q : Arc} {l : List Pt} {j : Nat} {p : Pt} (h : l[j]? = some p) (hs : skipQ o q p) : upto o q l (j + 1) = upto o q l j := by
  rw [upto_succ h]
  have : learnQ o q p = p := by unfold learnQ; rw [if_pos hs]
  rw [this]
  have h2 := upto_at (o := o) (q := q) h
  obtain ⟨h3, h4⟩ := List.getElem?_eq_some_iff.1 h2
  conv => lhs; arg 3; rw [← h4]
  exact List.set_getElem_self h3
theorem upto_all (o : Ow) (q : Arc) (l : List Pt) : upto o q l l.length = l.map (learnQ o q) := by
  unfold upto
  rw [List.take_length, List.drop_length, List.append_nil]
theorem cutP_ne (l : List Pt) (x : Int) : cutP l x ≠ [] := by
  unfold cutP cutP0
  have hne : (if l = [] then [⟨0, -1, 0⟩] else l : List Pt) ≠ [] := by
    split
    · simp
    · assumption
  split
  · split
    · exact hne
    · simp
  · exact hne
theorem cuts2_ne (l : List Pt) (q : Arc) : cuts2 l q ≠ [] := by
  unfold cuts2
  split
  · exact cutP_ne _ _
  · exact cutP_ne _ _
theorem own_form2 {w : World} {base : Nat} {e : TypeId} {size n : Nat} {u : Value} {xs : List Value} (h : w.ownsRow base e size u n xs) (hn : 0 < n) : ∃ g cap, u = .slice (some ⟨g, 0, none⟩) n cap := by
  rcases h.2 with ⟨_, h0⟩ | ⟨g, cap, cur, rfl, _⟩
  · omega
  · exact ⟨g, cap, rfl⟩

set_option maxRecDepth 100000 in
set_option maxHeartbeats 16000000 in
theorem learn_any {w : World} {v : Nat} {l : List Pt} {B : List Nat} (h : ViewAt w v l B) (o : Ow) (ho1 : 0 ≤ o.ep) (ho2 : 0 ≤ o.node) (ho3 : o.node ≤ 255) (hl : l.length ≤ 80000) :
    Calls Tryz.prog 79 #[.pointer (some ⟨v, 0, none⟩), .agg #[.int .u64 o.f, .int .u64 o.t, .int .i64 o.node, .int .i64 o.ep]] w fun e w' => (∃ b, e = .returned (.bool b)) ∧ ∃ B', ViewAt w' v (learnP l o) B' ∧ Turn B w w' B' := by
  have HV0 := Lib.hid h
  have n1 : ¬ o.ep < 0 := by omega
  have n2 : ¬ o.node < 0 := by omega
  have n3 : ¬ 255 < o.node := by omega
  have HLP : Hid (learnP l o = (vpieces o.arc).foldl (learn1 o) l) := Lib.hid (by unfold learnP; rw [if_neg (by omega)])
  clear h
  go_enter Tryz.func79, Tryz.ntmps79
  go_wp2_with fail
  refine (vpieces_any o.arc _).mono ?_
  rintro e w1 ⟨pb, rfl, hp1, hp2, hp3⟩
  have hA := heap_alloc_new w (.cells #[.int .u64 o.f, .int .u64 o.t, .int .i64 o.node, .int .i64 o.ep] 128)
  have HA1 := Lib.hid ((hp3.block _ (by simp) (fun x => x)).trans hA)
  have hm1 : Mod NoB w w1 := ((Mod.refl NoB w).alloc _).trans hp3
  have HP1 : Hid (w.heap.size + 1 ≤ w1.heap.size) := Lib.hid (by have := hp3.size; simpa using this)
  have HPB : Hid (pb ∉ B) := Lib.hid (fun hb => by have := HV0.out.lt _ hb; simp at hp1; omega)
  have HAB : Hid (w.heap.size ∉ B) := Lib.hid (fun hb => by have := HV0.out.lt _ hb; omega)
  have HV1 := Lib.hid (HV0.out.mod hm1 (fun _ _ e => e))
  have HPS := Lib.hid hp2; have HM1 := Lib.hid hm1
  have hvl2 : (vpieces o.arc).length ≤ 2 := by unfold vpieces; split <;> (try split) <;> simp
  clear hp1 hp2 hp3 hA hm1
  go_wp2_with fail
  go_loopw [5, 31] (fun s5 s31 wr => ∃ (k : Nat) (b : Bool) (B' : List Nat), k ≤ (vpieces o.arc).length ∧ s31 = .int .i64 k ∧ s5 = .bool b ∧ ViewAt wr v (((vpieces o.arc).take k).foldl (learn1 o) l) B' ∧ (((vpieces o.arc).take k).foldl (learn1 o) l).length ≤ 80000 + 4 * k ∧ Turn B w1 wr B') (fun _ s31 _ => (vpieces o.arc).length - (intOf s31).toNat)
  case atStart => exact ⟨0, _, B, Nat.zero_le _, rfl, rfl, by simpa using HV1.out, by simpa using hl, Turn.refl _ _⟩
  case round =>
    obtain ⟨k, b0, B', hk, rfl, rfl, hv', hlen', ht'⟩ := hrel
    obtain ⟨Wo, rfl⟩ : ∃ Wo : World, Wo = wr := ⟨_, rfl⟩
    by_cases hlt : k < (vpieces o.arc).length
    · have he : (vpieces o.arc)[k]? = some (vpieces o.arc)[k] := List.getElem?_eq_getElem hlt
      obtain ⟨qb, qo, qc, hqv, hqb, r0, r1⟩ := at2a (slAt_modS HPS.out ht'.1 HPB.out) he
      have hstep : ((vpieces o.arc).take (k + 1)).foldl (learn1 o) l = learn1 o (((vpieces o.arc).take k).foldl (learn1 o) l) (vpieces o.arc)[k] := by
        rw [List.take_add_one, he, List.foldl_append]
        rfl
      have HSTEP := Lib.hid hstep
      simp only [Value.slice.injEq, Option.some.injEq, Addr.mk.injEq] at hqv
      obtain ⟨⟨rfl, rfl, _⟩, _, rfl⟩ := hqv
      simp only [Nat.zero_add] at r0 r1
      generalize (vpieces o.arc)[k] = q at *
      obtain ⟨L, hL⟩ : ∃ L, L = ((vpieces o.arc).take k).foldl (learn1 o) l := ⟨_, rfl⟩
      rw [← hL] at HSTEP hv' hlen'
      have HLL : Hid (L.length ≤ 80008) := Lib.hid (by omega)
      have HLK := Lib.hid hlen'
      have HVR := Lib.hid hv'; have HTR := Lib.hid ht'
      have HAR := Lib.hid ((ht'.1.block w.heap.size (by have := HP1.out; omega) HAB.out).trans HA1.out)
      clear he hstep hv' ht' hL hlen'
      go_wp2_with fail
      have hm2 : Mod NoB Wo (Wo.alloc (.cells #[.int .u64 q.f, .int .u64 q.t] 208)) := (Mod.refl _ _).alloc _
      refine (vcut_any (HVR.out.mod hm2 (fun _ _ e => e)) q.f (by have := HLL.out; omega)).mono ?_
      rintro e w3 ⟨⟨r3, rfl⟩, B3, hv3, ht3⟩
      have bq3 := (ht3.1.block Wo.heap.size (by simp) (fun h => by have := HVR.out.lt _ h; omega)).trans (heap_alloc_new Wo (.cells #[.int .u64 q.f, .int .u64 q.t] 208))
      have s0 := cell_of bq3 0 (v := .int .u64 q.f) rfl
      have s1 := cell_of bq3 1 (v := .int .u64 q.t) rfl
      have HV3 := Lib.hid hv3; have HT3 := Lib.hid ht3
      clear hv3 ht3 bq3 hm2
      go_upto_if 41 with fail
      go_cut [31] from 31 to 104 (fun s31 wx => s31 = .int .i64 k ∧ ∃ B4, ViewAt wx v (cuts2 L q) B4 ∧ Turn B' (Wo.alloc (.cells #[.int .u64 q.f, .int .u64 q.t] 208)) wx B4)
      case first =>
        by_cases hq : 0 < q.t
        · go_wp2_with fail
          refine (vcut_any HV3.out q.t (by have := HLL.out; have := cutP_len L q.f; omega)).mono ?_
          rintro e WW ⟨⟨r4, rfl⟩, B4, hv4, ht4⟩
          have HVW : Hid (ViewAt WW v (cuts2 L q) B4) := Lib.hid (by unfold cuts2; rw [if_pos hq]; exact hv4)
          have HTW := Lib.hid (HT3.out.trans ht4)
          clear hv4 ht4
          go_wp2_with fail
          go_meet
          exact ⟨rfl, B4, HVW.out, HTW.out⟩
        · have HVW : Hid (ViewAt w3 v (cuts2 L q) B3) := Lib.hid (by unfold cuts2; rw [if_neg hq]; exact HV3.out)
          go_wp2_with fail
          go_meet
          exact ⟨rfl, B3, HVW.out, HT3.out⟩
      case rest =>
        obtain ⟨rfl, B4, hvw, htw⟩ := hcut
        obtain ⟨WW, rfl⟩ : ∃ WW : World, WW = wc := ⟨_, rfl⟩
        have HVW := Lib.hid hvw; have HTW := Lib.hid htw
        clear hvw htw s0 s1
        obtain ⟨u, g1, g2, gB, g4⟩ := HVW.out
        have hne := cuts2_ne L q
        obtain ⟨g, cap, hu⟩ := own_form2 g2 (List.length_pos_iff.2 hne)
        subst hu
        have hgB : g ∈ B4 := by rw [gB]; simp [ownL, Value.ownBlock]
        have HGB := Lib.hid hgB
        have hvg : v ≠ g := fun e => g4 (by simp [ownL, Value.ownBlock, e])
        have hqg : Wo.heap.size ≠ g := fun e => by
          rcases HTW.out.2 _ hgB with h | h
          · have := HVR.out.lt _ h; omega
          · simp at h; omega
        have hag : w.heap.size ≠ g := fun e => by
          rcases HTW.out.2 _ hgB with h | h
          · rcases HTR.out.2 _ h with h | h
            · have := HV0.out.lt _ h; omega
            · have := HP1.out; omega
          · have := HTR.out.1.size; have := HP1.out; simp at h; omega
        have bq := (HTW.out.1.block Wo.heap.size (by simp) (fun h => by have := HVR.out.lt _ h; omega)).trans (heap_alloc_new Wo (.cells #[.int .u64 q.f, .int .u64 q.t] 208))
        have BQ := Lib.hid bq
        have ba := (HTW.out.1.block w.heap.size (by have := HTR.out.1.size; have := HP1.out; simp; omega) (fun h => (HTR.out.2 _ h).elim HAB.out (fun h => by have := HP1.out; omega))).trans ((Below.heap_alloc Wo _ _ (by have := HTR.out.1.size; have := HP1.out; omega)).trans HAR.out)
        have BA := Lib.hid ba
        have BVV := Lib.hid g1
        have GROW := Lib.hid g2; have GB := Lib.hid gB; have G4 := Lib.hid g4
        have hCl : (cuts2 L q).length ≤ 90000 := by
          have := HLL.out
          unfold cuts2
          have h1 := cutP_len L q.f
          have h2 := cutP_len (cutP L q.f) q.t
          split <;> omega
        generalize hC : cuts2 L q = C at *
        have HC := Lib.hid hC
        have d0 := cell_of g1 0 (v := .slice (some ⟨g, 0, none⟩) C.length cap) rfl
        clear hC g1 g2 gB g4 bq ba hgB hne
        go_wp2_with fail
        go_loopw [5, 51] (fun s5 s51 wx => ∃ (j : Nat) (b : Bool), j ≤ C.length ∧ s51 = .int .i64 j ∧ s5 = .bool b ∧ RowPt wx (.slice (some ⟨g, 0, none⟩) C.length cap) C.length ((upto o q C j).flatMap encPt) ∧ Mod (· = g) WW wx) (fun _ s51 _ => C.length - (intOf s51).toNat)
        case atStart => exact ⟨0, _, Nat.zero_le _, rfl, rfl, by simpa [upto] using GROW.out, Mod.refl _ _⟩
        case round =>
          obtain ⟨j, b1, hj, rfl, rfl, hrow, hmx⟩ := hrel
          by_cases hjl : j < C.length
          · have hce : C[j]? = some C[j] := List.getElem?_eq_getElem hjl
            have hsl := own_slAt (k := 3) (enc := encPt) (l := upto o q C j) (fun _ => rfl) (by rw [upto_len]; exact hrow)
            obtain ⟨gb, go', gc, hgv, hgb2, y0, y1, y2⟩ := at3 hsl (upto_at (o := o) (q := q) hce)
            rw [upto_len] at hgv
            simp only [Value.slice.injEq, Option.some.injEq, Addr.mk.injEq] at hgv
            obtain ⟨⟨rfl, rfl, _⟩, _, rfl⟩ := hgv
            simp only [Nat.zero_add] at y0 y1 y2
            have hua := upto_at (o := o) (q := q) hce
            have hsame := fun hs => upto_same (o := o) (q := q) hce hs
            have hsucc := upto_succ (o := o) (q := q) hce
            have hul := upto_len o q C j
            generalize C[j] = p at *
            have hbq := (hmx.block Wo.heap.size (Array.getElem?_eq_some_iff.1 BQ.out).1 hqg).trans BQ.out
            have hba := (hmx.block w.heap.size (Array.getElem?_eq_some_iff.1 BA.out).1 hag).trans BA.out
            have hbv := (hmx.block v (Array.getElem?_eq_some_iff.1 BVV.out).1 hvg).trans BVV.out
            have s0 := cell_of hbq 0 (v := .int .u64 q.f) rfl
            have s1 := cell_of hbq 1 (v := .int .u64 q.t) rfl
            have x2 := cell_of hba 2 (v := .int .i64 o.node) rfl
            have x3 := cell_of hba 3 (v := .int .i64 o.ep) rfl
            have dv := cell_of hbv 0 (v := .slice (some ⟨g, 0, none⟩) C.length cap) rfl
            have hvx : v < wr.heap.size := (Array.getElem?_eq_some_iff.1 hbv).1
            have hax : w.heap.size < wr.heap.size := (Array.getElem?_eq_some_iff.1 hba).1
            have hqx : Wo.heap.size < wr.heap.size := (Array.getElem?_eq_some_iff.1 hbq).1
            have HROW := Lib.hid hrow; have HMX := Lib.hid hmx; have HSAME := Lib.hid hsame; have HSUCC := Lib.hid hsucc; have HUA := Lib.hid hua; have HUL := Lib.hid hul
            obtain ⟨gcs, hgcs⟩ : ∃ gcs, wr.heap[g]? = some (.cells gcs 211 (0, 0)) := by
              rcases hrow.2 with ⟨hn, _⟩ | ⟨g', cap', cur, hn, _, hc, _⟩
              · cases hn
              · simp only [Value.slice.injEq, Option.some.injEq, Addr.mk.injEq] at hn
                obtain ⟨⟨rfl, _⟩, _, _⟩ := hn
                exact ⟨_, hc⟩
            have hgx : g < wr.heap.size := (Array.getElem?_eq_some_iff.1 hgcs).1
            have f1 := frozen_of hgcs (j * 3 + 1); have f2 := frozen_of hgcs (j * 3 + 2)
            clear hrow hmx hsame hsucc hua hul hsl hce hbq hba hbv hgcs
            rcases (by omega : p.f < q.f ∨ (¬ p.f < q.f ∧ 0 < q.t ∧ q.t ≤ p.f) ∨ (¬ p.f < q.f ∧ 0 < q.t ∧ ¬ q.t ≤ p.f ∧ 0 ≤ p.n ∧ o.ep ≤ p.e) ∨ (¬ p.f < q.f ∧ ¬ 0 < q.t ∧ 0 ≤ p.n ∧ o.ep ≤ p.e) ∨ (¬ p.f < q.f ∧ 0 < q.t ∧ ¬ q.t ≤ p.f ∧ ¬ 0 ≤ p.n) ∨ (¬ p.f < q.f ∧ 0 < q.t ∧ ¬ q.t ≤ p.f ∧ 0 ≤ p.n ∧ ¬ o.ep ≤ p.e) ∨ (¬ p.f < q.f ∧ ¬ 0 < q.t ∧ ¬ 0 ≤ p.n) ∨ (¬ p.f < q.f ∧ ¬ 0 < q.t ∧ 0 ≤ p.n ∧ ¬ o.ep ≤ p.e)) with z1 | ⟨z1, z0, z2⟩ | ⟨z1, z0, z2, z3, z4⟩ | ⟨z1, z0, z3, z4⟩ | ⟨z1, z0, z2, z3⟩ | ⟨z1, z0, z2, z3, z4⟩ | ⟨z1, z0, z3⟩ | ⟨z1, z0, z3, z4⟩
            · have HS : Hid (skipQ o q p) := Lib.hid (by unfold skipQ; omega)
              go_wp2_with fail
              exact ⟨⟨j + 1, b1, by omega, by go_num, rfl, by rw [HSAME.out HS.out]; exact own_mod' HROW.out ((Mod.refl NoB wr).alloc _) (fun _ _ x => x), HMX.out.then (((Mod.refl NoB wr).alloc _).mono (fun _ _ e => e.elim)) (fun _ _ e => e)⟩, by simp [intOf]; omega⟩
            · have HS : Hid (skipQ o q p) := Lib.hid (by unfold skipQ; omega)
              go_wp2_with fail
              exact ⟨⟨j + 1, b1, by omega, by go_num, rfl, by rw [HSAME.out HS.out]; exact own_mod' HROW.out ((Mod.refl NoB wr).alloc _) (fun _ _ x => x), HMX.out.then (((Mod.refl NoB wr).alloc _).mono (fun _ _ e => e.elim)) (fun _ _ e => e)⟩, by simp [intOf]; omega⟩
            · have HS : Hid (skipQ o q p) := Lib.hid (by unfold skipQ; omega)
              go_wp2_with fail
              exact ⟨⟨j + 1, b1, by omega, by go_num, rfl, by rw [HSAME.out HS.out]; exact own_mod' HROW.out ((Mod.refl NoB wr).alloc _) (fun _ _ x => x), HMX.out.then (((Mod.refl NoB wr).alloc _).mono (fun _ _ e => e.elim)) (fun _ _ e => e)⟩, by simp [intOf]; omega⟩
            · have HS : Hid (skipQ o q p) := Lib.hid (by unfold skipQ; omega)
              go_wp2_with fail
              exact ⟨⟨j + 1, b1, by omega, by go_num, rfl, by rw [HSAME.out HS.out]; exact own_mod' HROW.out ((Mod.refl NoB wr).alloc _) (fun _ _ x => x), HMX.out.then (((Mod.refl NoB wr).alloc _).mono (fun _ _ e => e.elim)) (fun _ _ e => e)⟩, by simp [intOf]; omega⟩
            all_goals
              have HNS : Hid (¬ skipQ o q p) := Lib.hid (by unfold skipQ; omega)
              go_wp2_with fail
              have KEEP : Hid (∀ W, Mod (· = g) wr W → (W.cell? ⟨v, 0, none⟩ = some (.slice (some ⟨g, 0, none⟩) C.length cap) ∧ W.cell? ⟨w.heap.size, 2, none⟩ = some (.int .i64 o.node) ∧ W.cell? ⟨w.heap.size, 3, none⟩ = some (.int .i64 o.ep))) := Lib.hid (fun W hm =>
                ⟨(hm.cell (p := ⟨v, 0, none⟩) hvx hvg).trans dv, (hm.cell (p := ⟨w.heap.size, 2, none⟩) hax hag).trans x2, (hm.cell (p := ⟨w.heap.size, 3, none⟩) hax hag).trans x3⟩)
              go_region_held3 (fun W => W.cell? ⟨v, 0, none⟩ = some (.slice (some ⟨g, 0, none⟩) C.length cap) ∧ W.cell? ⟨w.heap.size, 2, none⟩ = some (.int .i64 o.node) ∧ W.cell? ⟨w.heap.size, 3, none⟩ = some (.int .i64 o.ep)) (exact KEEP.out _ (by repeat (first | exact Mod.refl _ _ | refine Mod.alloc ?_ _ | refine Mod.drew ?_ | refine Mod.setCell (S := (· = g)) ?_ (p := ⟨g, _, none⟩) (fun _ => rfl) _))) ((first | fail))
              go_wp2_with fail
              have hr0 := HROW.out
              have hl3 : ((upto o q C j).flatMap encPt).length = C.length * 3 := hr0.1
              have hr1 := vrow_set hr0 (i := j * 3 + 1) (by omega) (.int .i64 o.node)
              have hr2 := vrow_set hr1 (i := j * 3 + 2) (by rw [List.length_set]; omega) (.int .i64 o.ep)
              have hms : Mod (· = g) wr ((wr.setCell ⟨g, j * 3 + 1, none⟩ (.int .i64 o.node)).setCell ⟨g, j * 3 + 2, none⟩ (.int .i64 o.ep)) := Mod.setCell (S := (· = g)) (Mod.setCell (S := (· = g)) (Mod.refl _ wr) (p := ⟨g, j * 3 + 1, none⟩) (fun _ => rfl) _) (p := ⟨g, j * 3 + 2, none⟩) (fun _ => rfl) _
              rw [vflat_set _ HUA.out] at hr2
              have hup : upto o q C (j + 1) = (upto o q C j).set j ⟨p.f, o.node, o.ep⟩ := by
                rw [HSUCC.out]
                unfold learnQ
                rw [if_neg HNS.out]
              exact ⟨⟨j + 1, true, by omega, by go_num, rfl, by rw [hup]; exact own_mod' hr2 (((Mod.refl NoB _).alloc _).drew) (fun _ _ x => x), HMX.out.trans ((hms.alloc _).drew)⟩, by simp [intOf]; omega⟩
          · obtain rfl : j = C.length := by omega
            have hbv := (hmx.block v (Array.getElem?_eq_some_iff.1 BVV.out).1 hvg).trans BVV.out
            have hall : upto o q C C.length = learn1 o L q := by unfold learn1; rw [HC.out, upto_all]
            have hlen1 : (learn1 o L q).length = C.length := by unfold learn1; rw [HC.out, List.length_map]
            have hlen2 := learn1_len o L q
            rw [hall] at hrow
            have HVE : Hid (ViewAt wr v (((vpieces o.arc).take (k + 1)).foldl (learn1 o) l) B4) := Lib.hid (by rw [HSTEP.out]; exact ⟨_, hbv, by rw [hlen1]; exact hrow, GB.out, G4.out⟩)
            have HTE : Hid (Turn B w1 wr B4) := Lib.hid (((HTR.out.quiet ((Mod.refl NoB Wo).alloc _)).trans HTW.out).trans ⟨hmx.mono (fun x _ e => by rw [e]; exact HGB.out), fun k hk => .inl hk⟩)
            have HLE : Hid ((((vpieces o.arc).take (k + 1)).foldl (learn1 o) l).length ≤ 80000 + 4 * (k + 1)) := Lib.hid (by rw [HSTEP.out]; have := HLK.out; omega)
            clear hrow hmx hbv hall hlen1 hlen2
            go_wp2_with fail
            exact ⟨⟨k + 1, b1, B4, by omega, by go_num, rfl, HVE.out, HLE.out, HTE.out⟩, by simp [intOf]; omega⟩
    · obtain rfl : k = (vpieces o.arc).length := by omega
      have HVE : Hid (ViewAt Wo v (learnP l o) B') := Lib.hid (by rw [HLP.out]; rw [List.take_length] at hv'; exact hv')
      have HTE : Hid (Turn B w Wo B') := Lib.hid (((Turn.refl B w).quiet HM1.out).trans ht')
      clear hv' ht' hlen'
      go_wp2_with fail
      go_ret
      exact ⟨⟨_, rfl⟩, B', HVE.out, HTE.out⟩
end Go.Proofs.YtpcmbnbdppembaaGreatDoor
