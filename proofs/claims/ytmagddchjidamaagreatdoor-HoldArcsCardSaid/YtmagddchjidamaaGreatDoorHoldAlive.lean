/- Put together out of: HoldEpoch, HoldTwoPlain, HoldAlive. -/
import Derived.Test.YtmagddchjidamaaGreatDoorHoldLose
import Derived.Test.YtmagddchjidamaaGreatDoorHoldAt
import Derived.Test.YtmagddchjidamaaGreatDoorHoldDo
/- (*hold.Hold).Epoch. -/
namespace Go.Proofs.YtmagddchjidamaaGreatDoor
set_option linter.unusedSimpArgs false
set_option linter.unusedVariables false
open Go.RowKit Go.Shelf

def epochTo (l : List Ow) : Int := l.foldl (fun m o => max m o.ep) 0

set_option maxRecDepth 100000 in
set_option maxHeartbeats 8000000 in
theorem epoch_any {w : World} {h : Nat} {st : HSt} {tr : Option Tree} {n : Nat} {B : List Nat} (hh : HoldAt w h st tr n B) (hlen : st.own.length ≤ 1000000) :
    Calls Tryz.prog 21 #[.pointer (some ⟨h, 0, none⟩)] w fun e w' => e = .returned (.int .i64 (epochTo st.own)) ∧ Mod NoB w w' := by
  obtain ⟨vo, vp, s, L, q1, q2, q3, q4, q5, q6⟩ := hh
  have c3 : w.cell? ⟨h, 3, none⟩ = some vo := cell_of q1 3 rfl
  have hvo := own_slAt (k := 4) (enc := encOw) (fun _ => rfl) q2
  have HVO := Lib.hid hvo
  obtain ⟨av, capv, hvs, _⟩ := hvo
  subst hvs
  obtain ⟨l, hl⟩ : ∃ l, l = st.own := ⟨_, rfl⟩
  rw [← hl] at hlen HVO c3 ⊢
  clear q1 q2 q3 q4 q5 q6 hl
  go_enter Tryz.func21, Tryz.ntmps21
  go_wp2_with fail
  go_loopw [3, 13] (fun e i wr => ∃ k : Nat, k ≤ l.length ∧ i = .int .i64 k ∧ e = .int .i64 (epochTo (l.take k)) ∧ Mod NoB w wr) (fun _ i _ => l.length - (intOf i).toNat)
  case atStart => exact ⟨0, Nat.zero_le _, rfl, rfl, Mod.refl _ _⟩
  case round =>
    obtain ⟨k, hk, rfl, rfl, hm⟩ := hrel
    have HM := Lib.hid hm
    obtain ⟨m, hm2⟩ : ∃ m, m = epochTo (l.take k) := ⟨_, rfl⟩
    rw [← hm2]
    have HE := Lib.hid hm2
    clear hm hm2
    by_cases hlt : k < l.length
    · have he : l[k]? = some l[k] := List.getElem?_eq_getElem hlt
      generalize l[k] = o at he
      obtain ⟨vb, vo, cap3, hv, hvlt, x0, x1, x2, x3⟩ := at4w HVO.out he
      simp only [Value.slice.injEq] at hv
      obtain ⟨rfl, _, rfl⟩ := hv
      have x0 := HM.out.cellS x0; have x1 := HM.out.cellS x1; have x2 := HM.out.cellS x2; have x3 := HM.out.cellS x3
      have HLT := Lib.hid hlt; have HE2 := Lib.hid he
      go_wp2_with fail
      go_roundw
      case rel =>
        refine ⟨k + 1, HLT.out, by go_num, ?_, HM.out.alloc _⟩
        rw [List.take_add_one, HE2.out]
        simp only [Option.toList_some, epochTo, List.foldl_append, List.foldl_cons, List.foldl_nil]
        rw [HE.out]
        rfl
      case measure => have := HLT.out; simp [intOf]; omega
    · obtain rfl : k = l.length := by omega
      rw [List.take_length] at HE
      go_wp2_with fail
      go_ret
      exact ⟨by rw [HE.out]; rfl, HM.out⟩
end Go.Proofs.YtmagddchjidamaaGreatDoor

/- What two arcs own, in plain Lean. -/
namespace Go.Proofs.YtmagddchjidamaaGreatDoor
set_option linter.unusedSimpArgs false
set_option linter.unusedVariables false

def st15 : HSt := ⟨1, 5, 0, [], false, ⟨0, 0⟩, []⟩

theorem piecesA_pos (a : Arc) : piecesA a ≠ [] := by
  unfold piecesA
  split <;> simp

theorem inA_pf {a : Arc} (ha : a.ok) {p : Arc} (hp : p ∈ piecesA a) : inA a p.f = true := by
  have h := piecesA_ok ha p hp
  have hx : Pt64 p.f := h.1.1
  rw [← pieces_in ha hx, List.any_eq_true]
  exact ⟨p, hp, by rw [hasP_iff]; exact ⟨Int.le_refl _, h.2⟩⟩

/-- what has an arc does not let it be owned anew -/
theorem may_self {st : HSt} {a : Arc} (ha : a.ok) {ep e1 : Int} (h : ∃ p ∈ piecesA a, ⟨p.f, p.t, st.node, e1⟩ ∈ st.own) : st.may a ep = false := by
  obtain ⟨p, hp, ho⟩ := h
  unfold HSt.may
  rw [Bool.and_eq_false_iff]
  refine .inr ?_
  rw [List.all_eq_false]
  refine ⟨_, ho, ?_⟩
  simp [apartA, Ow.arc, inA_pf ha hp]

theorem may_whole {st : HSt} {ep : Int} (h : st.own ≠ []) : st.may ⟨0, 0⟩ ep = false := by
  unfold HSt.may
  rw [Bool.and_eq_false_iff]
  refine .inr ?_
  rw [List.all_eq_false]
  obtain ⟨o, ho⟩ := List.exists_mem_of_ne_nil _ h
  refine ⟨o, ho, ?_⟩
  simp [apartA, inA]

theorem own_all {st : HSt} {a b : Arc} (ha : a.ok) (hb : b.ok) {ep e2 : Int} (he : 0 ≤ e2) (h0 : st.own = []) : (ownSt st a ep).may b e2 = apartA a b := by
  unfold HSt.may ownSt
  rw [h0, ← pieces_apart ha hb]
  simp [he, List.all_map, Function.comp_def, Ow.arc]

theorem at_own {st : HSt} {a : Arc} (ha : a.ok) {ep x : Int} (hx : Pt64 x) : ((ownSt st a ep).at x).isSome = ((st.at x).isSome || inA a x) := by
  unfold HSt.at ownSt
  rw [List.find?_append, ← pieces_in ha hx, Bool.eq_iff_iff]
  cases h : st.own.find? (fun o => hasP o.arc x) with
  | some o => simp
  | none =>
    simp only [Option.none_or, Option.isSome_none, Bool.false_or, List.find?_isSome, List.mem_map, List.any_eq_true]
    constructor
    · rintro ⟨_, ⟨p, hp, rfl⟩, h⟩
      exact ⟨p, hp, h⟩
    · rintro ⟨p, hp, h⟩
      exact ⟨_, ⟨p, hp, rfl⟩, h⟩

theorem epoch_own {st : HSt} {a : Arc} {ep : Int} : epochTo (ownSt st a ep).own = max (epochTo st.own) ep := by
  unfold epochTo ownSt
  rw [List.foldl_append]
  generalize List.foldl (fun m (o : Ow) => max m o.ep) 0 st.own = m
  unfold piecesA
  split
  · simp
  · simp

theorem may_none {st : HSt} {a : Arc} {ep : Int} (h : 0 ≤ ep) (h0 : st.own = []) : st.may a ep = true := by
  unfold HSt.may
  simp [h0, h]

theorem own_len {st : HSt} {a : Arc} {ep : Int} : (ownSt st a ep).own.length ≤ st.own.length + 2 := by
  unfold ownSt piecesA
  split <;> simp
end Go.Proofs.YtmagddchjidamaaGreatDoor

/- rosarylaw14.alive. -/
namespace Go.Proofs.YtmagddchjidamaaGreatDoor
set_option linter.unusedSimpArgs false
set_option linter.unusedVariables false
open Go.RowKit Go.Shelf

def keyA : ByteArray := ⟨#[97]⟩
def valA : ByteArray := ⟨#[49]⟩
def half : Int := 9223372036854775808
def stA0 : HSt := ⟨3, 9, 0, [], false, ⟨0, 0⟩, []⟩
def stA1 : HSt := ⟨3, 9, 0, [⟨0, 0, 3, 2⟩], false, ⟨0, 0⟩, []⟩
def stA2 : HSt := ⟨3, 9, 0, [⟨0, 0, 3, 2⟩], true, ⟨0, half⟩, []⟩
def stA3 : HSt := ⟨3, 9, 0, [⟨half, 0, 3, 2⟩], false, ⟨0, 0⟩, [⟨0, half, 7, 0⟩]⟩
def trA : Tree := .mk [(keyA, valA)] []

theorem addrA : addr keyA = 6989586621679009792 := by kernel_rfl
theorem mayA1 : stA0.may ⟨0, 0⟩ 2 = true := by decide
theorem mayA2 : stA1.may ⟨1, 2⟩ 3 = false := by decide
theorem ownA1 : ownSt stA0 ⟨0, 0⟩ 2 = stA1 := rfl
theorem atA1 : (stA1.at (addr keyA)).isSome = true := by rw [addrA]; decide
theorem atA2 : (stA2.at (addr keyA)).isSome = true := by rw [addrA]; decide
theorem shutA1 : (stA1.shut && inA stA1.a (addr keyA)) = false := rfl
theorem shutA2 : (stA2.shut && inA stA2.a (addr keyA)) = true := by rw [addrA]; decide
theorem arcA : arcIts ⟨0, half⟩ [(keyA, valA)] = [(keyA, valA)] := by
  have h : inP ⟨0, half⟩ (keyA, valA) = true := by unfold inP; rw [addrA]; decide
  have h2 : piecesA ⟨0, half⟩ = [⟨0, half⟩] := rfl
  simp [arcIts, h2, h]
theorem lostA : lostTo stA2.own (piecesA stA2.a) = [⟨half, 0, 3, 2⟩] := rfl
theorem atA3 : stA3.at (addr keyA) = none := by rw [addrA]; rfl
theorem whereA3 : wherN (stA3.whereP (addr keyA)) = 7 := by rw [addrA]; rfl

theorem putA (k v : ByteArray) (most : Int) (hm : 0 < most) (hk1 : 1 ≤ k.size) (hk2 : k.size ≤ 16) (hv : v.size ≤ 16) : PutOK none 0 most k v (some (.mk [(k, v)] [])) 1 := by
  intro w s L h _
  have hL : L = [s] := by unfold ShelfAt at h; exact h.2
  refine (sput_none h k v hk1 hk2 hv hm).mono ?_
  rintro e w' ⟨rfl, L', h1, h2, h3, h4⟩
  refine ⟨rfl, L', h1, h2, h3.mono (fun k _ e => by rw [hL, e]; simp), fun k hk => ?_⟩
  rcases h4 k hk with rfl | h
  · exact .inl (by rw [hL]; simp)
  · exact .inr h

theorem delA (x : Itm) : DelOK (some (.mk [x] [])) 1 x.1 none 0 := by
  intro w s most L h hnd
  refine (sdel_one h hnd).mono ?_
  rintro e w' ⟨rfl, h1, h2⟩
  refine ⟨⟨_, rfl⟩, [s], h1, by simp, h2, fun k hk => ?_⟩
  simp at hk
  subst hk
  unfold ShelfAt at h
  obtain ⟨b, Lt, _, _, rfl⟩ := h
  exact .inl (by simp)

theorem told_f0 (e v i m x n : Value) (W : World) : (Instr.field 37 (.agg #[e, v, i, m, x, n]) 0).run Tryz.prog W = .ok e W := by kernel_rfl
theorem told_f5 (e v i m x n : Value) (W : World) : (Instr.field 37 (.agg #[e, v, i, m, x, n]) 5).run Tryz.prog W = .ok n W := by kernel_rfl
theorem okA : (⟨0, half⟩ : Arc).ok := by unfold Arc.ok Pt64 half; decide
theorem takeA : (([(keyA, valA)] : List Itm).take 200) = [(keyA, valA)] := rfl

theorem cutA (w1 : World) (s : Nat) (L : List Nat) (hs : ShelfAt w1 s stA2.most (some trA) 1 L) (hn : L.Nodup) : Calls Tryz.prog 59 #[.pointer (some ⟨s, 0, none⟩), .agg #[.int .u64 stA2.a.f, .int .u64 stA2.a.t]] w1 fun e w2 =>
    (∃ v, e = .returned v) ∧ ∃ L', ShelfAt w2 s stA2.most none 0 L' ∧ L'.Nodup ∧ Turn L w1 w2 L' := by
  have h := cut_out (items_leaf [(keyA, valA)] (by decide)) (by decide) (a := stA2.a) okA hs hn (fun k => if k = 0 then (some trA, 1) else (none, 0)) rfl (by
    intro k x hx
    rw [show arcIts stA2.a [(keyA, valA)] = [(keyA, valA)] from arcA, takeA] at hx
    match k, hx with
    | 0, hx =>
      simp at hx
      subst hx
      exact delA _)
  rw [show arcIts stA2.a [(keyA, valA)] = [(keyA, valA)] from arcA, takeA] at h
  exact h

set_option maxRecDepth 100000 in
set_option maxHeartbeats 8000000 in
theorem alive_any (w : World) : Calls Tryz.prog 11 #[] w fun e w' => e = .returned (.bool true) ∧ Mod NoB w w' := by
  have hf0 := told_f0
  have hf5 := told_f5
  go_enter Tryz.func11, Tryz.ntmps11
  go_wp2_with fail
  refine (new_any 3 9 w (by decide) (by decide)).mono ?_
  rintro e w1 ⟨h, B1, rfl, hh1, hm1, hB1⟩
  have H1 := Lib.hid hh1
  have T1 := Lib.hid (show Mod NoB w w1 ∧ ∀ k ∈ B1, w.heap.size ≤ k from ⟨hm1, hB1⟩)
  clear hh1 hm1 hB1
  go_wp2_with fail
  refine (own_any (st := stA0) H1.out ⟨0, 0⟩ 2 (by decide)).mono ?_
  rintro e w2 ⟨rfl, B2, hh2, ht2⟩
  rw [mayA1] at hh2 ⊢
  rw [if_pos rfl, ownA1] at hh2
  have H2 := Lib.hid hh2; have T2 := Lib.hid ht2
  clear hh2 ht2
  go_wp2_with fail
  refine (own_any H2.out ⟨1, 2⟩ 3 (by decide)).mono ?_
  rintro e w3 ⟨rfl, B3, hh3, ht3⟩
  rw [mayA2] at hh3 ⊢
  rw [if_neg (by decide)] at hh3
  have H3 := Lib.hid hh3; have T3 := Lib.hid (T2.out.trans ht3)
  clear hh3 ht3
  go_wp2_with fail
  refine (do_put H3.out keyA valA ⟨#[]⟩ 0 (by decide) (by decide) atA1 shutA1 (by decide) (get_none keyA) (putA keyA valA _ (by decide) (by decide) (by decide) (by decide)) (by decide) (by decide) (by decide)).mono ?_
  rintro e w4 ⟨rfl, B4, hh4, ht4⟩
  have H4 := Lib.hid hh4; have T4 := Lib.hid (T3.out.trans ht4)
  clear hh4 ht4
  dsimp only [encTold]
  go_wp2_with fail
  refine (freeze_whole (st := stA1) H4.out (ep := 2) ⟨rfl, by decide⟩ rfl (a := ⟨0, half⟩) okA (xs := [(keyA, valA)]) (items_leaf _ (by decide)) (by decide)).mono ?_
  rintro e w5 ⟨v, rfl, hr5, hv5, hh5, ht5⟩
  rw [arcA] at hr5
  have H5 : Hid (HoldAt w5 h stA2 (some trA) 1 B4) := Lib.hid hh5
  have T5 := Lib.hid (T4.out.trans ht5)
  have hsl : ∃ a cap, v = .slice a 1 cap := by
    rcases hr5.2 with ⟨_, e⟩ | ⟨g, cap, cur, e, _⟩
    · simp at e
    · exact ⟨_, _, e⟩
  obtain ⟨va, vcap, rfl⟩ := hsl
  clear hr5 hv5 hh5 ht5
  go_wp2_with fail
  refine (do_busy H5.out 1 (by decide) (by decide) keyA ⟨#[]⟩ ⟨#[]⟩ 0 (by decide) (by decide) atA2 shutA2).mono ?_
  rintro e w6 ⟨rfl, hm6⟩
  have H6 := Lib.hid (H5.out.mod hm6 (fun _ _ x => x))
  have T6 := Lib.hid (T5.out.trans (Turn.trans (B := B4) ⟨hm6.mono (fun _ _ x => x.elim), fun _ hk => .inl hk⟩ (Turn.refl B4 w6)))
  clear hm6
  dsimp only [encTold]
  go_wp2_with fail
  refine (lose_any (H6.out.mod ((Mod.refl NoB w6).alloc _) (fun _ _ x => x)) rfl 7 (by decide) (by decide) cutA).mono ?_
  rintro e w7 ⟨rfl, B7, hh7, ht7⟩
  rw [lostA] at hh7
  have H7 : Hid (HoldAt w7 h stA3 none 0 B7) := Lib.hid hh7
  have T7 := Lib.hid (T6.out.trans (Turn.trans (B := B4) ⟨(Mod.refl _ _).alloc _, fun _ hk => .inl hk⟩ ht7))
  clear hh7 ht7
  go_wp2_with fail
  refine (do_else H7.out 1 (by decide) (by decide) keyA ⟨#[]⟩ ⟨#[]⟩ 0 (by decide) (by decide) atA3 (by decide)).mono ?_
  rintro e w8 ⟨rfl, hm8⟩
  rw [whereA3]
  have H8 := Lib.hid (H7.out.mod hm8 (fun _ _ x => x))
  have T8 := Lib.hid (T7.out.trans (Turn.trans (B := B7) ⟨hm8.mono (fun _ _ x => x.elim), fun _ hk => .inl hk⟩ (Turn.refl B7 w8)))
  clear hm8
  dsimp only [encTold]
  go_wp2_with fail
  refine (hlen_any H8.out).mono ?_
  rintro e w9 ⟨rfl, hww⟩
  rw [hww]
  clear hww
  go_wp2_with fail
  go_ret
  exact ⟨rfl, T1.out.1.then T8.out.1 (fun k hk hb => absurd (T1.out.2 k hb) (by omega))⟩
end Go.Proofs.YtmagddchjidamaaGreatDoor
