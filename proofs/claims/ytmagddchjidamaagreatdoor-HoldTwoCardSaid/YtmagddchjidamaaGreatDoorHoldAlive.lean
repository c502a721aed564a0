/- rosarylaw14.alive. -/
import Derived.Test.YtmagddchjidamaaGreatDoorHoldDo2
namespace Go.Proofs.YtmagddchjidamaaGreatDoor
set_option linter.unusedSimpArgs false
set_option linter.unusedVariables false
open Go.RowKit Go.Shelf

def keyA : ByteArray := ⟨#[97]⟩
def valA : ByteArray := ⟨#[49]⟩
def half : Int := 9223372036854775808
def stA0 : HSt := ⟨3, 9, 0, [], false, ⟨0, 0⟩, []⟩
def stA1 : HSt := ⟨3, 9, 0, [⟨0, 0, 3, 2⟩], false, ⟨0, 0⟩, []⟩
def stA2 : HSt := ⟨3, 9, 0, [⟨0, 0, 3, 2⟩], true, ⟨0, half⟩, []⟩
def stA3 : HSt := ⟨3, 9, 0, [⟨half, 0, 3, 2⟩], false, ⟨0, 0⟩, [⟨0, half, 7, 0⟩]⟩
def trA : Tree := .mk [(keyA, valA)] []

theorem addrA : addr keyA = 6989586621679009792 := by kernel_rfl
theorem mayA1 : stA0.may ⟨0, 0⟩ 2 = true := by decide
theorem mayA2 : stA1.may ⟨1, 2⟩ 3 = false := by decide
theorem ownA1 : ownSt stA0 ⟨0, 0⟩ 2 = stA1 := rfl
theorem atA1 : (stA1.at (addr keyA)).isSome = true := by rw [addrA]; decide
theorem atA2 : (stA2.at (addr keyA)).isSome = true := by rw [addrA]; decide
theorem shutA1 : (stA1.shut && inA stA1.a (addr keyA)) = false := rfl
theorem shutA2 : (stA2.shut && inA stA2.a (addr keyA)) = true := by rw [addrA]; decide
theorem arcA : arcIts ⟨0, half⟩ [(keyA, valA)] = [(keyA, valA)] := by
  have h : inP ⟨0, half⟩ (keyA, valA) = true := by unfold inP; rw [addrA]; decide
  have h2 : piecesA ⟨0, half⟩ = [⟨0, half⟩] := rfl
  simp [arcIts, h2, h]
theorem lostA : lostTo stA2.own (piecesA stA2.a) = [⟨half, 0, 3, 2⟩] := rfl
theorem atA3 : stA3.at (addr keyA) = none := by rw [addrA]; rfl
theorem whereA3 : wherN (stA3.whereP (addr keyA)) = 7 := by rw [addrA]; rfl

theorem putA (k v : ByteArray) (most : Int) (hm : 0 < most) (hk1 : 1 ≤ k.size) (hk2 : k.size ≤ 16) (hv : v.size ≤ 16) : PutOK none 0 most k v (some (.mk [(k, v)] [])) 1 := by
  intro w s L h _
  have hL : L = [s] := by unfold ShelfAt at h; exact h.2
  refine (sput_none h k v hk1 hk2 hv hm).mono ?_
  rintro e w' ⟨rfl, L', h1, h2, h3, h4⟩
  refine ⟨rfl, L', h1, h2, h3.mono (fun k _ e => by rw [hL, e]; simp), fun k hk => ?_⟩
  rcases h4 k hk with rfl | h
  · exact .inl (by rw [hL]; simp)
  · exact .inr h

theorem delA (x : Itm) : DelOK (some (.mk [x] [])) 1 x.1 none 0 := by
  intro w s most L h hnd
  refine (sdel_one h hnd).mono ?_
  rintro e w' ⟨rfl, h1, h2⟩
  refine ⟨⟨_, rfl⟩, [s], h1, by simp, h2, fun k hk => ?_⟩
  simp at hk
  subst hk
  unfold ShelfAt at h
  obtain ⟨b, Lt, _, _, rfl⟩ := h
  exact .inl (by simp)

theorem told_f0 (e v i m x n : Value) (W : World) : (Instr.field 37 (.agg #[e, v, i, m, x, n]) 0).run Tryz.prog W = .ok e W := by kernel_rfl
theorem told_f5 (e v i m x n : Value) (W : World) : (Instr.field 37 (.agg #[e, v, i, m, x, n]) 5).run Tryz.prog W = .ok n W := by kernel_rfl
theorem okA : (⟨0, half⟩ : Arc).ok := by unfold Arc.ok Pt64 half; decide
theorem takeA : (([(keyA, valA)] : List Itm).take 200) = [(keyA, valA)] := rfl

theorem cutA (w1 : World) (s : Nat) (L : List Nat) (hs : ShelfAt w1 s stA2.most (some trA) 1 L) (hn : L.Nodup) : Calls Tryz.prog 59 #[.pointer (some ⟨s, 0, none⟩), .agg #[.int .u64 stA2.a.f, .int .u64 stA2.a.t]] w1 fun e w2 =>
    (∃ v, e = .returned v) ∧ ∃ L', ShelfAt w2 s stA2.most none 0 L' ∧ L'.Nodup ∧ Turn L w1 w2 L' := by
  have h := cut_out (items_leaf [(keyA, valA)] (by decide)) (by decide) (a := stA2.a) okA hs hn (fun k => if k = 0 then (some trA, 1) else (none, 0)) rfl (by
    intro k x hx
    rw [show arcIts stA2.a [(keyA, valA)] = [(keyA, valA)] from arcA, takeA] at hx
    match k, hx with
    | 0, hx =>
      simp at hx
      subst hx
      exact delA _)
  rw [show arcIts stA2.a [(keyA, valA)] = [(keyA, valA)] from arcA, takeA] at h
  exact h

set_option maxRecDepth 100000 in
set_option maxHeartbeats 8000000 in
theorem alive_any (w : World) : Calls Tryz.prog 11 #[] w fun e w' => e = .returned (.bool true) ∧ Mod NoB w w' := by
  have hf0 := told_f0
  have hf5 := told_f5
  go_enter Tryz.func11, Tryz.ntmps11
  go_wp2_with fail
  refine (new_any 3 9 w (by decide) (by decide)).mono ?_
  rintro e w1 ⟨h, B1, rfl, hh1, hm1, hB1⟩
  have H1 := Lib.hid hh1
  have T1 := Lib.hid (show Mod NoB w w1 ∧ ∀ k ∈ B1, w.heap.size ≤ k from ⟨hm1, hB1⟩)
  clear hh1 hm1 hB1
  go_wp2_with fail
  refine (own_any (st := stA0) H1.out ⟨0, 0⟩ 2 (by decide)).mono ?_
  rintro e w2 ⟨rfl, B2, hh2, ht2⟩
  rw [mayA1] at hh2 ⊢
  rw [if_pos rfl, ownA1] at hh2
  have H2 := Lib.hid hh2; have T2 := Lib.hid ht2
  clear hh2 ht2
  go_wp2_with fail
  refine (own_any H2.out ⟨1, 2⟩ 3 (by decide)).mono ?_
  rintro e w3 ⟨rfl, B3, hh3, ht3⟩
  rw [mayA2] at hh3 ⊢
  rw [if_neg (by decide)] at hh3
  have H3 := Lib.hid hh3; have T3 := Lib.hid (T2.out.trans ht3)
  clear hh3 ht3
  go_wp2_with fail
  refine (do_put H3.out keyA valA ⟨#[]⟩ 0 (by decide) (by decide) atA1 shutA1 (by decide) (get_none keyA) (putA keyA valA _ (by decide) (by decide) (by decide) (by decide)) (by decide) (by decide) (by decide)).mono ?_
  rintro e w4 ⟨rfl, B4, hh4, ht4⟩
  have H4 := Lib.hid hh4; have T4 := Lib.hid (T3.out.trans ht4)
  clear hh4 ht4
  dsimp only [encTold]
  go_wp2_with fail
  refine (freeze_whole (st := stA1) H4.out (ep := 2) ⟨rfl, by decide⟩ rfl (a := ⟨0, half⟩) okA (xs := [(keyA, valA)]) (items_leaf _ (by decide)) (by decide)).mono ?_
  rintro e w5 ⟨v, rfl, hr5, hv5, hh5, ht5⟩
  rw [arcA] at hr5
  have H5 : Hid (HoldAt w5 h stA2 (some trA) 1 B4) := Lib.hid hh5
  have T5 := Lib.hid (T4.out.trans ht5)
  have hsl : ∃ a cap, v = .slice a 1 cap := by
    rcases hr5.2 with ⟨_, e⟩ | ⟨g, cap, cur, e, _⟩
    · simp at e
    · exact ⟨_, _, e⟩
  obtain ⟨va, vcap, rfl⟩ := hsl
  clear hr5 hv5 hh5 ht5
  go_wp2_with fail
  refine (do_busy H5.out 1 (by decide) (by decide) keyA ⟨#[]⟩ ⟨#[]⟩ 0 (by decide) (by decide) atA2 shutA2).mono ?_
  rintro e w6 ⟨rfl, hm6⟩
  have H6 := Lib.hid (H5.out.mod hm6 (fun _ _ x => x))
  have T6 := Lib.hid (T5.out.trans (Turn.trans (B := B4) ⟨hm6.mono (fun _ _ x => x.elim), fun _ hk => .inl hk⟩ (Turn.refl B4 w6)))
  clear hm6
  dsimp only [encTold]
  go_wp2_with fail
  refine (lose_any (H6.out.mod ((Mod.refl NoB w6).alloc _) (fun _ _ x => x)) rfl 7 (by decide) (by decide) cutA).mono ?_
  rintro e w7 ⟨rfl, B7, hh7, ht7⟩
  rw [lostA] at hh7
  have H7 : Hid (HoldAt w7 h stA3 none 0 B7) := Lib.hid hh7
  have T7 := Lib.hid (T6.out.trans (Turn.trans (B := B4) ⟨(Mod.refl _ _).alloc _, fun _ hk => .inl hk⟩ ht7))
  clear hh7 ht7
  go_wp2_with fail
  refine (do_else H7.out 1 (by decide) (by decide) keyA ⟨#[]⟩ ⟨#[]⟩ 0 (by decide) (by decide) atA3 (by decide)).mono ?_
  rintro e w8 ⟨rfl, hm8⟩
  rw [whereA3]
  have H8 := Lib.hid (H7.out.mod hm8 (fun _ _ x => x))
  have T8 := Lib.hid (T7.out.trans (Turn.trans (B := B7) ⟨hm8.mono (fun _ _ x => x.elim), fun _ hk => .inl hk⟩ (Turn.refl B7 w8)))
  clear hm8
  dsimp only [encTold]
  go_wp2_with fail
  refine (hlen_any H8.out).mono ?_
  rintro e w9 ⟨rfl, hww⟩
  rw [hww]
  clear hww
  go_wp2_with fail
  go_ret
  exact ⟨rfl, T1.out.1.then T8.out.1 (fun k hk hb => absurd (T1.out.2 k hb) (by omega))⟩
end Go.Proofs.YtmagddchjidamaaGreatDoor
