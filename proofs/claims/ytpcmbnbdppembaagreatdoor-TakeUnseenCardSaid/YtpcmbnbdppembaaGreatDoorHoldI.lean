/- Put together out of: HoldAny, HoldAny2, HoldI. -/
import Derived.Test.YtpcmbnbdppembaaGreatDoorShelfAny
import Derived.Test.YtpcmbnbdppembaaGreatDoorHoldDo
import Derived.Test.YtpcmbnbdppembaaGreatDoorSameIt
import Derived.Test.YtpcmbnbdppembaaGreatDoorEpoch
/- (*hold.Hold).put, hold.right, of every shelf and every key. -/
namespace Go.Proofs.YtpcmbnbdppembaaGreatDoor
set_option linter.unusedSimpArgs false
set_option linter.unusedVariables false
open Go.RowKit Go.Shelf

/-- a hold, with its items -/
def HoldI (w : World) (h : Nat) (st : HSt) (xs : List Itm) (B : List Nat) : Prop := ∃ tr n, HoldAt w h st tr n B ∧ ShOK tr xs n

theorem HoldI.mod {S : Nat → Prop} {w w' : World} {h : Nat} {st : HSt} {xs : List Itm} {B : List Nat} (hh : HoldI w h st xs B) (hm : Mod S w w') (hs : ∀ k ∈ B, ¬ S k) : HoldI w' h st xs B := by
  obtain ⟨tr, n, h1, h2⟩ := hh
  exact ⟨tr, n, h1.mod hm hs, h2⟩
theorem HoldI.lts {w : World} {h : Nat} {st : HSt} {xs : List Itm} {B : List Nat} (hh : HoldI w h st xs B) : ∀ k ∈ B, k < w.heap.size := by
  obtain ⟨tr, n, h1, h2⟩ := hh
  exact h1.lts

/-- what put of a right key gives -/
def hErr (st : HSt) (k v : ByteArray) (xs : List Itm) : Int :=
  if ¬ v.size ≤ 16 then 4 else if (getS k xs).isSome then 0 else if st.most ≤ xs.length + st.kept then 5 else 0
def hIts (st : HSt) (k v : ByteArray) (xs : List Itm) : List Itm :=
  if ¬ v.size ≤ 16 then xs else if (getS k xs).isSome then setS k v xs else if st.most ≤ xs.length + st.kept then xs else insS (k, v) xs

/-- what right tells of Get, Put and Del -/
def rErr (k : ByteArray) : Int := if 1 ≤ k.size ∧ k.size ≤ 16 then 0 else 3

theorem hright_any (op : Int) (h1 : 1 ≤ op) (h2 : op ≤ 3) (k v kt : ByteArray) (most : Int) (hk : k.size ≤ 1000000) (w : World) :
    Calls Tryz.prog 52 #[encAsk op k v kt most] w fun e w' => e = .returned (.int .i64 (rErr k)) ∧ Mod NoB w w' := by
  have n1 : ¬ op < 1 := by omega
  have n2 : ¬ 4 < op := by omega
  have n3 : ¬ op = 4 := by omega
  have n4 : ¬ op ≤ 0 := by omega
  have n5 : op ≤ 4 := by omega
  have n6 : 0 < op := by omega
  have hr := fun W => right_any k W (by omega)
  change ∀ W, Calls _ _ _ W (fun e w' => e = .returned (.int .i64 (rErr k)) ∧ w' = W) at hr
  have HR := Lib.hid hr
  clear hr
  go_enter Tryz.func52, Tryz.ntmps52
  go_wp2_with fail
  refine (HR.out _).mono ?_
  rintro e w1 ⟨rfl, hww⟩
  rw [hww]
  clear hww
  go_wp2_with fail
  go_ret
  exact ⟨rfl, (Mod.refl _ _).alloc _⟩

set_option maxRecDepth 100000 in
set_option maxHeartbeats 8000000 in
theorem hput_any {w : World} {h : Nat} {st : HSt} {xs : List Itm} {B : List Nat} (hh : HoldI w h st xs B) {k v : ByteArray} (hk1 : 1 ≤ k.size) (hk2 : k.size ≤ 16) (hv : v.size ≤ 1000000)
    (hn : xs.length ≤ 1000000) (hk : 0 ≤ st.kept ∧ st.kept ≤ 1000000) (hmost : st.most ≤ 1000000) :
    Calls Tryz.prog 56 #[.pointer (some ⟨h, 0, none⟩), .string k, .string v] w fun e w' => e = .returned (.int .i64 (hErr st k v xs)) ∧ ∃ B', HoldI w' h st (hIts st k v xs) B' ∧ Turn B w w' B' := by
  obtain ⟨tr, n, hh, ho⟩ := hh
  have hnx : n = xs.length := ho.1
  have HO := Lib.hid ho
  have HH := Lib.hid hh
  obtain ⟨vo, vp, s, L, q1, q2, q3, q4, rfl, q6⟩ := hh
  have c4 : w.cell? ⟨h, 4, none⟩ = some (.pointer (some ⟨s, 0, none⟩)) := cell_of q1 4 rfl
  have c1 : w.cell? ⟨h, 1, none⟩ = some (.int .i64 st.most) := cell_of q1 1 rfl
  have c2 : w.cell? ⟨h, 2, none⟩ = some (.int .i64 st.kept) := cell_of q1 2 rfl
  have hnd : L.Nodup := by
    simp only [List.nodup_cons, List.nodup_append] at q6
    exact q6.2.2.1
  have hkey : ¬ ¬ (1 ≤ k.size ∧ k.size ≤ 16) := fun e => e ⟨hk1, hk2⟩
  have Q1 := Lib.hid q1; have Q2 := Lib.hid q2; have Q3 := Lib.hid q3; have Q4 := Lib.hid q4; have Q6 := Lib.hid q6; have HND := Lib.hid hnd; have HX := Lib.hid hnx; have HKEY := Lib.hid hkey
  have hva := fun W => value_any v W (by omega)
  have hn0 : n ≤ 1000000 := by omega
  clear q1 q2 q3 q4 q6 hnd hnx ho hn hkey
  obtain ⟨hk0, hk1⟩ := hk
  by_cases hvv : v.size ≤ 16
  case neg =>
    simp only [if_neg hvv] at hva
    have HV := Lib.hid hva
    have e1 : hErr st k v xs = 4 := by unfold hErr; rw [if_pos hvv]
    have e2 : hIts st k v xs = xs := by unfold hIts; rw [if_pos hvv]
    rw [e1, e2]
    clear hva e1 e2 hvv
    go_enter Tryz.func56, Tryz.ntmps56
    go_wp2_with fail
    refine (HV.out _).mono ?_
    rintro e w1 ⟨rfl, hww⟩
    rw [hww]
    clear hww
    go_wp2_with fail
    go_ret
    exact ⟨rfl, _, ⟨tr, n, HH.out, HO.out⟩, Turn.refl _ _⟩
  simp only [if_pos hvv] at hva
  have HV := Lib.hid hva
  have HVV := Lib.hid (show ¬ ¬ v.size ≤ 16 from fun e => e hvv)
  clear hva hvv
  go_enter Tryz.func56, Tryz.ntmps56
  go_wp2_with fail
  refine (HV.out _).mono ?_
  rintro e w1 ⟨rfl, hww⟩
  rw [hww]
  clear hww
  go_wp2_with fail
  refine (sget_any Q4.out HND.out HO.out k (by omega)).mono ?_
  rintro e w1 ⟨rfl, hm1⟩
  have d4 := hm1.cellS c4; have d1 := hm1.cellS c1; have d2 := hm1.cellS c2
  have HM1 := Lib.hid hm1
  have HS1 := Lib.hid (Q4.out.mod hm1 (fun _ _ x => x))
  clear hm1 c4 c1 c2
  cases hr : getS k xs with
  | some rv =>
    simp only [Option.getD_some, Option.isSome_some]
    have e1 : hErr st k v xs = 0 ∧ putErr st.most k v xs = 0 := by
      unfold hErr putErr
      rw [if_neg HVV.out, if_pos (by rw [hr]; rfl), if_neg HKEY.out, if_neg HVV.out, if_pos (by rw [hr]; rfl)]
      exact ⟨rfl, rfl⟩
    have e2 : hIts st k v xs = putIts st.most k v xs := by
      unfold hIts putIts
      rw [if_neg HVV.out, if_pos (by rw [hr]; rfl), if_neg HKEY.out, if_neg HVV.out, if_pos (by rw [hr]; rfl)]
    have E0 := Lib.hid e1.1; have E2 := Lib.hid e2
    have E1 := Lib.hid e1.2
    clear e1 e2 hr
    go_wp2_with fail
    go_quiet (fail)
    have e4 : (w1.drewN nq).cell? ⟨h, 4, none⟩ = some (.pointer (some ⟨s, 0, none⟩)) := d4
    go_wp2_with fail
    have hdm : Mod NoB w1 (w1.drewN nq) := (Mod.refl _ _).drewN _
    refine (sput_any (HS1.out.mod hdm (fun _ _ x => x)) HND.out HO.out k v (by omega) hv hmost).mono ?_
    rintro e w5 ⟨rfl, tr5, n5, L5, hs5, hn5, ht5, ho5⟩
    rw [E1.out]
    have hres := hold_shelf Q1.out Q2.out Q3.out Q4.out Q6.out (HM1.out.trans hdm) hs5 hn5 ht5
    obtain ⟨B5, hh5, ht5'⟩ := hres
    have HH5 := Lib.hid hh5; have HT5 := Lib.hid ht5'; have HO5 := Lib.hid ho5
    clear hs5 hn5 ht5 hh5 ht5' hdm ho5
    go_wp2_with fail
    go_ret
    exact ⟨by rw [E0.out]; rfl, B5, ⟨tr5, n5, HH5.out, by rw [E2.out]; exact HO5.out⟩, HT5.out⟩
  | none =>
    simp only [Option.getD_none, Option.isSome_none]
    have hg : ¬ (getS k xs).isSome = true := by rw [hr]; simp
    by_cases hroom : st.most ≤ (n : Int) + st.kept
    · have e1 : hErr st k v xs = 5 := by
        unfold hErr
        rw [if_neg HVV.out, if_neg hg, if_pos (by rw [← HX.out]; exact hroom)]
      have e2 : hIts st k v xs = xs := by
        unfold hIts
        rw [if_neg HVV.out, if_neg hg, if_pos (by rw [← HX.out]; exact hroom)]
      have E0 := Lib.hid e1; have E2 := Lib.hid e2
      clear e1 e2 hr hg
      go_wp2_with fail
      go_quiet ((go_at_call 75; refine Calls.quiet_of_same ((slen_any (HS1.out.mod (S := NoB) ((Mod.refl _ _).drewN _) (fun _ _ x => x))).mono (by rintro e w5 ⟨rfl, rfl⟩; exact ⟨rfl, rfl⟩))))
      go_wp2_with fail
      go_ret
      have hm : Mod NoB w (w1.drewN nq) := HM1.out.drewN _
      exact ⟨by rw [E0.out]; rfl, _, ⟨tr, n, HH.out.mod hm (fun _ _ x => x), by rw [E2.out]; exact HO.out⟩, Turn.of_no hm⟩
    · have e1 : hErr st k v xs = 0 ∧ putErr st.most k v xs = 0 := by
        unfold hErr putErr
        rw [if_neg HVV.out, if_neg hg, if_neg (by rw [← HX.out]; exact hroom), if_neg HKEY.out, if_neg HVV.out, if_neg hg, if_neg (by rw [← HX.out]; omega)]
        exact ⟨rfl, rfl⟩
      have e2 : hIts st k v xs = putIts st.most k v xs := by
        unfold hIts putIts
        rw [if_neg HVV.out, if_neg hg, if_neg (by rw [← HX.out]; exact hroom), if_neg HKEY.out, if_neg HVV.out, if_neg hg, if_neg (by rw [← HX.out]; omega)]
      have E0 := Lib.hid e1.1; have E2 := Lib.hid e2
      have E1 := Lib.hid e1.2
      clear e1 e2 hr hg
      go_wp2_with fail
      go_quiet ((go_at_call 75; refine Calls.quiet_of_same ((slen_any (HS1.out.mod (S := NoB) ((Mod.refl _ _).drewN _) (fun _ _ x => x))).mono (by rintro e w5 ⟨rfl, rfl⟩; exact ⟨rfl, rfl⟩))))
      have e4 : (w1.drewN nq).cell? ⟨h, 4, none⟩ = some (.pointer (some ⟨s, 0, none⟩)) := d4
      go_wp2_with fail
      have hdm : Mod NoB w1 (w1.drewN nq) := (Mod.refl _ _).drewN _
      refine (sput_any (HS1.out.mod hdm (fun _ _ x => x)) HND.out HO.out k v (by omega) hv hmost).mono ?_
      rintro e w5 ⟨rfl, tr5, n5, L5, hs5, hn5, ht5, ho5⟩
      rw [E1.out]
      have hres := hold_shelf Q1.out Q2.out Q3.out Q4.out Q6.out (HM1.out.trans hdm) hs5 hn5 ht5
      obtain ⟨B5, hh5, ht5'⟩ := hres
      have HH5 := Lib.hid hh5; have HT5 := Lib.hid ht5'; have HO5 := Lib.hid ho5
      clear hs5 hn5 ht5 hh5 ht5' hdm ho5
      go_wp2_with fail
      go_ret
      exact ⟨by rw [E0.out]; rfl, B5, ⟨tr5, n5, HH5.out, by rw [E2.out]; exact HO5.out⟩, HT5.out⟩
end Go.Proofs.YtpcmbnbdppembaaGreatDoor

/- (*hold.Hold).Do: Put and Get of every hold. -/
namespace Go.Proofs.YtpcmbnbdppembaaGreatDoor
set_option linter.unusedSimpArgs false
set_option linter.unusedVariables false
open Go.RowKit Go.Shelf

/-- what Put tells, and what is there then -/
def pErr (st : HSt) (k v : ByteArray) (xs : List Itm) : Int :=
  if ¬ (1 ≤ k.size ∧ k.size ≤ 16) then 3 else if (st.at (addr k)).isSome = false then 8 else if (st.shut && inA st.a (addr k)) = true then 7 else hErr st k v xs
def pNode (st : HSt) (k : ByteArray) : Int :=
  if ¬ (1 ≤ k.size ∧ k.size ≤ 16) then 0 else if (st.at (addr k)).isSome = false then wherN (st.whereP (addr k)) else 0
def pIts (st : HSt) (k v : ByteArray) (xs : List Itm) : List Itm :=
  if ¬ (1 ≤ k.size ∧ k.size ≤ 16) then xs else if (st.at (addr k)).isSome = false then xs else if (st.shut && inA st.a (addr k)) = true then xs else hIts st k v xs

set_option maxRecDepth 100000 in
set_option maxHeartbeats 8000000 in
theorem do_bad {w : World} {h : Nat} {st : HSt} {xs : List Itm} {B : List Nat} (hh : HoldI w h st xs B) (op : Int) (h1 : 1 ≤ op) (h2 : op ≤ 3) (k v kt : ByteArray) (most : Int) (hk : k.size ≤ 1000000) (hb : ¬ (1 ≤ k.size ∧ k.size ≤ 16)) :
    Calls Tryz.prog 16 #[.pointer (some ⟨h, 0, none⟩), encAsk op k v kt most] w fun e w' => e = .returned (encTold 3 ⟨#[]⟩ 0) ∧ Mod NoB w w' := by
  have HH := Lib.hid hh
  have hr := fun W => hright_any op h1 h2 k v kt most hk W
  unfold rErr at hr
  simp only [if_neg hb] at hr
  have HR := Lib.hid hr
  clear hh hr hb
  go_enter Tryz.func16, Tryz.ntmps16
  go_wp2_with fail
  refine (HR.out _).mono ?_
  rintro e w1 ⟨rfl, hm1⟩
  obtain ⟨hd1, hm01⟩ := do_in hm1
  obtain ⟨b0, b1, b2, b3, b4, b5, g0, g1, g2, g3, g4, g5⟩ := hd1.told
  have HD1 := Lib.hid hd1; have HM1 := Lib.hid hm01
  clear hm1 hd1 hm01
  go_wp2_with fail
  refine bodyPost_ret (v := encTold 3 ⟨#[]⟩ 0) (by simp [results, Tryz.results16, go_sem, *]) rfl ⟨rfl, ?_⟩
  exact HM1.out.then (told_set w1 (w.heap.size + 1) _ _ _ _ _ _) (fun i hi e => by omega)

set_option maxRecDepth 100000 in
set_option maxHeartbeats 8000000 in
theorem do_put_in {w : World} {h : Nat} {st : HSt} {xs : List Itm} {B : List Nat} (hh : HoldI w h st xs B) (k v kt : ByteArray) (most : Int) (hk1 : 1 ≤ k.size) (hk2 : k.size ≤ 16)
    (hat : (st.at (addr k)).isSome = true) (hf : (st.shut && inA st.a (addr k)) = false) (hv : v.size ≤ 1000000)
    (hn : xs.length ≤ 1000000) (hk : 0 ≤ st.kept ∧ st.kept ≤ 1000000) (hmost : st.most ≤ 1000000) :
    Calls Tryz.prog 16 #[.pointer (some ⟨h, 0, none⟩), encAsk 2 k v kt most] w fun e w' => e = .returned (encTold (hErr st k v xs) ⟨#[]⟩ 0) ∧ ∃ B', HoldI w' h st (hIts st k v xs) B' ∧ Turn B w w' B' := by
  have HH := Lib.hid hh
  have HLT := Lib.hid hh.lts
  clear hh
  go_enter Tryz.func16, Tryz.ntmps16
  go_wp2_with fail
  refine (hright_ok 2 (by decide) (by decide) k v kt most hk1 hk2 _).mono ?_
  rintro e w1 ⟨rfl, hm1⟩
  obtain ⟨hd1, hm01⟩ := do_in hm1
  obtain ⟨a0, a1, a2, a3, a4⟩ := hd1.ask
  have HD1 := Lib.hid hd1; have HM1 := Lib.hid hm01
  clear hm1 hd1 hm01
  go_wp2_with fail
  refine (addr_any k _).mono ?_
  rintro e w2 ⟨rfl, hww⟩
  rw [hww]
  clear hww w2
  go_wp2_with fail
  obtain ⟨tr, n, hh0, ho0⟩ := HH.out
  have HH0 := Lib.hid hh0
  clear hh0 ho0
  refine (hasH_any (HH0.out.mod HM1.out (fun _ _ x => x)) (addr k)).mono ?_
  rintro e w2 ⟨rfl, hm2⟩
  rw [hat]
  have HM2 := Lib.hid (HM1.out.trans hm2)
  have HD2 := Lib.hid (HD1.out.mod hm2 (fun x => x) (fun x => x))
  clear hm2 a0 a1 a2 a3 a4
  go_wp2_with fail
  refine (frozen_any (HH0.out.mod HM2.out (fun _ _ x => x)) (addr k)).mono ?_
  rintro e w3 ⟨rfl, hm3⟩
  rw [hf]
  have HM3 := Lib.hid (HM2.out.trans hm3)
  have hd3 := HD2.out.mod hm3 (fun x => x) (fun x => x)
  obtain ⟨a0, a1, a2, a3, a4⟩ := hd3.ask
  have HD3 := Lib.hid hd3
  clear hm3 hd3
  go_wp2_with fail
  refine (hput_any (HH.out.mod HM3.out (fun _ _ x => x)) hk1 hk2 hv hn hk hmost).mono ?_
  rintro e w4 ⟨rfl, B4, hh4, ht4⟩
  have hnb : w.heap.size ∉ B ∧ w.heap.size + 1 ∉ B := ⟨fun hb => by have := HLT.out _ hb; omega, fun hb => by have := HLT.out _ hb; omega⟩
  have hd4 := HD3.out.mod ht4.1 hnb.1 hnb.2
  have hlt4 : w.heap.size + 1 < w3.heap.size := (Array.getElem?_eq_some_iff.1 HD3.out.2).1
  have hnb4 : w.heap.size + 1 ∉ B4 := fun hb => by
    rcases ht4.2 _ hb with hb | hb
    · exact hnb.2 hb
    · omega
  obtain ⟨b0, b1, b2, b3, b4, b5, g0, g1, g2, g3, g4, g5⟩ := hd4.told
  have HH4 := Lib.hid hh4; have HT4 := Lib.hid ht4; have HNB := Lib.hid hnb4
  clear hh4 ht4 hd4 hnb a0 a1 a2 a3 a4 hnb4 hlt4
  go_wp2_with fail
  have hm5 := told_set w4 (w.heap.size + 1) (.int .i64 (hErr st k v xs)) (.string ⟨#[]⟩) (.slice none 0 0) (.bool false) (.string ⟨#[]⟩) (.int .i64 0)
  refine bodyPost_ret (v := encTold (hErr st k v xs) ⟨#[]⟩ 0) (by simp [results, Tryz.results16, go_sem, *]) rfl ⟨rfl, B4, HH4.out.mod hm5 (fun g hg e => HNB.out (e ▸ hg)), ?_⟩
  have h1 : Turn B w w4 B4 := Turn.trans (B := B) ⟨HM3.out.mono (fun _ _ x => x.elim), fun _ hk => .inl hk⟩ HT4.out
  exact ⟨h1.1.then hm5 (fun i hi e => by omega), h1.2⟩

/-- Put, whatever comes of it -/
theorem do_put_any {w : World} {h : Nat} {st : HSt} {xs : List Itm} {B : List Nat} (hh : HoldI w h st xs B) (k v kt : ByteArray) (most : Int) (hks : k.size ≤ 1000000) (hv : v.size ≤ 1000000)
    (hn : xs.length ≤ 1000000) (hk : 0 ≤ st.kept ∧ st.kept ≤ 1000000) (hmost : st.most ≤ 1000000) (hlen : st.pts.length ≤ 1000000) :
    Calls Tryz.prog 16 #[.pointer (some ⟨h, 0, none⟩), encAsk 2 k v kt most] w fun e w' => e = .returned (encTold (pErr st k v xs) ⟨#[]⟩ (pNode st k)) ∧ ∃ B', HoldI w' h st (pIts st k v xs) B' ∧ Turn B w w' B' := by
  by_cases hb : 1 ≤ k.size ∧ k.size ≤ 16
  case neg =>
    refine (do_bad hh 2 (by decide) (by decide) k v kt most hks hb).mono ?_
    rintro e w' ⟨rfl, hm⟩
    unfold pErr pNode pIts
    rw [if_pos hb, if_pos hb, if_pos hb]
    exact ⟨rfl, B, hh.mod hm (fun _ _ x => x), Turn.of_no hm⟩
  have hbb : ¬ ¬ (1 ≤ k.size ∧ k.size ≤ 16) := fun e => e hb
  cases hat : (st.at (addr k)).isSome with
  | false =>
    obtain ⟨tr, n, h0, ho⟩ := hh
    refine (do_else h0 2 (by decide) (by decide) k v kt most hb.1 hb.2 (by simpa using hat) hlen).mono ?_
    rintro e w' ⟨rfl, hm⟩
    unfold pErr pNode pIts
    rw [if_neg hbb, if_neg hbb, if_neg hbb, if_pos hat, if_pos hat, if_pos hat]
    exact ⟨rfl, B, HoldI.mod ⟨tr, n, h0, ho⟩ hm (fun _ _ x => x), Turn.of_no hm⟩
  | true =>
    have hat2 : ¬ (st.at (addr k)).isSome = false := by rw [hat]; simp
    cases hf : (st.shut && inA st.a (addr k)) with
    | true =>
      obtain ⟨tr, n, h0, ho⟩ := hh
      refine (do_busy h0 2 (by decide) (by decide) k v kt most hb.1 hb.2 hat hf).mono ?_
      rintro e w' ⟨rfl, hm⟩
      unfold pErr pNode pIts
      rw [if_neg hbb, if_neg hbb, if_neg hbb, if_neg hat2, if_neg hat2, if_neg hat2, if_pos hf, if_pos hf]
      exact ⟨rfl, B, HoldI.mod ⟨tr, n, h0, ho⟩ hm (fun _ _ x => x), Turn.of_no hm⟩
    | false =>
      have hf2 : ¬ (st.shut && inA st.a (addr k)) = true := by rw [hf]; simp
      refine (do_put_in hh k v kt most hb.1 hb.2 hat hf hv hn hk hmost).mono ?_
      rintro e w' ⟨rfl, hm⟩
      unfold pErr pNode pIts
      rw [if_neg hbb, if_neg hbb, if_neg hbb, if_neg hat2, if_neg hat2, if_neg hat2, if_neg hf2, if_neg hf2]
      exact ⟨rfl, hm⟩

set_option maxRecDepth 100000 in
set_option maxHeartbeats 8000000 in
/-- Get of what is there and open -/
theorem do_get_in {w : World} {h : Nat} {st : HSt} {xs : List Itm} {B : List Nat} (hh : HoldI w h st xs B) (k v kt : ByteArray) (most : Int) (hk1 : 1 ≤ k.size) (hk2 : k.size ≤ 16)
    (hat : (st.at (addr k)).isSome = true) (hf : (st.shut && inA st.a (addr k)) = false) {val : ByteArray} (hg : getS k xs = some val) :
    Calls Tryz.prog 16 #[.pointer (some ⟨h, 0, none⟩), encAsk 1 k v kt most] w fun e w' => e = .returned (encTold 0 val 0) ∧ Mod NoB w w' := by
  obtain ⟨tr, n, hh, ho⟩ := hh
  have HH0 := Lib.hid hh
  have HO := Lib.hid ho
  obtain ⟨vo, vp, s, L, q1, q2, q3, q4, rfl, q6⟩ := hh
  have c4 : w.cell? ⟨h, 4, none⟩ = some (.pointer (some ⟨s, 0, none⟩)) := cell_of q1 4 rfl
  have hnd : L.Nodup := by
    simp only [List.nodup_cons, List.nodup_append] at q6
    exact q6.2.2.1
  have hget : ∀ W, Mod NoB w W → Calls Tryz.prog 58 #[.pointer (some ⟨s, 0, none⟩), .string k] W fun e w' => e = .returned (.tuple #[.string val, .bool true]) ∧ Mod NoB W w' := fun W hm => by
    have := sget_any (q4.mod hm (fun _ _ x => x)) hnd ho k (by omega)
    rw [hg] at this
    exact this
  have HGET := Lib.hid hget; have C4 := Lib.hid c4
  clear ho q1 q2 q3 q4 q6 hnd hg c4 hget
  go_enter Tryz.func16, Tryz.ntmps16
  go_wp2_with fail
  refine (hright_ok 1 (by decide) (by decide) k v kt most hk1 hk2 _).mono ?_
  rintro e w1 ⟨rfl, hm1⟩
  obtain ⟨hd1, hm01⟩ := do_in hm1
  obtain ⟨a0, a1, a2, a3, a4⟩ := hd1.ask
  have HD1 := Lib.hid hd1; have HM1 := Lib.hid hm01
  clear hm1 hd1 hm01
  go_wp2_with fail
  refine (addr_any k _).mono ?_
  rintro e w2 ⟨rfl, hww⟩
  rw [hww]
  clear hww w2
  go_wp2_with fail
  refine (hasH_any (HH0.out.mod HM1.out (fun _ _ x => x)) (addr k)).mono ?_
  rintro e w2 ⟨rfl, hm2⟩
  rw [hat]
  have HM2 := Lib.hid (HM1.out.trans hm2)
  have HD2 := Lib.hid (HD1.out.mod hm2 (fun x => x) (fun x => x))
  clear hm2 a0 a1 a2 a3 a4
  go_wp2_with fail
  refine (frozen_any (HH0.out.mod HM2.out (fun _ _ x => x)) (addr k)).mono ?_
  rintro e w3 ⟨rfl, hm3⟩
  rw [hf]
  have HM3 := Lib.hid (HM2.out.trans hm3)
  have hd3 := HD2.out.mod hm3 (fun x => x) (fun x => x)
  obtain ⟨a0, a1, a2, a3, a4⟩ := hd3.ask
  have HD3 := Lib.hid hd3
  have c4' := HM3.out.cellS C4.out
  clear hm3 hd3
  go_wp2_with fail
  go_cut [9, 10] (fun sa sb wx => sa = .string val ∧ sb = .bool true ∧ Mod NoB w3 wx)
  case first =>
    have hrep := HGET.out
    go_region_law ((go_simp; go_at_call 58; go_loud (refine (HGET.out _ (HM3.out.trans (by repeat (first | exact Mod.refl _ _ | refine Mod.alloc ?_ _ | refine Mod.drew ?_)))).mono ?_; rintro e w4 ⟨rfl, hm4⟩; have M4 := Lib.hid (Mod.trans (S := NoB) (a := w3) (by repeat (first | exact Mod.refl _ _ | refine Mod.alloc ?_ _ | refine Mod.drew ?_)) hm4); have a1' := M4.out.cellS a1; clear hm4)))
    all_goals
      go_wp2_with fail
      go_meet
      exact ⟨rfl, rfl, M4.out.trans (by repeat (first | exact Mod.refl _ _ | refine Mod.alloc ?_ _ | refine Mod.drew ?_))⟩
  case rest =>
    obtain ⟨rfl, rfl, hm4⟩ := hcut
    obtain ⟨W4, rfl⟩ : ∃ W4 : World, W4 = wc := ⟨_, rfl⟩
    have HM4 := Lib.hid (HM3.out.trans hm4)
    have hd4 := HD3.out.mod hm4 (fun x => x) (fun x => x)
    obtain ⟨b0, b1, b2, b3, b4, b5, g0, g1, g2, g3, g4, g5⟩ := hd4.told
    obtain ⟨y0, y1, y2, y3, y4⟩ := hd4.ask
    clear hm4 hd4 a0 a1 a2 a3 a4 c4'
    go_wp2_with fail
    refine bodyPost_ret (v := encTold 0 val 0) (by simp [results, Tryz.results16, go_sem, *]) rfl ⟨rfl, ?_⟩
    exact HM4.out.then (told_set W4 (w.heap.size + 1) _ _ _ _ _ _) (fun i hi e => by omega)

/-- Items -/
theorem hitems_any {w : World} {h : Nat} {st : HSt} {xs : List Itm} {B : List Nat} (hh : HoldI w h st xs B) (hl : xs.length ≤ 100000) :
    Calls Tryz.prog 20 #[.pointer (some ⟨h, 0, none⟩)] w fun e w' => ∃ v, e = .returned v ∧ w'.ownsRow 0 73 2 v xs.length (xs.flatMap encIt) ∧ Mod NoB w w' ∧ ∀ g ∈ ownL v, w.heap.size ≤ g := by
  obtain ⟨tr, n, hh, ho⟩ := hh
  obtain ⟨s, L, c4, hs, _⟩ := hh.shelf
  have hI := ho.items hl w s st.most n L hs
  have HI := Lib.hid hI
  clear hh hs hI
  go_enter Tryz.func20, Tryz.ntmps20
  go_wp2_with fail
  refine HI.out.mono ?_
  rintro e w1 ⟨v, rfl, r1, r2, r3⟩
  have R1 := Lib.hid r1; have R2 := Lib.hid r2; have R3 := Lib.hid r3
  clear r1 r2 r3
  go_wp2_with fail
  go_ret
  exact ⟨v, rfl, R1.out, R2.out, R3.out⟩

theorem hthaw_any {w : World} {h : Nat} {st : HSt} {xs : List Itm} {B : List Nat} (hh : HoldI w h st xs B) (hs : st.shut = true) :
    Calls Tryz.prog 61 #[.pointer (some ⟨h, 0, none⟩)] w fun e w' => (∃ v, e = .returned v) ∧ HoldI w' h { st with shut := false, a := ⟨0, 0⟩ } xs B ∧ Turn B w w' B := by
  obtain ⟨tr, n, hh, ho⟩ := hh
  have HH := Lib.hid hh; have HO := Lib.hid ho
  clear hh ho
  go_enter Tryz.func61, Tryz.ntmps61
  go_wp2_with fail
  refine (gthaw_yes HH.out hs).mono ?_
  rintro e w1 ⟨rfl, h1, h2⟩
  have H1 := Lib.hid h1; have H2 := Lib.hid h2
  clear h1 h2
  go_wp2_with fail
  refine bodyPost_end (results_none rfl _ _ _) rfl ⟨⟨_, rfl⟩, ⟨tr, n, H1.out, HO.out⟩, H2.out⟩
end Go.Proofs.YtpcmbnbdppembaaGreatDoor

/- A hold that is new since a world, with its items: the calls of it; what Put and Get tell, in plain Lean. -/
namespace Go.Proofs.YtpcmbnbdppembaaGreatDoor
set_option linter.unusedSimpArgs false
set_option linter.unusedVariables false
open Go.RowKit Go.Shelf

/-- a hold all of whose blocks are new since w -/
def NewI (w W : World) (h : Nat) (st : HSt) (xs : List Itm) (B : List Nat) : Prop := HoldI W h st xs B ∧ Mod NoB w W ∧ ∀ k ∈ B, w.heap.size ≤ k

theorem NewI.quiet {w W W' : World} {h : Nat} {st : HSt} {xs : List Itm} {B : List Nat} (hh : NewI w W h st xs B) (hm : Mod NoB W W') : NewI w W' h st xs B :=
  ⟨hh.1.mod hm (fun _ _ x => x), hh.2.1.trans hm, hh.2.2⟩
theorem NewI.turn {w W W' : World} {h : Nat} {st st' : HSt} {xs xs' : List Itm} {B B' : List Nat} (hh : NewI w W h st xs B) (h1 : HoldI W' h st' xs' B') (h2 : Turn B W W' B') : NewI w W' h st' xs' B' :=
  ⟨h1, hh.2.1.then h2.1 (fun k hk hb => absurd (hh.2.2 k hb) (by omega)), fun k hk => (h2.2 k hk).elim (hh.2.2 k) (fun x => Nat.le_trans hh.2.1.size x)⟩
theorem HoldI.rising {W : World} {h : Nat} {st : HSt} {xs : List Itm} {B : List Nat} (hh : HoldI W h st xs B) : Rising xs := by
  obtain ⟨tr, n, _, h1⟩ := hh
  exact h1.2.1
theorem HoldI.small {W : World} {h : Nat} {st : HSt} {xs : List Itm} {B : List Nat} (hh : HoldI W h st xs B) : ∀ x ∈ xs, x.1.size ≤ 16 := by
  obtain ⟨tr, n, _, h1⟩ := hh
  exact h1.2.2.1

/-- a row beside a hold -/
def Beside (W : World) (v : Value) (xs : List Itm) (B : List Nat) : Prop := RowIt W v xs.length (xs.flatMap encIt) ∧ ∀ g ∈ ownL v, g ∉ B
theorem Beside.turn {W W' : World} {v : Value} {xs : List Itm} {B B' : List Nat} (h : Beside W v xs B) (ht : Turn B W W' B') : Beside W' v xs B' :=
  ⟨own_mod' h.1 ht.1 h.2, fun g hg hb => (ht.2 g hb).elim (h.2 g hg) (fun hs => absurd (own_lt h.1 g hg) (by omega))⟩
theorem Beside.quiet {W W' : World} {v : Value} {xs : List Itm} {B : List Nat} (h : Beside W v xs B) (hm : Mod NoB W W') : Beside W' v xs B :=
  ⟨own_mod' h.1 hm (fun _ _ x => x), h.2⟩
theorem Beside.sl {W : World} {v : Value} {xs : List Itm} {B : List Nat} (h : Beside W v xs B) : SlAt 2 encIt W v xs := own_slAt (k := 2) (enc := encIt) (l := xs) (fun _ => rfl) h.1

/-! ### Plain: what Put tells -/
theorem getS_setS_self {k v : ByteArray} {l : List Itm} (h : (getS k l).isSome = true) : getS k (setS k v l) = some v := by
  induction l with
  | nil => simp [getS, SMap.get] at h
  | cons y l ih =>
    by_cases hy : y.1 = k
    · have : setS k v (y :: l) = (k, v) :: setS k v l := by simp [setS, hy]
      rw [this]
      exact getS_self
    · have e : setS k v (y :: l) = y :: setS k v l := by simp [setS, hy]
      have e1 : ∀ m : List Itm, getS k (y :: m) = getS k m := fun m => by simp [getS, SMap.get, List.find?_cons, hy]
      rw [e, e1]
      rw [e1] at h
      exact ih h

theorem whole_some {st : HSt} {ep : Int} (h : st.whole ep) (k : ByteArray) : (st.at (addr k)).isSome = true := by
  rw [HSt.whole_at h (by unfold addr; omega)]
  rfl

theorem hput_open {st : HSt} {xs : List Itm} {k v : ByteArray} (hv : v.size ≤ 16) (hroom : (xs.length : Int) + st.kept < st.most) : hErr st k v xs = 0 ∧ getS k (hIts st k v xs) = some v ∧ (Rising xs → (hIts st k v xs).length ≤ xs.length + 1) := by
  have hvv : ¬ ¬ v.size ≤ 16 := fun e => e hv
  unfold hErr hIts
  rw [if_neg hvv, if_neg hvv]
  cases hg : getS k xs with
  | some r =>
    simp only [Option.isSome_some, if_true]
    exact ⟨trivial, getS_setS_self (by rw [hg]; rfl), fun _ => by rw [setS_length]; omega⟩
  | none =>
    have hr : ¬ st.most ≤ (xs.length : Int) + st.kept := by omega
    simp only [Option.isSome_none, Bool.false_eq_true, if_false, if_neg hr]
    exact ⟨trivial, getS_insS_self (x := (k, v)), fun hr => by rw [insS_length (x := (k, v)) hr hg]; omega⟩

theorem pput_any {st : HSt} {xs : List Itm} {k v : ByteArray} (hr : Rising xs) : (pIts st k v xs).length ≤ xs.length + 1 := by
  unfold pIts
  split
  · omega
  split
  · omega
  split
  · omega
  unfold hIts
  split
  · omega
  split
  · rw [setS_length]; omega
  split
  · omega
  · rename_i h1 h2 h3 h4 h5 h6
    rw [insS_length (x := (k, v)) hr (by simpa using h5)]
    omega

theorem pput_open {st : HSt} {xs : List Itm} {k v : ByteArray} {ep : Int} (hw : st.whole ep) (hs : st.shut = false) (h1 : 1 ≤ k.size) (h2 : k.size ≤ 16) (hv : v.size ≤ 16) (hroom : (xs.length : Int) + st.kept < st.most) :
    pErr st k v xs = 0 ∧ pNode st k = 0 ∧ getS k (pIts st k v xs) = some v := by
  have hkk : ¬ ¬ (1 ≤ k.size ∧ k.size ≤ 16) := fun e => e ⟨h1, h2⟩
  have ha := whole_some hw k
  have hb : ¬ (st.shut && inA st.a (addr k)) = true := by rw [hs]; simp
  unfold pErr pNode pIts
  have hat : ¬ (st.at (addr k)).isSome = false := by rw [ha]; simp
  simp only [if_neg hkk, if_neg hat, if_neg hb]
  have := hput_open (st := st) (xs := xs) (k := k) hv hroom
  exact ⟨this.1, trivial, this.2.1⟩

theorem pput_shut {st : HSt} {xs : List Itm} {k v : ByteArray} {ep : Int} (hw : st.whole ep) (hs : st.shut = true) (h1 : 1 ≤ k.size) (h2 : k.size ≤ 16) (hv : v.size ≤ 16) (hroom : (xs.length : Int) + st.kept < st.most) :
    pErr st k v xs = (if inA st.a (addr k) then 7 else 0) ∧ (inA st.a (addr k) = true → pIts st k v xs = xs) := by
  have hkk : ¬ ¬ (1 ≤ k.size ∧ k.size ≤ 16) := fun e => e ⟨h1, h2⟩
  have ha := whole_some hw k
  unfold pErr pIts
  have hat : ¬ (st.at (addr k)).isSome = false := by rw [ha]; simp
  simp only [if_neg hkk, if_neg hat, hs, Bool.true_and]
  have := hput_open (st := st) (xs := xs) (k := k) hv hroom
  cases hi : inA st.a (addr k) with
  | true => exact ⟨by simp, fun _ => by simp⟩
  | false => exact ⟨by simpa using this.1, fun e => by cases e⟩

theorem arcIts_in {a : Arc} (ha : a.ok) {xs : List Itm} {x : Itm} (hx : x ∈ arcIts a xs) : inA a (addr x.1) = true := by
  unfold arcIts at hx
  obtain ⟨p, hp, hx⟩ := List.mem_flatMap.1 hx
  have h := (List.mem_filter.1 hx).2
  rw [← pieces_in ha (addr_64 x.1), List.any_eq_true]
  exact ⟨p, hp, by simpa [inP] using h⟩
end Go.Proofs.YtpcmbnbdppembaaGreatDoor
