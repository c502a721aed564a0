/- (*hold.Hold).Len, hold.right, (*hold.Hold).put, (*hold.Hold).Do, of what Get, Put and Del make of the shelf left open. -/
import Derived.Test.YtmagddchjidamaaGreatDoorHoldLose
import Derived.Test.YtmagddchjidamaaGreatDoorCutOut
import Derived.Test.YtmagddchjidamaaGreatDoorShelfDel2
import Derived.Test.YtmagddchjidamaaGreatDoorGateWhere
namespace Go.Proofs.YtmagddchjidamaaGreatDoor
set_option linter.unusedSimpArgs false
set_option linter.unusedVariables false
open Go.RowKit Go.Shelf

def PutOK (tr : Option Tree) (n : Nat) (most : Int) (k v : ByteArray) (tr' : Option Tree) (n' : Nat) : Prop := ∀ (w : World) (s : Nat) (L : List Nat), ShelfAt w s most tr n L → L.Nodup →
  Calls Tryz.prog 68 #[.pointer (some ⟨s, 0, none⟩), .string k, .string v] w fun e w' => e = .returned (.int .i64 0) ∧ ∃ L', ShelfAt w' s most tr' n' L' ∧ L'.Nodup ∧ Turn L w w' L'

theorem slen_any {w : World} {s : Nat} {most : Int} {tr : Option Tree} {n : Nat} {L : List Nat} (h : ShelfAt w s most tr n L) :
    Calls Tryz.prog 43 #[.pointer (some ⟨s, 0, none⟩)] w fun e w' => e = .returned (.int .i64 n) ∧ w' = w := by
  have c1 : w.cell? ⟨s, 1, none⟩ = some (.int .i64 n) := by
    unfold ShelfAt at h
    cases tr with
    | none => exact cell_of h.1 1 rfl
    | some t =>
      obtain ⟨b, Lt, h1, _⟩ := h
      exact cell_of h1 1 rfl
  clear h
  go_enter Tryz.func43, Tryz.ntmps43
  go_wp2_with fail
  go_ret
  exact ⟨rfl, rfl⟩

theorem hlen_any {w : World} {h : Nat} {st : HSt} {tr : Option Tree} {n : Nat} {B : List Nat} (hh : HoldAt w h st tr n B) :
    Calls Tryz.prog 16 #[.pointer (some ⟨h, 0, none⟩)] w fun e w' => e = .returned (.int .i64 n) ∧ w' = w := by
  obtain ⟨s, L, c4, hs, _⟩ := hh.shelf
  have HS := Lib.hid hs
  clear hh hs
  go_enter Tryz.func16, Tryz.ntmps16
  go_wp2_with fail
  refine (slen_any HS.out).mono ?_
  rintro e w1 ⟨rfl, hww⟩
  rw [hww]
  clear hww
  go_wp2_with fail
  go_ret
  exact ⟨rfl, rfl⟩

abbrev encAsk (op : Int) (k v to : ByteArray) (most : Int) : Value := .agg #[.int .i64 op, .string k, .string v, .string to, .int .i64 most]
abbrev encTold (e : Int) (v : ByteArray) (node : Int) : Value := .agg #[.int .i64 e, .string v, .slice none 0 0, .bool false, .string ⟨#[]⟩, .int .i64 node]

theorem hright_ok (op : Int) (h1 : 1 ≤ op) (h2 : op ≤ 3) (k v to : ByteArray) (most : Int) (hk1 : 1 ≤ k.size) (hk2 : k.size ≤ 16) (w : World) :
    Calls Tryz.prog 35 #[encAsk op k v to most] w fun e w' => e = .returned (.int .i64 0) ∧ Mod NoB w w' := by
  have n1 : ¬ op < 1 := by omega
  have n2 : ¬ 4 < op := by omega
  have n3 : ¬ op = 4 := by omega
  have n4 : ¬ op ≤ 0 := by omega
  have n5 : op ≤ 4 := by omega
  have n6 : 0 < op := by omega
  go_enter Tryz.func35, Tryz.ntmps35
  go_wp2_with fail
  refine (right_ok k _ hk1 hk2).mono ?_
  rintro e w1 ⟨rfl, hww⟩
  rw [hww]
  clear hww
  go_wp2_with fail
  go_ret
  exact ⟨rfl, (Mod.refl _ _).alloc _⟩

set_option maxRecDepth 100000 in
set_option maxHeartbeats 8000000 in
theorem hput_ok {w : World} {h : Nat} {st : HSt} {tr tr' : Option Tree} {n n' : Nat} {B : List Nat} (hh : HoldAt w h st tr n B) {k v : ByteArray} {r : Option ByteArray} (hv : v.size ≤ 16) (hg : GetOK tr k r) (hp : PutOK tr n st.most k v tr' n')
    (hn : n ≤ 1000000) (hk : 0 ≤ st.kept ∧ st.kept ≤ 1000000) (hroom : r = none → (n : Int) + st.kept < st.most) :
    Calls Tryz.prog 39 #[.pointer (some ⟨h, 0, none⟩), .string k, .string v] w fun e w' => e = .returned (.int .i64 0) ∧ ∃ B', HoldAt w' h st tr' n' B' ∧ Turn B w w' B' := by
  have HG := Lib.hid hg; have HP := Lib.hid hp
  have HH := Lib.hid hh
  obtain ⟨vo, vp, s, L, q1, q2, q3, q4, rfl, q6⟩ := hh
  have c4 : w.cell? ⟨h, 4, none⟩ = some (.pointer (some ⟨s, 0, none⟩)) := cell_of q1 4 rfl
  have c1 : w.cell? ⟨h, 1, none⟩ = some (.int .i64 st.most) := cell_of q1 1 rfl
  have c2 : w.cell? ⟨h, 2, none⟩ = some (.int .i64 st.kept) := cell_of q1 2 rfl
  have hnd : L.Nodup := by
    simp only [List.nodup_cons, List.nodup_append] at q6
    exact q6.2.2.1
  have Q1 := Lib.hid q1; have Q2 := Lib.hid q2; have Q3 := Lib.hid q3; have Q4 := Lib.hid q4; have Q6 := Lib.hid q6; have HND := Lib.hid hnd
  clear q1 q2 q3 q4 q6 hg hp hnd
  obtain ⟨hk0, hk1⟩ := hk
  go_enter Tryz.func39, Tryz.ntmps39
  go_wp2_with fail
  refine (value_ok v _ hv).mono ?_
  rintro e w1 ⟨rfl, hww⟩
  rw [hww]
  clear hww
  go_wp2_with fail
  refine (HG.out _ s st.most n L Q4.out).mono ?_
  rintro e w1 ⟨rfl, hm1⟩
  have d4 := hm1.cellS c4; have d1 := hm1.cellS c1; have d2 := hm1.cellS c2
  have HM1 := Lib.hid hm1
  have HS1 := Lib.hid (Q4.out.mod hm1 (fun _ _ x => x))
  clear hm1 c4 c1 c2
  cases r with
  | some rv =>
    simp only [Option.getD_some, Option.isSome_some]
    go_wp2_with fail
    go_quiet (fail)
    have e4 : (w1.drewN nq).cell? ⟨h, 4, none⟩ = some (.pointer (some ⟨s, 0, none⟩)) := d4
    go_wp2_with fail
    have hdm : Mod NoB w1 (w1.drewN nq) := (Mod.refl _ _).drewN _
    refine (HP.out _ s L (HS1.out.mod hdm (fun _ _ x => x)) HND.out).mono ?_
    rintro e w5 ⟨rfl, L5, hs5, hn5, ht5⟩
    have hres := hold_shelf Q1.out Q2.out Q3.out Q4.out Q6.out (HM1.out.trans hdm) hs5 hn5 ht5
    obtain ⟨B5, hh5, ht5'⟩ := hres
    have HH5 := Lib.hid hh5; have HT5 := Lib.hid ht5'
    clear hs5 hn5 ht5 hh5 ht5' hdm
    go_wp2_with fail
    go_ret
    exact ⟨rfl, B5, HH5.out, HT5.out⟩
  | none =>
    have hroom := hroom rfl
    simp only [Option.getD_none, Option.isSome_none]
    go_wp2_with fail
    go_quiet ((go_at_call 43; refine Calls.quiet_of_same ((slen_any (HS1.out.mod (S := NoB) ((Mod.refl _ _).drewN _) (fun _ _ x => x))).mono (by rintro e w5 ⟨rfl, rfl⟩; exact ⟨rfl, rfl⟩))))
    have e4 : (w1.drewN nq).cell? ⟨h, 4, none⟩ = some (.pointer (some ⟨s, 0, none⟩)) := d4
    have hr : ¬ st.most ≤ (n : Int) + st.kept := by omega
    go_wp2_with fail
    have hdm : Mod NoB w1 (w1.drewN nq) := (Mod.refl _ _).drewN _
    refine (HP.out _ s L (HS1.out.mod hdm (fun _ _ x => x)) HND.out).mono ?_
    rintro e w5 ⟨rfl, L5, hs5, hn5, ht5⟩
    have hres := hold_shelf Q1.out Q2.out Q3.out Q4.out Q6.out (HM1.out.trans hdm) hs5 hn5 ht5
    obtain ⟨B5, hh5, ht5'⟩ := hres
    have HH5 := Lib.hid hh5; have HT5 := Lib.hid ht5'
    clear hs5 hn5 ht5 hh5 ht5' hdm
    go_wp2_with fail
    go_ret
    exact ⟨rfl, B5, HH5.out, HT5.out⟩
end Go.Proofs.YtmagddchjidamaaGreatDoor
