/- (*hold.Hold).Do: of what is not owned, of what is shut, Get and Put. -/
import Derived.Test.YtmagddchjidamaaGreatDoorHoldDo
namespace Go.Proofs.YtmagddchjidamaaGreatDoor
set_option linter.unusedSimpArgs false
set_option linter.unusedVariables false
open Go.RowKit Go.Shelf

def wherN : Option Ptr → Int
  | none => -1
  | some p => p.node

/-- the two boxes of a call of Do -/
def DoIn (B : Nat) (W : World) (op : Int) (k v to : ByteArray) (most : Int) : Prop :=
  W.heap[B]? = some (.cells #[.int .i64 op, .string k, .string v, .string to, .int .i64 most] 32 (0, 0)) ∧
    W.heap[B + 1]? = some (.cells #[.int .i64 0, .string ⟨#[]⟩, .slice none 0 0, .bool false, .string ⟨#[]⟩, .int .i64 0] 37 (0, 0))

theorem do_in {w w1 : World} {op : Int} {k v to : ByteArray} {most : Int}
    (hm : Mod NoB ((w.alloc (.cells #[.int .i64 op, .string k, .string v, .string to, .int .i64 most] 32)).alloc (.cells #[.int .i64 0, .string ⟨#[]⟩, .slice none 0 0, .bool false, .string ⟨#[]⟩, .int .i64 0] 37)) w1) :
    DoIn w.heap.size w1 op k v to most ∧ Mod NoB w w1 := by
  refine ⟨⟨?_, ?_⟩, (((Mod.refl NoB w).alloc _).alloc _).trans hm⟩
  · rw [hm.block _ (by simp; omega) (fun x => x), Below.heap_alloc _ _ _ (by simp)]
    exact heap_alloc_new w _
  · rw [hm.block _ (by simp) (fun x => x)]
    have := heap_alloc_new (w.alloc (.cells #[.int .i64 op, .string k, .string v, .string to, .int .i64 most] 32)) (.cells #[.int .i64 0, .string ⟨#[]⟩, .slice none 0 0, .bool false, .string ⟨#[]⟩, .int .i64 0] 37)
    simpa using this

theorem DoIn.mod {S : Nat → Prop} {B : Nat} {W W' : World} {op : Int} {k v to : ByteArray} {most : Int} (h : DoIn B W op k v to most) (hm : Mod S W W') (h1 : ¬ S B) (h2 : ¬ S (B + 1)) : DoIn B W' op k v to most :=
  ⟨(hm.block _ (Array.getElem?_eq_some_iff.1 h.1).1 h1).trans h.1, (hm.block _ (Array.getElem?_eq_some_iff.1 h.2).1 h2).trans h.2⟩

theorem DoIn.ask {B : Nat} {W : World} {op : Int} {k v to : ByteArray} {most : Int} (h : DoIn B W op k v to most) :
    W.cell? ⟨B, 0, none⟩ = some (.int .i64 op) ∧ W.cell? ⟨B, 1, none⟩ = some (.string k) ∧ W.cell? ⟨B, 2, none⟩ = some (.string v) ∧ W.cell? ⟨B, 3, none⟩ = some (.string to) ∧ W.cell? ⟨B, 4, none⟩ = some (.int .i64 most) :=
  ⟨cell_of h.1 0 rfl, cell_of h.1 1 rfl, cell_of h.1 2 rfl, cell_of h.1 3 rfl, cell_of h.1 4 rfl⟩
theorem DoIn.told {B : Nat} {W : World} {op : Int} {k v to : ByteArray} {most : Int} (h : DoIn B W op k v to most) :
    W.cell? ⟨B + 1, 0, none⟩ = some (.int .i64 0) ∧ W.cell? ⟨B + 1, 1, none⟩ = some (.string ⟨#[]⟩) ∧ W.cell? ⟨B + 1, 2, none⟩ = some (.slice none 0 0) ∧ W.cell? ⟨B + 1, 3, none⟩ = some (.bool false) ∧ W.cell? ⟨B + 1, 4, none⟩ = some (.string ⟨#[]⟩) ∧ W.cell? ⟨B + 1, 5, none⟩ = some (.int .i64 0) ∧
    W.frozen? ⟨B + 1, 0, none⟩ = false ∧ W.frozen? ⟨B + 1, 1, none⟩ = false ∧ W.frozen? ⟨B + 1, 2, none⟩ = false ∧ W.frozen? ⟨B + 1, 3, none⟩ = false ∧ W.frozen? ⟨B + 1, 4, none⟩ = false ∧ W.frozen? ⟨B + 1, 5, none⟩ = false :=
  ⟨cell_of h.2 0 rfl, cell_of h.2 1 rfl, cell_of h.2 2 rfl, cell_of h.2 3 rfl, cell_of h.2 4 rfl, cell_of h.2 5 rfl, frozen_of h.2 0, frozen_of h.2 1, frozen_of h.2 2, frozen_of h.2 3, frozen_of h.2 4, frozen_of h.2 5⟩

theorem told_set (w : World) (b : Nat) (x0 x1 x2 x3 x4 x5 : Value) : Mod (· = b) w ((((((w.setCell ⟨b, 0, none⟩ x0).setCell ⟨b, 1, none⟩ x1).setCell ⟨b, 2, none⟩ x2).setCell ⟨b, 3, none⟩ x3).setCell ⟨b, 4, none⟩ x4).setCell ⟨b, 5, none⟩ x5) :=
  ((((((Mod.refl (· = b) w).setCell (p := ⟨b, 0, none⟩) (fun _ => rfl) _).setCell (p := ⟨b, 1, none⟩) (fun _ => rfl) _).setCell (p := ⟨b, 2, none⟩) (fun _ => rfl) _).setCell (p := ⟨b, 3, none⟩) (fun _ => rfl) _).setCell (p := ⟨b, 4, none⟩) (fun _ => rfl) _).setCell (p := ⟨b, 5, none⟩) (fun _ => rfl) _

set_option maxRecDepth 100000 in
set_option maxHeartbeats 8000000 in
theorem do_else {w : World} {h : Nat} {st : HSt} {tr : Option Tree} {n : Nat} {B : List Nat} (hh : HoldAt w h st tr n B) (op : Int) (h1 : 1 ≤ op) (h2 : op ≤ 3) (k v to : ByteArray) (most : Int) (hk1 : 1 ≤ k.size) (hk2 : k.size ≤ 16)
    (hat : st.at (addr k) = none) (hlen : st.pts.length ≤ 1000000) :
    Calls Tryz.prog 14 #[.pointer (some ⟨h, 0, none⟩), encAsk op k v to most] w fun e w' => e = .returned (encTold 8 ⟨#[]⟩ (wherN (st.whereP (addr k)))) ∧ Mod NoB w w' := by
  have HH := Lib.hid hh
  clear hh
  go_enter Tryz.func14, Tryz.ntmps14
  go_wp2_with fail
  refine (hright_ok op h1 h2 k v to most hk1 hk2 _).mono ?_
  rintro e w1 ⟨rfl, hm1⟩
  obtain ⟨hd1, hm01⟩ := do_in hm1
  obtain ⟨a0, a1, a2, a3, a4⟩ := hd1.ask
  have HD1 := Lib.hid hd1; have HM1 := Lib.hid hm01
  clear hm1 hd1 hm01
  go_wp2_with fail
  refine (addr_any k _).mono ?_
  rintro e w2 ⟨rfl, hww⟩
  rw [hww]
  clear hww w2
  go_wp2_with fail
  refine (hasH_any (HH.out.mod HM1.out (fun _ _ x => x)) (addr k)).mono ?_
  rintro e w2 ⟨rfl, hm2⟩
  rw [hat]
  have HM2 := Lib.hid (HM1.out.trans hm2)
  have HD2 := Lib.hid (HD1.out.mod hm2 (fun x => x) (fun x => x))
  clear hm2 a0 a1 a2 a3 a4
  simp only [Option.isSome_none]
  go_wp2_with fail
  refine (where_any (HH.out.mod HM2.out (fun _ _ x => x)) (addr k) hlen).mono ?_
  rintro e w3 ⟨rfl, hm3⟩
  have HM3 := Lib.hid (HM2.out.trans hm3)
  have hd3 := HD2.out.mod hm3 (fun x => x) (fun x => x)
  obtain ⟨b0, b1, b2, b3, b4, b5, g0, g1, g2, g3, g4, g5⟩ := hd3.told
  have hB : ∀ v, Mod NoB w v → Mod NoB w v := fun _ h => h
  clear hm3 hd3 hB
  cases hw : st.whereP (addr k) with
  | none =>
    simp only [whereRes, wherN]
    go_wp2_with fail
    refine bodyPost_ret (v := encTold 8 ⟨#[]⟩ (-1)) (by simp [results, Tryz.results14, go_sem, *]) rfl ⟨by rw [hw]; rfl, ?_⟩
    exact HM3.out.then (told_set w3 (w.heap.size + 1) _ _ _ _ _ _) (fun i hi e => by omega)
  | some p =>
    simp only [whereRes, wherN]
    go_wp2_with fail
    refine bodyPost_ret (v := encTold 8 ⟨#[]⟩ p.node) (by simp [results, Tryz.results14, go_sem, *]) rfl ⟨by rw [hw]; rfl, ?_⟩
    exact HM3.out.then (told_set w3 (w.heap.size + 1) _ _ _ _ _ _) (fun i hi e => by omega)

set_option maxRecDepth 100000 in
set_option maxHeartbeats 8000000 in
theorem do_busy {w : World} {h : Nat} {st : HSt} {tr : Option Tree} {n : Nat} {B : List Nat} (hh : HoldAt w h st tr n B) (op : Int) (h1 : 1 ≤ op) (h2 : op ≤ 3) (k v to : ByteArray) (most : Int) (hk1 : 1 ≤ k.size) (hk2 : k.size ≤ 16)
    (hat : (st.at (addr k)).isSome = true) (hf : (st.shut && inA st.a (addr k)) = true) :
    Calls Tryz.prog 14 #[.pointer (some ⟨h, 0, none⟩), encAsk op k v to most] w fun e w' => e = .returned (encTold 7 ⟨#[]⟩ 0) ∧ Mod NoB w w' := by
  have HH := Lib.hid hh
  clear hh
  go_enter Tryz.func14, Tryz.ntmps14
  go_wp2_with fail
  refine (hright_ok op h1 h2 k v to most hk1 hk2 _).mono ?_
  rintro e w1 ⟨rfl, hm1⟩
  obtain ⟨hd1, hm01⟩ := do_in hm1
  obtain ⟨a0, a1, a2, a3, a4⟩ := hd1.ask
  have HD1 := Lib.hid hd1; have HM1 := Lib.hid hm01
  clear hm1 hd1 hm01
  go_wp2_with fail
  refine (addr_any k _).mono ?_
  rintro e w2 ⟨rfl, hww⟩
  rw [hww]
  clear hww w2
  go_wp2_with fail
  refine (hasH_any (HH.out.mod HM1.out (fun _ _ x => x)) (addr k)).mono ?_
  rintro e w2 ⟨rfl, hm2⟩
  rw [hat]
  have HM2 := Lib.hid (HM1.out.trans hm2)
  have HD2 := Lib.hid (HD1.out.mod hm2 (fun x => x) (fun x => x))
  clear hm2 a0 a1 a2 a3 a4
  go_wp2_with fail
  refine (frozen_any (HH.out.mod HM2.out (fun _ _ x => x)) (addr k)).mono ?_
  rintro e w3 ⟨rfl, hm3⟩
  rw [hf]
  have HM3 := Lib.hid (HM2.out.trans hm3)
  have hd3 := HD2.out.mod hm3 (fun x => x) (fun x => x)
  obtain ⟨b0, b1, b2, b3, b4, b5, g0, g1, g2, g3, g4, g5⟩ := hd3.told
  clear hm3 hd3
  go_wp2_with fail
  refine bodyPost_ret (v := encTold 7 ⟨#[]⟩ 0) (by simp [results, Tryz.results14, go_sem, *]) rfl ⟨rfl, ?_⟩
  exact HM3.out.then (told_set w3 (w.heap.size + 1) _ _ _ _ _ _) (fun i hi e => by omega)

set_option maxRecDepth 100000 in
set_option maxHeartbeats 8000000 in
theorem do_put {w : World} {h : Nat} {st : HSt} {tr tr' : Option Tree} {n n' : Nat} {B : List Nat} (hh : HoldAt w h st tr n B) (k v to : ByteArray) (most : Int) (hk1 : 1 ≤ k.size) (hk2 : k.size ≤ 16)
    (hat : (st.at (addr k)).isSome = true) (hf : (st.shut && inA st.a (addr k)) = false) {r : Option ByteArray} (hv : v.size ≤ 16) (hg : GetOK tr k r) (hp : PutOK tr n st.most k v tr' n')
    (hn : n ≤ 1000000) (hk : 0 ≤ st.kept ∧ st.kept ≤ 1000000) (hroom : r = none → (n : Int) + st.kept < st.most) :
    Calls Tryz.prog 14 #[.pointer (some ⟨h, 0, none⟩), encAsk 2 k v to most] w fun e w' => e = .returned (encTold 0 ⟨#[]⟩ 0) ∧ ∃ B', HoldAt w' h st tr' n' B' ∧ Turn B w w' B' := by
  have HH := Lib.hid hh
  have HLT := Lib.hid hh.lts
  clear hh
  go_enter Tryz.func14, Tryz.ntmps14
  go_wp2_with fail
  refine (hright_ok 2 (by decide) (by decide) k v to most hk1 hk2 _).mono ?_
  rintro e w1 ⟨rfl, hm1⟩
  obtain ⟨hd1, hm01⟩ := do_in hm1
  obtain ⟨a0, a1, a2, a3, a4⟩ := hd1.ask
  have HD1 := Lib.hid hd1; have HM1 := Lib.hid hm01
  clear hm1 hd1 hm01
  go_wp2_with fail
  refine (addr_any k _).mono ?_
  rintro e w2 ⟨rfl, hww⟩
  rw [hww]
  clear hww w2
  go_wp2_with fail
  refine (hasH_any (HH.out.mod HM1.out (fun _ _ x => x)) (addr k)).mono ?_
  rintro e w2 ⟨rfl, hm2⟩
  rw [hat]
  have HM2 := Lib.hid (HM1.out.trans hm2)
  have HD2 := Lib.hid (HD1.out.mod hm2 (fun x => x) (fun x => x))
  clear hm2 a0 a1 a2 a3 a4
  go_wp2_with fail
  refine (frozen_any (HH.out.mod HM2.out (fun _ _ x => x)) (addr k)).mono ?_
  rintro e w3 ⟨rfl, hm3⟩
  rw [hf]
  have HM3 := Lib.hid (HM2.out.trans hm3)
  have hd3 := HD2.out.mod hm3 (fun x => x) (fun x => x)
  obtain ⟨a0, a1, a2, a3, a4⟩ := hd3.ask
  have HD3 := Lib.hid hd3
  clear hm3 hd3
  go_wp2_with fail
  refine (hput_ok (HH.out.mod HM3.out (fun _ _ x => x)) hv hg hp hn hk hroom).mono ?_
  rintro e w4 ⟨rfl, B4, hh4, ht4⟩
  have hnb : w.heap.size ∉ B ∧ w.heap.size + 1 ∉ B := ⟨fun hb => by have := HLT.out _ hb; omega, fun hb => by have := HLT.out _ hb; omega⟩
  have hd4 := HD3.out.mod ht4.1 hnb.1 hnb.2
  have hlt4 : w.heap.size + 1 < w3.heap.size := (Array.getElem?_eq_some_iff.1 HD3.out.2).1
  have hnb4 : w.heap.size + 1 ∉ B4 := fun hb => by
    rcases ht4.2 _ hb with hb | hb
    · exact hnb.2 hb
    · omega
  obtain ⟨b0, b1, b2, b3, b4, b5, g0, g1, g2, g3, g4, g5⟩ := hd4.told
  have HH4 := Lib.hid hh4; have HT4 := Lib.hid ht4; have HNB := Lib.hid hnb4
  clear hh4 ht4 hd4 hnb a0 a1 a2 a3 a4 hnb4 hlt4
  go_wp2_with fail
  have hm5 := told_set w4 (w.heap.size + 1) (.int .i64 0) (.string ⟨#[]⟩) (.slice none 0 0) (.bool false) (.string ⟨#[]⟩) (.int .i64 0)
  refine bodyPost_ret (v := encTold 0 ⟨#[]⟩ 0) (by simp [results, Tryz.results14, go_sem, *]) rfl ⟨rfl, B4, HH4.out.mod hm5 (fun g hg e => HNB.out (e ▸ hg)), ?_⟩
  have h1 : Turn B w w4 B4 := Turn.trans (B := B) ⟨HM3.out.mono (fun _ _ x => x.elim), fun _ hk => .inl hk⟩ HT4.out
  exact ⟨h1.1.then hm5 (fun i hi e => by omega), h1.2⟩
end Go.Proofs.YtmagddchjidamaaGreatDoor
