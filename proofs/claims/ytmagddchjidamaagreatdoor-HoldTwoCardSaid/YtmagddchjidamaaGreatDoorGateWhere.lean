/- (*gate.Gate).Where. -/
import Derived.Test.YtmagddchjidamaaGreatDoorGate
namespace Go.Proofs.YtmagddchjidamaaGreatDoor
set_option linter.unusedSimpArgs false
set_option linter.unusedVariables false
open Go.RowKit Go.Shelf

theorem rev_find {α : Type} (p : α → Bool) (l : List α) (k : Nat) (h : ∀ (j : Nat) y, k ≤ j → l[j]? = some y → p y = false) : l.reverse.find? p = (l.take k).reverse.find? p := by
  conv => lhs; rw [← List.take_append_drop k l]
  rw [List.reverse_append, List.find?_append]
  have : (l.drop k).reverse.find? p = none := by
    rw [List.find?_eq_none]
    intro x hx
    rw [List.mem_reverse] at hx
    obtain ⟨i, hi⟩ := List.getElem?_of_mem hx
    rw [List.getElem?_drop] at hi
    rw [h (k + i) x (by omega) hi]
    simp
  rw [this]
  rfl

def HSt.whereP (st : HSt) (x : Int) : Option Ptr := st.pts.reverse.find? (fun p => inA p.arc x)
def whereRes : Option Ptr → Value
  | none => .tuple #[.int .i64 0, .bool false]
  | some p => .tuple #[.int .i64 p.node, .bool true]

theorem at4 {w : World} {v : Value} {l : List Ptr} (h : SlAt 4 encPtr w v l) {i : Nat} {p : Ptr} (hi : l[i]? = some p) : ∃ b o cap, v = .slice (some ⟨b, o, none⟩) l.length cap ∧ b < w.heap.size ∧
    w.cell? ⟨b, o + i * 4, none⟩ = some (.int .u64 p.f) ∧ w.cell? ⟨b, o + i * 4 + 1, none⟩ = some (.int .u64 p.t) ∧ w.cell? ⟨b, o + i * 4 + 2, none⟩ = some (.int .i64 p.node) ∧ w.cell? ⟨b, o + i * 4 + 3, none⟩ = some (.int .i64 p.old) := by
  obtain ⟨a, cap, hv, hx⟩ := h
  obtain ⟨b, o, rfl, hj⟩ := hx i p hi
  have h0 := hj 0 _ rfl
  exact ⟨b, o, cap, hv, cell_lt' h0, h0, hj 1 _ rfl, hj 2 _ rfl, hj 3 _ rfl⟩

set_option maxHeartbeats 4000000 in
theorem where_any {w : World} {h : Nat} {st : HSt} {tr : Option Tree} {n : Nat} {B : List Nat} (hh : HoldAt w h st tr n B) (x : Int) (hlen : st.pts.length ≤ 1000000) :
    Calls Tryz.prog 37 #[.pointer (some ⟨h, 5, none⟩), .int .u64 x] w fun e w' => e = .returned (whereRes (st.whereP x)) ∧ Mod NoB w w' := by
  obtain ⟨vo, vp, s, L, h1, h2, h3, h4, hB, h5⟩ := hh
  have hlt : h < w.heap.size := (Array.getElem?_eq_some_iff.1 h1).1
  have c8 : w.cell? ⟨h, 8, none⟩ = some vp := cell_of h1 8 rfl
  have hsl := own_slAt (k := 4) (enc := encPtr) (fun _ => rfl) h3
  obtain ⟨av, cap, rfl, _⟩ := id hsl
  have HS := Lib.hid hsl
  clear h1 h2 h3 h4 hB h5 hsl
  have HC := Lib.hid c8
  go_enter Tryz.func37, Tryz.ntmps37
  go_wp2_with fail
  go_step3
  go_wp2_with fail
  go_step3
  go_wp2_with fail
  clear c8
  go_loopw [6, 7, 8] (fun nd is i wr => ∃ k : Nat, k ≤ st.pts.length ∧ nd = .int .i64 0 ∧ is = .bool false ∧ i = .int .i64 ((k : Int) - 1) ∧ Mod NoB w wr ∧ ∀ (j : Nat) y, k ≤ j → st.pts[j]? = some y → inA y.arc x = false) (fun _ _ i _ => (intOf i + 1).toNat)
  case atStart => exact ⟨st.pts.length, Nat.le_refl _, rfl, rfl, rfl, by repeat (first | exact Mod.refl _ _ | refine Mod.alloc ?_ _ | refine Mod.drew ?_), fun j y hj hy => by have := (List.getElem?_eq_some_iff.1 hy).1; omega⟩
  case round =>
    obtain ⟨k, hk, rfl, rfl, rfl, hm, hno⟩ := hrel
    have HM := Lib.hid hm; clear hm
    have HN := Lib.hid hno; clear hno
    cases k with
    | zero =>
      have HF := Lib.hid (show st.whereP x = none by
        have := rev_find (fun p : Ptr => inA p.arc x) st.pts 0 (fun j y hj hy => HN.out j y hj hy)
        unfold HSt.whereP; rw [this]; simp)
      go_wp2_with fail
      rw [Exit.noGoto_ret]
      go_ret2
      exact ⟨by rw [HF.out]; rfl, HM.out⟩
    | succ k =>
      have he : st.pts[k]? = some st.pts[k] := List.getElem?_eq_getElem hk
      generalize st.pts[k] = p at he
      obtain ⟨b, o, cap', hv, hb, p0, p1, p2, p3⟩ := at4 (HS.out.mod HM.out) he
      simp only [Value.slice.injEq] at hv
      obtain ⟨rfl, _, rfl⟩ := hv
      have c8 := HM.out.cellS HC.out
      have HE := Lib.hid he; clear he
      have hkk : ((k : Int) + 1) - 1 = k := by omega
      cases hr : inA p.arc x with
      | false =>
        go_wp2_with fail
        refine (in_any p.arc x _).mono ?_
        rintro e w1 ⟨rfl, hm1⟩
        rw [hr]
        have HM1 := Lib.hid hm1; clear hm1
        go_wp2_with fail
        refine ⟨⟨k, by omega, rfl, rfl, by go_num, HM.out.trans (((Mod.refl _ _).alloc _).trans HM1.out), fun j y hj hy => ?_⟩, by first | (simp [intOf]; done) | (simp [intOf]; omega)⟩
        by_cases hjk : j = k
        · subst hjk
          rw [HE.out] at hy
          obtain rfl := Option.some.inj hy
          exact hr
        · exact HN.out j y (by omega) hy
      | true =>
        go_wp2_with fail
        refine (in_any p.arc x _).mono ?_
        rintro e w1 ⟨rfl, hm1⟩
        rw [hr]
        have e2 := hm1.cellS (p := ⟨wr.heap.size, 2, none⟩) (u := .int .i64 p.node) (by simp)
        have HM1 := Lib.hid hm1; clear hm1
        have HF := Lib.hid (show st.whereP x = some p by
          have := rev_find (fun p : Ptr => inA p.arc x) st.pts (k + 1) (fun j y hj hy => HN.out j y hj hy)
          unfold HSt.whereP
          rw [this, List.take_add_one, HE.out]
          simp [hr])
        go_wp2_with fail
        rw [Exit.noGoto_ret]
        go_ret2
        exact ⟨by rw [HF.out]; rfl, HM.out.trans (((Mod.refl _ _).alloc _).trans HM1.out)⟩
end Go.Proofs.YtmagddchjidamaaGreatDoor
