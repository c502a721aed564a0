/- (*hold.Hold).may, at, Has: the owned arcs are looked through. -/
import Derived.Test.YtpcmbnbdppembaaGreatDoorHoldNew
import Derived.Test.YtpcmbnbdppembaaGreatDoorLayHold
import Derived.Shelf.SlicesQ.IndexFunc
namespace Go.Proofs.YtpcmbnbdppembaaGreatDoor
set_option linter.unusedSimpArgs false
set_option linter.unusedVariables false
open Go.RowKit Go.Shelf

instance : Inhabited Ow := ⟨⟨0, 0, 0, 0⟩⟩

theorem Mod.toBelow {a w : World} {B : Nat} (h : Mod NoB a w) (hB : B ≤ a.heap.size) : Below B a w := h.below hB (fun _ x => x.elim)
theorem Mod.ofBelow {a w : World} (h : Below a.heap.size a w) : Mod NoB a w := Mod.of_below h

theorem idxOw_empty (a : Option Addr) (cap : Nat) (f : Value) (w : World) :
    Calls Tryz.prog 155 #[.slice a 0 cap, f] w fun e w' => e = .returned (.int .i64 (-1)) ∧ w' = w := by
  go_enter Tryz.func155, Tryz.ntmps155
  go_wp2
  go_loop [8] (fun i => i = .int .i64 0) (fun _ => 0)
  case atStart => rfl
  case round =>
    subst hrel
    go_wp2
    go_ret
    exact ⟨rfl, rfl⟩

theorem cfOw_empty (a : Option Addr) (cap : Nat) (f : Value) (w : World) :
    Calls Tryz.prog 71 #[.slice a 0 cap, f] w fun e w' => e = .returned (.bool false) ∧ w' = w := by
  go_enter Tryz.func71, Tryz.ntmps71
  go_wp2_with (go_at_call 155; refine (idxOw_empty _ _ _ _).mono ?_; rintro e w' ⟨rfl, rfl⟩)
  go_ret
  exact ⟨rfl, rfl⟩

/-- a row that is owned, for the kit's contracts: nothing, or the cells of each -/
theorem own_row {α : Type} [Inhabited α] {k : Nat} {enc : α → List Value} (hk : ∀ x, (enc x).length = k) {w : World} {base : Nat} {e : TypeId} {v : Value} {l : List α} (h : w.ownsRow base e k v l.length (l.flatMap enc)) :
    (v = .slice none 0 0 ∧ l = []) ∨ ∃ g cap, v = .slice (some ⟨g, 0, none⟩) l.length cap ∧ g < w.heap.size ∧ l.length ≤ cap ∧ cap ≤ maxLen ∧
      ∀ j, j < l.length → ∀ i u, (enc l[j]!)[i]? = some u → w.cell? ⟨g, 0 + j * k + i, none⟩ = some u := by
  have hs := own_slAt hk h
  obtain ⟨_, hown⟩ := h
  rcases hown with ⟨rfl, h0⟩ | ⟨g, cap, cur, rfl, hg, hgc, hcap1, hcap2, hcs, hct⟩
  · exact .inl ⟨rfl, List.eq_nil_of_length_eq_zero h0⟩
  · refine .inr ⟨g, cap, rfl, (Array.getElem?_eq_some_iff.1 hgc).1, hcap1, hcap2, fun j hj i u hu => ?_⟩
    obtain ⟨a, cap', hv, hx⟩ := hs
    have he : l[j]? = some l[j]! := by rw [List.getElem?_eq_getElem hj]; simp [hj]
    obtain ⟨b', o', hb', hc⟩ := hx j _ he
    simp only [Value.slice.injEq] at hv
    obtain ⟨hv1, _⟩ := hv
    rw [← hv1] at hb'
    simp only [Option.some.injEq, Addr.mk.injEq] at hb'
    obtain ⟨rfl, rfl, _⟩ := hb'
    exact hc i u hu

theorem predMay (a : Arc) (B : Nat) (w : World) (hB : B < w.heap.size) (h0 : w.cell? ⟨B, 0, none⟩ = some (.int .u64 a.f)) (h1 : w.cell? ⟨B, 1, none⟩ = some (.int .u64 a.t)) :
    PredBelow Tryz.prog 158 #[.pointer (some ⟨B, 0, none⟩)] (fun o => .agg (encOw o).toArray) (fun o => !apartA o.arc a) w := fun W o hb => by
  have c0 : W.cell? ⟨B, 0, none⟩ = some (.int .u64 a.f) := (hb.cell (p := ⟨B, 0, none⟩) hB).trans h0
  have c1 : W.cell? ⟨B, 1, none⟩ = some (.int .u64 a.t) := (hb.cell (p := ⟨B, 1, none⟩) hB).trans h1
  have hBW : B < W.heap.size := Nat.lt_of_lt_of_le hB hb.size
  have hne : B ≠ W.heap.size := by omega
  show Calls Tryz.prog 158 #[.agg #[.int .u64 o.f, .int .u64 o.t, .int .i64 o.node, .int .i64 o.ep], .pointer (some ⟨B, 0, none⟩)] W _
  have HBL := Lib.hid hb
  clear hb h0 h1
  go_enter Tryz.func158, Tryz.ntmps158
  go_wp2_with (go_at_call 73; refine (apart_any o.arc a _).mono ?_; rintro e w' ⟨rfl, hm⟩; have HM := Lib.hid hm; clear hm)
  go_ret
  exact ⟨by first | rfl | simp, HBL.out.trans ((((Mod.refl NoB W).alloc _).trans HM.out).toBelow HBL.out.size)⟩

/-- may an arc be owned? -/
def HSt.may (st : HSt) (a : Arc) (ep : Int) : Bool := decide (0 ≤ ep) && st.own.all (fun o => apartA o.arc a)

set_option maxHeartbeats 4000000 in
theorem may_any {w : World} {h : Nat} {st : HSt} {tr : Option Tree} {n : Nat} {B : List Nat} (hh : HoldAt w h st tr n B) (a : Arc) (ep : Int) :
    Calls Tryz.prog 69 #[.pointer (some ⟨h, 0, none⟩), .agg #[.int .u64 a.f, .int .u64 a.t], .int .i64 ep] w fun e w' => e = .returned (.bool (st.may a ep)) ∧ Mod NoB w w' := by
  obtain ⟨vo, vp, s, L, h1, h2, h3, h4, hB, h5⟩ := hh
  have hlt : h < w.heap.size := (Array.getElem?_eq_some_iff.1 h1).1
  have c3 := cell_of h1 3 rfl
  clear h1 h3 h4 hB h5
  by_cases hep : 0 ≤ ep
  · have eg : ∀ args w, (callFunc 158 args).run Tryz.prog w = .ok (.enter 158 args) w := enters_of Tryz.func158 (by kernel_rfl) rfl
    rcases own_row (k := 4) (enc := encOw) (fun _ => rfl) h2 with ⟨rfl, hl⟩ | ⟨g, cap, rfl, hg, hcap, hcm, hrow⟩
    · have HV := Lib.hid (show st.may a ep = true by simp [HSt.may, hep, hl])
      clear h2 hl
      go_enter Tryz.func69, Tryz.ntmps69
      go_wp2_with (go_at_call 71; refine (cfOw_empty _ _ _ _).mono ?_; rintro e w' ⟨rfl, rfl⟩)
      go_ret
      exact ⟨by rw [HV.out]; rfl, (Mod.refl _ _).alloc _⟩
    · have hcon := AnyQ.slices_ContainsFunc Tryz.cfOw 4 Tryz.isAgg128 Tryz.sizeOf128 encOw (fun _ => rfl) (fun o => !apartA o.arc a) 158 #[.pointer (some ⟨w.heap.size, 0, none⟩)] eg g 0 st.own.length cap st.own (w.alloc (.cells #[.int .u64 a.f, .int .u64 a.t] 25))
        (predMay a w.heap.size _ (by simp) (by simp) (by simp)) (Nat.le_refl _) (Nat.le_trans hcap (by unfold maxLen at hcm; omega)) (by simp; omega) (fun j hj i u hu => Lib.cell?_alloc_some _ (hrow j hj i u hu))
      change Calls Tryz.prog 71 _ _ _ at hcon
      have hval : st.may a ep = !((st.own.take st.own.length).any fun o => !apartA o.arc a) := by
        simp [HSt.may, hep, List.take_length, List.any_eq_not_all_not]
      clear h2 hrow
      have HV := Lib.hid hval
      clear hval
      generalize ((st.own.take st.own.length).any fun o => !apartA o.arc a) = r at hcon HV
      go_enter Tryz.func69, Tryz.ntmps69
      go_wp2_with (go_at_call 71; refine hcon.mono ?_; rintro e w' ⟨rfl, hb⟩; have HB := Lib.hid hb; clear hb)
      go_ret
      exact ⟨by rw [HV.out]; rfl, ((Mod.refl _ _).alloc _).trans (Mod.ofBelow HB.out)⟩
  · have HV := Lib.hid (show st.may a ep = false by simp [HSt.may, hep])
    clear h2
    go_enter Tryz.func69, Tryz.ntmps69
    go_wp2_with fail
    go_ret
    exact ⟨by rw [HV.out]; rfl, (Mod.refl _ _).alloc _⟩
end Go.Proofs.YtpcmbnbdppembaaGreatDoor
