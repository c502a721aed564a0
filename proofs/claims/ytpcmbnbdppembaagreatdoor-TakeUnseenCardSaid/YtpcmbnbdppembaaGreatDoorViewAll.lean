/- (*view.View).All: it goes through all arcs, each once. -/
import Derived.Test.YtpcmbnbdppembaaGreatDoorViewLearn
import Derived.Test.YtpcmbnbdppembaaGreatDoorViewNone
import Derived.Test.YtpcmbnbdppembaaGreatDoorSeqB
namespace Go.Proofs.YtpcmbnbdppembaaGreatDoor
set_option linter.unusedSimpArgs false
set_option linter.unusedVariables false
open Go.RowKit Go.Shelf
attribute [local go_sem ↓] Go.wp_at_zero Go.wp_at_succ
attribute [local go_sem] Oper.semAt_some

abbrev encO (o : Ow) : Array Value := #[.agg #[.int .u64 o.f, .int .u64 o.t, .int .i64 o.node, .int .i64 o.ep]]
/-- what view.arcs tells, from a world on -/
def ArcsOK (v : Nat) (xs : List Ow) (w : World) : Prop := ∀ W, Mod NoB w W → Calls Tryz.prog 165 #[.pointer (some ⟨v, 0, none⟩)] W fun e w' =>
  ∃ u, e = .returned u ∧ SlAt 4 encOw w' u xs ∧ (∀ g ∈ ownL u, W.heap.size ≤ g ∧ g < w'.heap.size) ∧ Mod NoB W w'

theorem ofN {β : Type} {B0 : Nat} {J : β → World → Prop} (hJ : OwnFrom B0 J) {s : β} {A B : World} (h : J s A) (hm : Mod NoB A B) : J s B :=
  hJ s A B none h (Mod.grown hm) (fun r e => by cases e)

structure VInv (Bo : Nat) (vl : Value) (xs : List Ow) (J : List Ow → World → Prop) (pre : List Ow) (wr : World) : Prop where
  ap : Apart Bo wr (ownL vl)
  items : SlAt 4 encOw wr vl xs
  j : J pre wr
theorem VInv.mod {Bo : Nat} {vl : Value} {xs : List Ow} {J : List Ow → World → Prop} {pre : List Ow} {wr w' : World} {B0 : Nat} (hJ : OwnFrom B0 J) (h : VInv Bo vl xs J pre wr) (hm : Mod NoB wr w') : VInv Bo vl xs J pre w' :=
  ⟨h.ap.more hm (fun g hg => .inl hg), h.items.mod hm, ofN hJ h.j hm⟩
theorem VInv.keep {Bo : Nat} {vl : Value} {xs : List Ow} {J : List Ow → World → Prop} {pre pre' : List Ow} {wr w' : World} (h : VInv Bo vl xs J pre wr) (hk : KeepsC Bo wr w') (hj : J pre' w') : VInv Bo vl xs J pre' w' :=
  ⟨h.ap.keep hk, slAt_keep h.items hk (fun g hg => h.ap.not g hg), hj⟩

set_option maxRecDepth 100000 in
set_option maxHeartbeats 8000000 in
theorem vall_any {Bv v Bo : Nat} {xs : List Ow} {w : World} (hA : ArcsOK v xs w) (hxl : xs.length ≤ 1000000) (h1 : w.cell? ⟨Bv, 0, none⟩ = some (.pointer (some ⟨v, 0, none⟩))) (hap : Apart Bo w []) :
    SeqC 5 Tryz.prog 164 #[.pointer (some ⟨Bv, 0, none⟩)] encO (KeepsC Bo) xs.length xs w := by
  intro l J Jx W hW hJ hJx hY h0
  have hm := Mod.ofBelow hW
  have c1 := hm.cellS h1
  have hAW := hA W hm
  have HY := Lib.hid hY; have HJ := Lib.hid hJ; have H0 := Lib.hid h0
  have HAP := Lib.hid (hap.more hm (fun g hg => .inl hg) : Apart Bo W [])
  refine callsIn_wide.2 ?_
  clear hJ hJx h0 hW h1 hm hY hA hap
  show Calls _ _ #[.func (.yield l) #[] #[], .pointer (some ⟨Bv, 0, none⟩)] W _
  go_enter Tryz.func164, Tryz.ntmps164
  go_wp2_with fail
  refine hAW.mono ?_
  rintro e w1 ⟨vl, rfl, hl1, hl3, hl2⟩
  have hinv : VInv Bo vl xs J (xs.take 0) w1 :=
    ⟨HAP.out.more hl2 (fun g hg => .inr (hl3 g hg)), hl1, ofN HJ.out (by simpa using H0.out) hl2⟩
  obtain ⟨av, capl, rfl, _⟩ := id hinv.items
  have HINV := Lib.hid hinv
  clear hinv hl1 hl2 hl3 hAW c1
  go_wp2_with fail
  refine (wpIn_wide (n := 5)).1 ?_
  gi_loopw [8] (fun i wr => ∃ j : Nat, j ≤ xs.length ∧ i = .int .i64 j ∧ VInv Bo (.slice av xs.length capl) xs J (xs.take j) wr) (fun i _ => xs.length - (intOf i).toNat)
  case atStart => exact ⟨0, Nat.zero_le _, rfl, HINV.out⟩
  case round =>
    clear HINV
    obtain ⟨j, hj, rfl, hinvj⟩ := hrel
    have HINV := Lib.hid hinvj
    clear hinvj
    by_cases hltj : j < xs.length
    · have hex : xs[j]? = some xs[j] := List.getElem?_eq_getElem hltj
      generalize xs[j] = x at hex
      obtain ⟨b', o', cap', hv, hb', r0, r1, r2, r3⟩ := at4w HINV.out.items hex
      simp only [Value.slice.injEq] at hv
      obtain ⟨rfl, _, rfl⟩ := hv
      have htk : xs.take (j + 1) = xs.take j ++ [x] := by rw [List.take_add_one, hex]; rfl
      have HTK := Lib.hid htk
      have HLJ := Lib.hid hltj
      clear hex htk
      have hinvA := HINV.out.mod HJ.out ((Mod.refl NoB wr).alloc (.cells #[.int .u64 x.f, .int .u64 x.t, .int .i64 x.node, .int .i64 x.ep] 128))
      obtain ⟨fn, tmps, assign, body, hy, hR⟩ := HY.out _ x _ hinvA.j (by rw [List.length_take]; omega)
      have HA := Lib.hid hinvA
      clear hinvA
      gi_wp2
      refine hR.mono ?_
      clear hR hy
      rintro e W3 ⟨_, (⟨rfl, hJ3, hk3⟩ | ⟨rfl, hJx3⟩)⟩
      · have HJ3 := Lib.hid hJ3
        have HK3 := Lib.hid hk3
        clear hJ3 hk3
        gi_wp2
        refine ⟨⟨j + 1, HLJ.out, by go_num, ?_⟩, by have := HLJ.out; simp [intOf]; omega⟩
        rw [HTK.out]
        exact HA.out.keep HK3.out HJ3.out
      · have HJX := Lib.hid hJx3
        clear hJx3
        gi_wp2
        refine bodyPost_ret (results_none rfl _ _ _) rfl ⟨⟨_, rfl⟩, .inr ⟨_, ?_, HJX.out⟩⟩
        rw [← HTK.out]
        exact List.take_prefix _ _
    · obtain rfl : j = xs.length := by omega
      have HJE := Lib.hid HINV.out.j
      gi_wp2
      refine bodyPost_end (results_none rfl _ _ _) rfl ⟨⟨_, rfl⟩, .inl ⟨xs, rfl, ?_⟩⟩
      have := HJE.out
      rwa [List.take_length] at this
end Go.Proofs.YtpcmbnbdppembaaGreatDoor
