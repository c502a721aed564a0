/- (*shelf.Shelf).find in a tree. -/
import Derived.Test.YtpcmbnbdppembaaGreatDoorTreeDown
import Derived.Deep.LoopGhost
import Derived.Deep.QuietTactic
import Derived.BigQuiet
namespace Go.Proofs.YtpcmbnbdppembaaGreatDoor
set_option linter.unusedSimpArgs false
set_option linter.unusedVariables false
open Go.RowKit Go.Shelf
attribute [local go_sem ↓] Go.wp_at_zero Go.wp_at_succ

theorem leaf_node {w : World} {b : Nat} {v u : Value} {xs : List Itm} {bs : List Nat} (h : NodeAt w b v xs u bs) :
    Calls Tryz.prog 148 #[.pointer (some ⟨b, 0, none⟩)] w fun e w' => e = .returned (.bool (decide (bs.length = 0))) ∧ w' = w := by
  obtain ⟨h1, h2, h3⟩ := h
  have c1 : w.cell? ⟨b, 1, none⟩ = some u := cell_of h1 1 rfl
  have hu : ∃ a cap, u = .slice a bs.length cap := by
    rcases ownsRow_form h3 with ⟨e1, e⟩ | ⟨g, cap, e⟩
    · exact ⟨none, 0, by rw [e1, e]⟩
    · exact ⟨_, cap, e⟩
  obtain ⟨a, cap, rfl⟩ := hu
  clear h1 h2 h3
  go_enter Tryz.func148, Tryz.ntmps148
  go_wp2_with fail
  go_ret
  refine ⟨?_, rfl⟩
  show Ending.returned (.bool _) = _
  congr 2
  rw [Bool.eq_iff_iff]
  simp

/-- what find gives -/
def Found (w : World) (b d : Nat) (t : Tree) (L : List Nat) (k : ByteArray) (e : Ending) (w' : World) : Prop :=
  (getS k t.its = none ∧ e = .returned (.tuple #[.pointer none, .int .i64 0]) ∧ Mod NoB w w') ∨
  ∃ xb g i n cap vv, getS k t.its = some vv ∧ e = .returned (.tuple #[.pointer (some ⟨xb, 0, none⟩), .int .i64 ((i : Nat) : Int)]) ∧ Mod NoB w w' ∧
    w.cell? ⟨xb, 0, none⟩ = some (.slice (some ⟨g, 0, none⟩) n cap) ∧ i < n ∧ n ≤ cap ∧ w.cell? ⟨g, i * 2 + 1, none⟩ = some (.string vv) ∧ w.cell? ⟨g, i * 2, none⟩ = some (.string k) ∧ w.frozen? ⟨g, i * 2 + 1, none⟩ = false ∧ g ∈ L ∧ xb ∈ L ∧ g ≠ xb ∧ g < w.heap.size ∧
    ∀ W v, Mod NoB w W → ∃ t', TreeP (W.setCell ⟨g, i * 2 + 1, none⟩ (.string v)) b t' L ∧ okT d t' ∧ t'.xs.length = t.xs.length ∧ t'.its = setS k v t.its

set_option maxRecDepth 100000 in
set_option maxHeartbeats 8000000 in
theorem find_some {w : World} {s b d : Nat} {t : Tree} {L : List Nat} (hc : w.cell? ⟨s, 2, none⟩ = some (.pointer (some ⟨b, 0, none⟩))) (h : TreeP w b t L) (ho : okT d t) (hr : Rising t.its) (hn : L.Nodup) (hs : ∀ x ∈ t.its, x.1.size ≤ 1000000) (k : ByteArray) (hk : k.size ≤ 1000000) :
    Calls Tryz.prog 146 #[.pointer (some ⟨s, 0, none⟩), .string k] w (Found w b d t L k) := by
  have H0 := Lib.hid (Down.start (k := k) h ho hr hn hs)
  clear h ho hr hn hs
  go_enter Tryz.func146, Tryz.ntmps146
  go_wp2_with fail
  go_step3
  go_wp2_with fail
  go_step3
  go_wp2_with fail
  go_loopg [6] d (fun dx p wr => ∃ xb tx Lx, p = .pointer (some ⟨xb, 0, none⟩) ∧ Down w k d b t L dx xb tx Lx ∧ Mod NoB w wr)
  case atStart => exact ⟨b, t, L, rfl, H0.out, Mod.refl _ _⟩
  case round =>
    obtain ⟨xb, tx, Lx, rfl, hdown, hmod⟩ := hrel
    obtain ⟨xs, ts⟩ := tx
    obtain ⟨v, u, bs, Ls, hnode, _, _⟩ := hdown.tree.open
    have hts := hdown.ok.kids
    have hbl := (TreesP.len ‹TreesP w bs ts Ls›)
    have hcn := hnode.mod hmod (fun _ _ x => x)
    have hpl := place_any hcn k (by have := hdown.ok.wide; simp only [Tree.xs] at this; omega) hk (fun x hx => hdown.small x (hdown.ok.mem hx))
    have hlf := fun W (hm : Mod NoB wr W) => leaf_node (hcn.mod hm (fun _ _ x => x))
    have HPL := Lib.hid hpl; have HLF := Lib.hid hlf; have HMOD := Lib.hid hmod; have HBL := Lib.hid hbl; have HTS := Lib.hid hts
    clear hpl hlf hcn hnode hmod hbl hts
    rcases plc_spec (k := k) (rising_xs hdown.rising) with ⟨x1, vv, x2, e1, e2, e3, e4⟩ | ⟨x1, x2, e1, e2, e3, e4⟩
    · rw [e2] at HPL
      dsimp only at HPL
      have HD := Lib.hid hdown
      have HE := Lib.hid e1
      clear hdown e1 e2 e3 e4
      go_wp2_with (go_at_call 194; refine HPL.out.mono ?_; rintro e w1 ⟨rfl, hm1⟩; have HM1 := Lib.hid hm1; clear hm1)
      rw [Exit.noGoto_ret]
      go_ret2
      have hd := HD.out
      rw [HE.out] at hd
      obtain ⟨g, n, cap, q1, q2, q3, q4, q5, q6, q7, q8, q9, q10, q11, q12⟩ := hd.found
      exact .inr ⟨xb, g, x1.length, n, cap, vv, q1, rfl, HMOD.out.trans HM1.out, q2, q3, q4, q5, q6, q7, q8, q9, q10, q11, q12⟩
    · rw [e2] at HPL
      dsimp only at HPL
      have HE3 := Lib.hid e3; have HE4 := Lib.hid e4
      subst e1
      cases gk with
      | zero =>
        have hts : ts = [] := by have := hdown.ok; unfold okT at this; exact this.1
        have hbs : bs.length = 0 := by rw [HBL.out, hts]; rfl
        have HD := Lib.hid hdown
        clear hdown e2 e3 e4 hts
        go_wp2_with (first
          | (go_at_call 194; refine HPL.out.mono ?_; rintro e w1 ⟨rfl, hm1⟩; have HM1 := Lib.hid hm1; clear hm1)
          | (go_at_call 148; refine (HLF.out _ HM1.out).mono ?_; rintro e w2 ⟨rfl, rfl⟩))
        rw [Exit.noGoto_ret]
        go_ret2
        exact .inl ⟨HD.out.missed HE3.out HE4.out, rfl, HMOD.out.trans HM1.out⟩
      | succ dx =>
        obtain ⟨v', u', bs', c, tc, Lc, n1, n2, n3, n4⟩ := hdown.step e3 e4
        have hnd := n1.mod HMOD.out (fun _ _ x => x)
        obtain ⟨m1, m2, m3⟩ := hnd
        have hbs : ¬ bs.length = 0 := by
          rw [HBL.out]
          have := hdown.ok
          unfold okT at this
          omega
        rcases ownsRow_form m3 with ⟨_, h0⟩ | ⟨gu, cu, rfl⟩
        · omega
        have cu1 : wr.cell? ⟨xb, 1, none⟩ = some (.slice (some ⟨gu, 0, none⟩) bs'.length cu) := cell_of m1 1 rfl
        have ci1 : wr.cell? ⟨gu, x1.length, none⟩ = some (.pointer (some ⟨c, 0, none⟩)) := by
          have := m3.cells (g := gu) rfl x1.length (.pointer (some ⟨c, 0, none⟩)) (by simpa using flat_cell (k := 1) (enc := encNd) (fun _ => rfl) _ x1.length c n2 0 _ rfl)
          rwa [addr_lit, Nat.zero_add] at this
        have hil : x1.length < bs'.length := by omega
        have hil2 : bs'.length ≤ 9223372036854775807 := by
          have := hdown.ok.wide
          simp at this
          omega
        have HD := Lib.hid n4; have CU := Lib.hid cu1; have CI := Lib.hid ci1; have HBS := Lib.hid hbs
        clear hdown e2 e3 e4 n1 n2 n3 n4 m1 m2 m3 cu1 ci1
        go_wp2_with (first
          | (go_at_call 194; refine HPL.out.mono ?_; rintro e w1 ⟨rfl, hm1⟩; have HM1 := Lib.hid hm1; have ku := hm1.cellS CU.out; have ki := hm1.cellS CI.out; clear hm1)
          | (go_at_call 148; refine (HLF.out _ HM1.out).mono ?_; rintro e w2 ⟨rfl, rfl⟩))
        go_roundg dx
        case measure => exact Nat.lt_succ_self _
        case rel => exact ⟨c, tc, Lc, rfl, HD.out, HMOD.out.trans HM1.out⟩
end Go.Proofs.YtpcmbnbdppembaaGreatDoor
