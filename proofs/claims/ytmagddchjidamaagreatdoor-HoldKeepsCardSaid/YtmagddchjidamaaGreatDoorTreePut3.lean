/- (*shelf.node).put, whole: what it gives (PutR); of a leaf. -/
import Derived.Test.YtmagddchjidamaaGreatDoorTreePut2
namespace Go.Proofs.YtmagddchjidamaaGreatDoor
set_option linter.unusedSimpArgs false
set_option linter.unusedVariables false
open Go.RowKit Go.Shelf

/-- what put makes of a tree: LX: the blocks of what came of it -/
def PutR (w : World) (b d : Nat) (t : Tree) (L : List Nat) (it : Itm) (q : Option Addr) (up : Itm) (LX : List Nat) (w' : World) : Prop :=
  Turn L w w' LX ∧ LX.Nodup ∧
  ((q = none ∧ ∃ t', TreeP w' b t' LX ∧ t'.its = insS it t.its ∧ okT d t' ∧ t.xs.length ≤ t'.xs.length) ∨
   ∃ c t1 t2 L1 L2, q = some ⟨c, 0, none⟩ ∧ TreeP w' b t1 L1 ∧ TreeP w' c t2 L2 ∧ LX.Perm (L1 ++ L2) ∧ t1.its ++ up :: t2.its = insS it t.its ∧ okT d t1 ∧ okT d t2 ∧ 3 ≤ t1.xs.length ∧ 3 ≤ t2.xs.length)

def PutE (w : World) (b d : Nat) (t : Tree) (L : List Nat) (it : Itm) (e : Ending) (w' : World) : Prop :=
  ∃ up q LX, e = .returned (.tuple #[.agg #[.string up.1, .string up.2], .pointer q]) ∧ PutR w b d t L it q up LX w'

/-- the contract of put at a depth -/
def NPutOK (d : Nat) : Prop := ∀ (w : World) (b : Nat) (t : Tree) (L : List Nat) (it : Itm), TreeP w b t L → okT d t → L.Nodup → Rising t.its → (∀ x ∈ t.its, x.1.size ≤ 1000000) → it.1.size ≤ 1000000 → getS it.1 t.its = none →
  Calls Tryz.prog 90 #[.pointer (some ⟨b, 0, none⟩), .agg #[.string it.1, .string it.2]] w (PutE w b d t L it)

theorem insS_leaf {x1 x2 : List Itm} {it : Itm} (hl : AllLt x1 it.1) (hg : AllGt x2 it.1) : insS it (x1 ++ x2) = x1 ++ it :: x2 := by
  have := insS_mid (x := it) (A := x1) (C := []) (B := x2) hl hg
  simpa [insS_nil] using this

theorem plc_none {k : ByteArray} {xs : List Itm} (hr : Rising xs) (hn : getS k xs = none) : ∃ x1 x2, xs = x1 ++ x2 ∧ plc k xs = (x1.length, false) ∧ AllLt x1 k ∧ AllGt x2 k := by
  rcases plc_spec (k := k) hr with ⟨x1, v, x2, e1, e2, e3, e4⟩ | h
  · exfalso
    have := get_none_any hn (k, v) (by rw [e1]; simp)
    exact this rfl
  · exact h

theorem put_leaf_ok : NPutOK 0 := by
  intro w b t L it ht ho hn hr hs hk hg
  obtain ⟨xs, ts⟩ := t
  unfold okT at ho
  obtain ⟨rfl, hw⟩ := ho
  rw [its_leaf] at hr hs hg
  obtain ⟨v, u, bs, Ls, h1, h2, hp⟩ := ht.open
  have hbs : bs = [] := List.eq_nil_of_length_eq_zero h2.len
  subst hbs
  unfold TreesP at h2
  subst h2
  rw [List.append_nil] at hp
  obtain ⟨x1, x2, rfl, e2, e3, e4⟩ := plc_none hr hg
  have hnn := (hp.nodup_iff).1 hn
  by_cases h6 : (x1 ++ x2).length + 1 ≤ 6
  · refine (nput_leaf it h1 hnn e2 h6 hk hs).mono ?_
    rintro e w' ⟨rfl, v', q1, q2, q3⟩
    refine ⟨(⟨#[]⟩, ⟨#[]⟩), none, nodeL b v' u, rfl, q3.perm hp.symm (List.Perm.refl _), q2, .inl ⟨rfl, .mk (x1 ++ it :: x2) [], ?_, ?_, ?_, ?_⟩⟩
    · have := treeP_of q1 (TreesP.nil w')
      simpa using this
    · rw [its_leaf, its_leaf, insS_leaf e3 e4]
    · unfold okT
      refine ⟨rfl, ?_⟩
      simp at h6 ⊢
      omega
    · simp
  · refine (nput_leaf7 it h1 hnn e2 hw (by omega) hk hs).mono ?_
    rintro e w' ⟨up, xl, xr, c, v1, v2, u1, u2, bl, br, rfl, hx, hl3, hr3, hb, _, q1, q2, q3, q4⟩
    obtain ⟨rfl, rfl⟩ := List.append_eq_nil_iff.1 hb.symm
    refine ⟨up, some ⟨c, 0, none⟩, _, rfl, q4.perm hp.symm (List.Perm.refl _), q3, .inr ⟨c, .mk xl [], .mk xr [], _, _, rfl, ?_, ?_, List.Perm.refl _, ?_, ?_, ?_, ?_, ?_⟩⟩
    · have := treeP_of q1 (TreesP.nil w')
      simpa using this
    · have := treeP_of q2 (TreesP.nil w')
      simpa using this
    · rw [its_leaf, its_leaf, its_leaf, insS_leaf e3 e4, hx]
    · unfold okT; exact ⟨rfl, by omega⟩
    · unfold okT; exact ⟨rfl, by omega⟩
    · simp [hl3]
    · simp [hr3]
end Go.Proofs.YtmagddchjidamaaGreatDoor
