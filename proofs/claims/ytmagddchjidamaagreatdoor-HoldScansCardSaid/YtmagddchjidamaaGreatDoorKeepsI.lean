/- What the body of a loop may turn when the row that it grows is a field of a structure (KeepsI: field bi of block Bo). -/
import Derived.Test.YtmagddchjidamaaGreatDoorKeeps
namespace Go.Proofs.YtmagddchjidamaaGreatDoor
set_option linter.unusedSimpArgs false
set_option linter.unusedVariables false
open Go.RowKit

/-- the block of the variable, or of the row that it holds -/
def BodyI (Bo bi : Nat) (W : World) (k : Nat) : Prop := k = Bo ∨ ∃ v, W.cell? ⟨Bo, bi, none⟩ = some v ∧ k ∈ ownL v

structure KeepsI (Bo bi : Nat) (W W' : World) : Prop where
  size : W.heap.size ≤ W'.heap.size
  cells : ∀ k o, W.heap[k]? = some o → o.isCells = true → ¬ BodyI Bo bi W k → W'.heap[k]? = some o
  body : ∀ k, BodyI Bo bi W' k → BodyI Bo bi W k ∨ W.heap.size ≤ k
  lt : (∀ k, BodyI Bo bi W k → k < W.heap.size) → ∀ k, BodyI Bo bi W' k → k < W'.heap.size

theorem KeepsI.trans {Bo bi : Nat} {A B C : World} (h : KeepsI Bo bi A B) (k : KeepsI Bo bi B C) : KeepsI Bo bi A C :=
  ⟨Nat.le_trans h.size k.size, fun i o ho hc hn => k.cells i o (h.cells i o ho hc hn) hc (fun hb => (h.body i hb).elim hn (fun hle => by have := (Array.getElem?_eq_some_iff.1 ho).1; omega)),
    fun i hi => (k.body i hi).elim (fun hb => h.body i hb) (fun hle => .inr (Nat.le_trans h.size hle)), fun hl => k.lt (h.lt hl)⟩

theorem BodyI.same {Bo bi : Nat} {W W' : World} (hc : W'.cell? ⟨Bo, bi, none⟩ = W.cell? ⟨Bo, bi, none⟩) (k : Nat) : BodyI Bo bi W' k ↔ BodyI Bo bi W k := by
  unfold BodyI
  rw [hc]

theorem keepsI_b {Bo bi : Nat} {w : World} (hBo : Bo < w.heap.size) (W : World) (l : Nat) (o o' : Obj) (hl : w.heap.size ≤ l) (h : W.heap[l]? = some o) (hc : o.isCells = false) (_ : o.isWalk = false) : KeepsI Bo bi W (W.putObj l o') := by
  have hg := grownBy_putObj' W l o'
  have hll : l < W.heap.size := (Array.getElem?_eq_some_iff.1 h).1
  have hcell : (W.putObj l o').cell? ⟨Bo, bi, none⟩ = W.cell? ⟨Bo, bi, none⟩ := World.cell?_of_block (hg.block Bo (by omega) (by simp; omega))
  refine ⟨hg.size, fun k o1 ho1 hc1 _ => ?_, fun k hk => .inl ((BodyI.same hcell k).1 hk), fun hlt k hk => Nat.lt_of_lt_of_le (hlt k ((BodyI.same hcell k).1 hk)) hg.size⟩
  have hkl : k ≠ l := by
    intro e
    subst e
    rw [ho1] at h
    cases h
    rw [hc1] at hc
    cases hc
  rw [hg.block k (Array.getElem?_eq_some_iff.1 ho1).1 (by simpa using hkl)]
  exact ho1

theorem KeepsI.cell {Bo bi : Nat} {W W' : World} (h : KeepsI Bo bi W W') {p : Addr} {v : Value} (hc : W.cell? p = some v) (hn : ¬ BodyI Bo bi W p.block) : W'.cell? p = some v := by
  obtain ⟨o, ho, hcells⟩ := isCells_of_cell hc
  have := h.cells p.block o ho hcells hn
  rw [World.cell?_of_block (w := W) (by rw [this, ho])]
  exact hc

theorem slAt_keepI {α : Type} {k : Nat} {enc : α → List Value} {Bo bi : Nat} {w w' : World} {v : Value} {xs : List α} (h : SlAt k enc w v xs) (hk : KeepsI Bo bi w w') (hb : ∀ g ∈ ownL v, ¬ BodyI Bo bi w g) : SlAt k enc w' v xs := by
  obtain ⟨a, cap, hv, hx⟩ := h
  refine ⟨a, cap, hv, fun i x hi => ?_⟩
  obtain ⟨b, o, ha, hj⟩ := hx i x hi
  refine ⟨b, o, ha, fun j u hu => hk.cell (hj j u hu) (hb b ?_)⟩
  subst hv ha
  simp [ownL, Value.ownBlock]

theorem KeepsI.ofMod {Bo bi : Nat} {w w' : World} (h : Mod NoB w w') (hBo : Bo < w.heap.size) : KeepsI Bo bi w w' := by
  have hcell : w'.cell? ⟨Bo, bi, none⟩ = w.cell? ⟨Bo, bi, none⟩ := h.cell (p := ⟨Bo, bi, none⟩) hBo (fun x => x)
  refine ⟨h.size, fun k o ho _ _ => ?_, fun k hk => .inl ((BodyI.same hcell k).1 hk), fun hlt k hk => Nat.lt_of_lt_of_le (hlt k ((BodyI.same hcell k).1 hk)) h.size⟩
  rw [h.block k (Array.getElem?_eq_some_iff.1 ho).1 (fun x => x)]
  exact ho

/-- what a body must leave as it is, and what it has not -/
structure ApartI (Bo bi : Nat) (W : World) (L : List Nat) : Prop where
  lt : Bo < W.heap.size
  all : ∀ k, BodyI Bo bi W k → k < W.heap.size
  not : ∀ g ∈ L, ¬ BodyI Bo bi W g
  old : ∀ g ∈ L, g < W.heap.size

theorem ApartI.keep {Bo bi : Nat} {W W' : World} {L : List Nat} (h : ApartI Bo bi W L) (hk : KeepsI Bo bi W W') : ApartI Bo bi W' L :=
  ⟨Nat.lt_of_lt_of_le h.lt hk.size, hk.lt h.all, fun g hg hb => (hk.body g hb).elim (h.not g hg) (fun hle => by have := h.old g hg; omega), fun g hg => Nat.lt_of_lt_of_le (h.old g hg) hk.size⟩

theorem ApartI.more {Bo bi : Nat} {W W' : World} {L L' : List Nat} (h : ApartI Bo bi W L) (hm : Mod NoB W W') (hl : ∀ g ∈ L', g ∈ L ∨ (W.heap.size ≤ g ∧ g < W'.heap.size)) : ApartI Bo bi W' L' := by
  have hk := KeepsI.ofMod (bi := bi) hm h.lt
  have h2 := h.keep hk
  refine ⟨h2.lt, h2.all, fun g hg hb => ?_, fun g hg => ?_⟩
  · rcases hl g hg with h1 | ⟨h1, _⟩
    · exact h2.not g h1 hb
    · have hcell : W'.cell? ⟨Bo, bi, none⟩ = W.cell? ⟨Bo, bi, none⟩ := hm.cell (p := ⟨Bo, bi, none⟩) h.lt (fun x => x)
      have := h.all g ((BodyI.same hcell g).1 hb)
      omega
  · rcases hl g hg with h1 | ⟨_, h1⟩
    · exact h2.old g h1
    · exact h1

/-- blocks that are no cells and lie behind change nothing of it -/
theorem ApartI.own {Bo bi : Nat} {W W' : World} {L : List Nat} {row : Option Nat} (h : ApartI Bo bi W L) (hg : W.grownBy W' row) (hr : ∀ r, row = some r → Bo < r) : ApartI Bo bi W' L := by
  have hcell : W'.cell? ⟨Bo, bi, none⟩ = W.cell? ⟨Bo, bi, none⟩ := World.cell?_of_block (hg.block Bo h.lt (fun e => by have := hr _ e.symm; omega))
  have hs := hg.size
  exact ⟨by have := h.lt; omega, fun k hk => by have := h.all k ((BodyI.same hcell k).1 hk); omega, fun g hg' hb => h.not g hg' ((BodyI.same hcell g).1 hb), fun g hg' => by have := h.old g hg'; omega⟩
end Go.Proofs.YtmagddchjidamaaGreatDoor
