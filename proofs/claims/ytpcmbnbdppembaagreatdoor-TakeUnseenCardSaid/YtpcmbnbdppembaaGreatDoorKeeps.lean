/- What the body of a loop over an iterator may turn (KeepsC): its own variable's cell and the row that it holds. -/
import Derived.Test.YtpcmbnbdppembaaGreatDoorShelfLeaf
import Derived.RangeFuncFrom
import Derived.RangeFuncBox
import Derived.RangeFuncLeaves
namespace Go.Proofs.YtpcmbnbdppembaaGreatDoor
set_option linter.unusedSimpArgs false
set_option linter.unusedVariables false
open Go.RowKit

/-- the block of the variable, or of the row that it holds -/
def BodyB (Bo : Nat) (W : World) (k : Nat) : Prop := k = Bo ∨ ∃ v, W.cell? ⟨Bo, 0, none⟩ = some v ∧ k ∈ ownL v

structure KeepsC (Bo : Nat) (W W' : World) : Prop where
  size : W.heap.size ≤ W'.heap.size
  cells : ∀ k o, W.heap[k]? = some o → o.isCells = true → ¬ BodyB Bo W k → W'.heap[k]? = some o
  body : ∀ k, BodyB Bo W' k → BodyB Bo W k ∨ W.heap.size ≤ k
  lt : (∀ k, BodyB Bo W k → k < W.heap.size) → ∀ k, BodyB Bo W' k → k < W'.heap.size

theorem KeepsC.trans {Bo : Nat} {A B C : World} (h : KeepsC Bo A B) (k : KeepsC Bo B C) : KeepsC Bo A C :=
  ⟨Nat.le_trans h.size k.size, fun i o ho hc hn => k.cells i o (h.cells i o ho hc hn) hc (fun hb => (h.body i hb).elim hn (fun hle => by have := (Array.getElem?_eq_some_iff.1 ho).1; omega)),
    fun i hi => (k.body i hi).elim (fun hb => h.body i hb) (fun hle => .inr (Nat.le_trans h.size hle)), fun hl => k.lt (h.lt hl)⟩

theorem BodyB.same {Bo : Nat} {W W' : World} (hc : W'.cell? ⟨Bo, 0, none⟩ = W.cell? ⟨Bo, 0, none⟩) (k : Nat) : BodyB Bo W' k ↔ BodyB Bo W k := by
  unfold BodyB
  rw [hc]

theorem keepsC_b {Bo : Nat} {w : World} (hBo : Bo < w.heap.size) (W : World) (l : Nat) (o o' : Obj) (hl : w.heap.size ≤ l) (h : W.heap[l]? = some o) (hc : o.isCells = false) (_ : o.isWalk = false) : KeepsC Bo W (W.putObj l o') := by
  have hg := grownBy_putObj' W l o'
  have hll : l < W.heap.size := (Array.getElem?_eq_some_iff.1 h).1
  have hcell : (W.putObj l o').cell? ⟨Bo, 0, none⟩ = W.cell? ⟨Bo, 0, none⟩ := World.cell?_of_block (hg.block Bo (by omega) (by simp; omega))
  refine ⟨hg.size, fun k o1 ho1 hc1 _ => ?_, fun k hk => .inl ((BodyB.same hcell k).1 hk), fun hlt k hk => Nat.lt_of_lt_of_le (hlt k ((BodyB.same hcell k).1 hk)) hg.size⟩
  have hkl : k ≠ l := by
    intro e
    subst e
    rw [ho1] at h
    cases h
    rw [hc1] at hc
    cases hc
  rw [hg.block k (Array.getElem?_eq_some_iff.1 ho1).1 (by simpa using hkl)]
  exact ho1

theorem isCells_of_cell {W : World} {p : Addr} {v : Value} (h : W.cell? p = some v) : ∃ o, W.heap[p.block]? = some o ∧ o.isCells = true := by
  unfold World.cell? at h
  split at h
  · rename_i c e f hb
    exact ⟨_, hb, rfl⟩
  · cases h

theorem KeepsC.cell {Bo : Nat} {W W' : World} (h : KeepsC Bo W W') {p : Addr} {v : Value} (hc : W.cell? p = some v) (hn : ¬ BodyB Bo W p.block) : W'.cell? p = some v := by
  obtain ⟨o, ho, hcells⟩ := isCells_of_cell hc
  have := h.cells p.block o ho hcells hn
  rw [World.cell?_of_block (w := W) (by rw [this, ho])]
  exact hc

theorem slAt_keep {α : Type} {k : Nat} {enc : α → List Value} {Bo : Nat} {w w' : World} {v : Value} {xs : List α} (h : SlAt k enc w v xs) (hk : KeepsC Bo w w') (hb : ∀ g ∈ ownL v, ¬ BodyB Bo w g) : SlAt k enc w' v xs := by
  obtain ⟨a, cap, hv, hx⟩ := h
  refine ⟨a, cap, hv, fun i x hi => ?_⟩
  obtain ⟨b, o, ha, hj⟩ := hx i x hi
  refine ⟨b, o, ha, fun j u hu => hk.cell (hj j u hu) (hb b ?_)⟩
  subst hv ha
  simp [ownL, Value.ownBlock]

theorem KeepsC.ofMod {Bo : Nat} {w w' : World} (h : Mod NoB w w') (hBo : Bo < w.heap.size) : KeepsC Bo w w' := by
  have hcell : w'.cell? ⟨Bo, 0, none⟩ = w.cell? ⟨Bo, 0, none⟩ := h.cell (p := ⟨Bo, 0, none⟩) hBo (fun x => x)
  refine ⟨h.size, fun k o ho _ _ => ?_, fun k hk => .inl ((BodyB.same hcell k).1 hk), fun hlt k hk => Nat.lt_of_lt_of_le (hlt k ((BodyB.same hcell k).1 hk)) h.size⟩
  rw [h.block k (Array.getElem?_eq_some_iff.1 ho).1 (fun x => x)]
  exact ho

theorem Mod.grown {w w' : World} (h : Mod NoB w w') : w.grownBy w' none := ⟨h.os, h.tape, h.output, h.size, fun k hk _ => h.block k hk (fun x => x)⟩

/-- what a body must leave as it is, and what it has not -/
structure Apart (Bo : Nat) (W : World) (L : List Nat) : Prop where
  lt : Bo < W.heap.size
  all : ∀ k, BodyB Bo W k → k < W.heap.size
  not : ∀ g ∈ L, ¬ BodyB Bo W g
  old : ∀ g ∈ L, g < W.heap.size

theorem Apart.keep {Bo : Nat} {W W' : World} {L : List Nat} (h : Apart Bo W L) (hk : KeepsC Bo W W') : Apart Bo W' L :=
  ⟨Nat.lt_of_lt_of_le h.lt hk.size, hk.lt h.all, fun g hg hb => (hk.body g hb).elim (h.not g hg) (fun hle => by have := h.old g hg; omega), fun g hg => Nat.lt_of_lt_of_le (h.old g hg) hk.size⟩

theorem Apart.more {Bo : Nat} {W W' : World} {L L' : List Nat} (h : Apart Bo W L) (hm : Mod NoB W W') (hl : ∀ g ∈ L', g ∈ L ∨ (W.heap.size ≤ g ∧ g < W'.heap.size)) : Apart Bo W' L' := by
  have hk := KeepsC.ofMod hm h.lt
  have h2 := h.keep hk
  refine ⟨h2.lt, h2.all, fun g hg hb => ?_, fun g hg => ?_⟩
  · rcases hl g hg with h1 | ⟨h1, _⟩
    · exact h2.not g h1 hb
    · have hcell : W'.cell? ⟨Bo, 0, none⟩ = W.cell? ⟨Bo, 0, none⟩ := hm.cell (p := ⟨Bo, 0, none⟩) h.lt (fun x => x)
      have := h.all g ((BodyB.same hcell g).1 hb)
      omega
  · rcases hl g hg with h1 | ⟨_, h1⟩
    · exact h2.old g h1
    · exact h1
end Go.Proofs.YtpcmbnbdppembaaGreatDoor
