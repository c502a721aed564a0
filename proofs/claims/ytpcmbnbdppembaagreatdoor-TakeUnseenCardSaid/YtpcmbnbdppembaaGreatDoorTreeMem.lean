/- A tree's nodes in memory: which blocks are its own (up to their order), taken apart and put together again. -/
import Derived.Test.YtpcmbnbdppembaaGreatDoorHoldRows
import Derived.Test.YtpcmbnbdppembaaGreatDoorSlIt
import Derived.Test.YtpcmbnbdppembaaGreatDoorSlNd
namespace Go.Proofs.YtpcmbnbdppembaaGreatDoor
set_option linter.unusedSimpArgs false
set_option linter.unusedVariables false
open Go.RowKit

/-- a node: its two cells, its rows -/
def NodeAt (w : World) (b : Nat) (v : Value) (xs : List Itm) (u : Value) (bs : List Nat) : Prop :=
  w.heap[b]? = some (.cells #[v, u] 190 (0, 0)) ∧ RowIt w v xs.length (xs.flatMap encIt) ∧ RowNd w u bs.length (bs.flatMap encNd)
abbrev nodeL (b : Nat) (v u : Value) : List Nat := b :: (ownL v ++ ownL u)

mutual
def TreeP (w : World) (b : Nat) : Tree → List Nat → Prop
  | .mk xs ts, L => ∃ v u bs Ls, NodeAt w b v xs u bs ∧ TreesP w bs ts Ls ∧ L.Perm (nodeL b v u ++ Ls)
def TreesP (w : World) : List Nat → List Tree → List Nat → Prop
  | [], [], L => L = []
  | b :: bs, t :: ts, L => ∃ L1 L2, TreeP w b t L1 ∧ TreesP w bs ts L2 ∧ L.Perm (L1 ++ L2)
  | _, _, _ => False
end

theorem NodeAt.mod {S : Nat → Prop} {w w' : World} {b : Nat} {v u : Value} {xs : List Itm} {bs : List Nat} (h : NodeAt w b v xs u bs) (hm : Mod S w w') (hs : ∀ k ∈ nodeL b v u, ¬ S k) : NodeAt w' b v xs u bs := by
  obtain ⟨h1, h2, h3⟩ := h
  refine ⟨?_, own_mod' h2 hm (fun k hk => hs k (by simp [nodeL, hk])), own_mod' h3 hm (fun k hk => hs k (by simp [nodeL, hk]))⟩
  rw [hm.block b (Array.getElem?_eq_some_iff.1 h1).1 (hs b (by simp [nodeL]))]
  exact h1
theorem NodeAt.lts {w : World} {b : Nat} {v u : Value} {xs : List Itm} {bs : List Nat} (h : NodeAt w b v xs u bs) : ∀ k ∈ nodeL b v u, k < w.heap.size := by
  obtain ⟨h1, h2, h3⟩ := h
  intro k hk
  simp only [nodeL, List.mem_cons, List.mem_append] at hk
  rcases hk with rfl | hk | hk
  · exact (Array.getElem?_eq_some_iff.1 h1).1
  · exact own_lt h2 k hk
  · exact own_lt h3 k hk

mutual
theorem TreeP.mod {S : Nat → Prop} {w w' : World} (hm : Mod S w w') : {b : Nat} → {t : Tree} → {L : List Nat} → TreeP w b t L → (∀ k ∈ L, ¬ S k) → TreeP w' b t L
  | b, .mk xs ts, L, h, hs => by
    unfold TreeP at h ⊢
    obtain ⟨v, u, bs, Ls, h1, h2, hp⟩ := h
    exact ⟨v, u, bs, Ls, h1.mod hm (fun k hk => hs k (hp.mem_iff.2 (List.mem_append_left _ hk))), TreesP.mod hm h2 (fun k hk => hs k (hp.mem_iff.2 (List.mem_append_right _ hk))), hp⟩
theorem TreesP.mod {S : Nat → Prop} {w w' : World} (hm : Mod S w w') : {bs : List Nat} → {ts : List Tree} → {L : List Nat} → TreesP w bs ts L → (∀ k ∈ L, ¬ S k) → TreesP w' bs ts L
  | [], [], _, h, _ => by unfold TreesP at h ⊢; exact h
  | b :: bs, t :: ts, L, h, hs => by
    unfold TreesP at h ⊢
    obtain ⟨L1, L2, h1, h2, hp⟩ := h
    exact ⟨L1, L2, TreeP.mod hm h1 (fun k hk => hs k (hp.mem_iff.2 (List.mem_append_left _ hk))), TreesP.mod hm h2 (fun k hk => hs k (hp.mem_iff.2 (List.mem_append_right _ hk))), hp⟩
  | [], _ :: _, _, h, _ => by unfold TreesP at h; exact h.elim
  | _ :: _, [], _, h, _ => by unfold TreesP at h; exact h.elim
end

mutual
theorem TreeP.lts {w : World} : {b : Nat} → {t : Tree} → {L : List Nat} → TreeP w b t L → ∀ k ∈ L, k < w.heap.size
  | b, .mk xs ts, L, h => by
    unfold TreeP at h
    obtain ⟨v, u, bs, Ls, h1, h2, hp⟩ := h
    intro k hk
    rcases List.mem_append.1 (hp.mem_iff.1 hk) with hk | hk
    · exact h1.lts k hk
    · exact TreesP.lts h2 k hk
theorem TreesP.lts {w : World} : {bs : List Nat} → {ts : List Tree} → {L : List Nat} → TreesP w bs ts L → ∀ k ∈ L, k < w.heap.size
  | [], [], _, h => by unfold TreesP at h; subst h; intro k hk; cases hk
  | b :: bs, t :: ts, L, h => by
    unfold TreesP at h
    obtain ⟨L1, L2, h1, h2, hp⟩ := h
    intro k hk
    rcases List.mem_append.1 (hp.mem_iff.1 hk) with hk | hk
    · exact TreeP.lts h1 k hk
    · exact TreesP.lts h2 k hk
  | [], _ :: _, _, h => by unfold TreesP at h; exact h.elim
  | _ :: _, [], _, h => by unfold TreesP at h; exact h.elim
end

theorem TreeP.perm {w : World} {b : Nat} {t : Tree} {L L' : List Nat} (h : TreeP w b t L) (hp : L'.Perm L) : TreeP w b t L' := by
  cases t
  unfold TreeP at h ⊢
  obtain ⟨v, u, bs, Ls, h1, h2, h3⟩ := h
  exact ⟨v, u, bs, Ls, h1, h2, hp.trans h3⟩
theorem TreesP.perm {w : World} {bs : List Nat} {ts : List Tree} {L L' : List Nat} (h : TreesP w bs ts L) (hp : L'.Perm L) : TreesP w bs ts L' := by
  cases bs <;> cases ts <;> unfold TreesP at h ⊢
  · subst h; exact hp.eq_nil
  · exact h.elim
  · exact h.elim
  · obtain ⟨L1, L2, h1, h2, h3⟩ := h
    exact ⟨L1, L2, h1, h2, hp.trans h3⟩

theorem TreesP.nil (w : World) : TreesP w [] [] [] := by unfold TreesP; rfl
theorem TreesP.cons {w : World} {b : Nat} {bs : List Nat} {t : Tree} {ts : List Tree} {L1 L2 : List Nat} (h1 : TreeP w b t L1) (h2 : TreesP w bs ts L2) : TreesP w (b :: bs) (t :: ts) (L1 ++ L2) := by
  unfold TreesP
  exact ⟨L1, L2, h1, h2, List.Perm.refl _⟩
theorem TreesP.len {w : World} : {bs : List Nat} → {ts : List Tree} → {L : List Nat} → TreesP w bs ts L → bs.length = ts.length
  | [], [], _, _ => rfl
  | b :: bs, t :: ts, L, h => by
    unfold TreesP at h
    obtain ⟨L1, L2, h1, h2, hp⟩ := h
    simp [TreesP.len h2]
  | [], _ :: _, _, h => by unfold TreesP at h; exact h.elim
  | _ :: _, [], _, h => by unfold TreesP at h; exact h.elim

theorem TreesP.append {w : World} : {bs1 : List Nat} → {ts1 : List Tree} → {L1 : List Nat} → {bs2 : List Nat} → {ts2 : List Tree} → {L2 : List Nat} → TreesP w bs1 ts1 L1 → TreesP w bs2 ts2 L2 → TreesP w (bs1 ++ bs2) (ts1 ++ ts2) (L1 ++ L2)
  | [], [], _, _, _, _, h, k => by unfold TreesP at h; subst h; exact k
  | b :: bs, t :: ts, L, _, _, L2, h, k => by
    unfold TreesP at h
    obtain ⟨La, Lb, h1, h2, hp⟩ := h
    exact (TreesP.cons h1 (TreesP.append h2 k)).perm ((hp.append_right L2).trans (by rw [List.append_assoc]))
  | [], _ :: _, _, _, _, _, h, _ => by unfold TreesP at h; exact h.elim
  | _ :: _, [], _, _, _, _, h, _ => by unfold TreesP at h; exact h.elim

theorem TreesP.parts {w : World} : (ts1 : List Tree) → {ts2 : List Tree} → {bs : List Nat} → {L : List Nat} → TreesP w bs (ts1 ++ ts2) L → ∃ bs1 bs2 L1 L2, bs = bs1 ++ bs2 ∧ TreesP w bs1 ts1 L1 ∧ TreesP w bs2 ts2 L2 ∧ L.Perm (L1 ++ L2)
  | [], ts2, bs, L, h => ⟨[], bs, [], L, rfl, TreesP.nil w, h, List.Perm.refl _⟩
  | t :: ts1, ts2, [], L, h => by rw [List.cons_append] at h; unfold TreesP at h; exact h.elim
  | t :: ts1, ts2, b :: bs, L, h => by
    rw [List.cons_append] at h
    unfold TreesP at h
    obtain ⟨La, Lb, h1, h2, hp⟩ := h
    obtain ⟨bs1, bs2, L1, L2, rfl, k1, k2, kp⟩ := TreesP.parts ts1 h2
    exact ⟨b :: bs1, bs2, La ++ L1, L2, rfl, TreesP.cons h1 k1, k2, hp.trans (by rw [List.append_assoc]; exact kp.append_left La)⟩

theorem TreesP.uncons {w : World} {t : Tree} {ts : List Tree} {bs : List Nat} {L : List Nat} (h : TreesP w bs (t :: ts) L) : ∃ b bs2 L1 L2, bs = b :: bs2 ∧ TreeP w b t L1 ∧ TreesP w bs2 ts L2 ∧ L.Perm (L1 ++ L2) := by
  cases bs with
  | nil => unfold TreesP at h; exact h.elim
  | cons b bs =>
    unfold TreesP at h
    obtain ⟨La, Lb, h1, h2, hp⟩ := h
    exact ⟨b, bs, La, Lb, rfl, h1, h2, hp⟩

/-- one child in the midst -/
theorem TreesP.mid {w : World} {A B : List Tree} {t : Tree} {bs : List Nat} {L : List Nat} (h : TreesP w bs (A ++ t :: B) L) :
    ∃ bA b bB LA Lt LB, bs = bA ++ b :: bB ∧ bA.length = A.length ∧ TreesP w bA A LA ∧ TreeP w b t Lt ∧ TreesP w bB B LB ∧ L.Perm (Lt ++ (LA ++ LB)) := by
  obtain ⟨bA, bs2, LA, L2, rfl, h1, h2, hp⟩ := TreesP.parts A h
  obtain ⟨b, bB, Lt, LB, rfl, h3, h4, hp2⟩ := TreesP.uncons h2
  refine ⟨bA, b, bB, LA, Lt, LB, rfl, h1.len, h1, h3, h4, hp.trans ?_⟩
  refine (hp2.append_left LA).trans ?_
  rw [← List.append_assoc, ← List.append_assoc]
  exact (List.perm_append_comm).append_right LB
theorem TreesP.of_mid {w : World} {A B : List Tree} {t : Tree} {bA bB : List Nat} {b : Nat} {LA Lt LB : List Nat} (h1 : TreesP w bA A LA) (h2 : TreeP w b t Lt) (h3 : TreesP w bB B LB) : TreesP w (bA ++ b :: bB) (A ++ t :: B) (Lt ++ (LA ++ LB)) := by
  refine (TreesP.append h1 (TreesP.cons h2 h3)).perm ?_
  rw [← List.append_assoc, ← List.append_assoc]
  exact (List.perm_append_comm).append_right LB

theorem treeP_of {w : World} {b : Nat} {v u : Value} {xs : List Itm} {bs : List Nat} {ts : List Tree} {Ls : List Nat} (h1 : NodeAt w b v xs u bs) (h2 : TreesP w bs ts Ls) : TreeP w b (.mk xs ts) (nodeL b v u ++ Ls) := by
  unfold TreeP
  exact ⟨v, u, bs, Ls, h1, h2, List.Perm.refl _⟩
theorem TreeP.open {w : World} {b : Nat} {xs : List Itm} {ts : List Tree} {L : List Nat} (h : TreeP w b (.mk xs ts) L) : ∃ v u bs Ls, NodeAt w b v xs u bs ∧ TreesP w bs ts Ls ∧ L.Perm (nodeL b v u ++ Ls) := by
  unfold TreeP at h
  exact h

mutual
theorem TreeP.at {w : World} : {b : Nat} → {t : Tree} → {L : List Nat} → TreeP w b t L → ∃ L', TreeAt w b t L' ∧ L'.Perm L
  | b, .mk xs ts, L, h => by
    unfold TreeP at h
    obtain ⟨v, u, bs, Ls, ⟨h1, h2, h3⟩, h4, hp⟩ := h
    have hl := h4.len
    obtain ⟨Ls', k1, k2⟩ := TreesP.at h4
    refine ⟨b :: (ownL v ++ ownL u ++ Ls'), ?_, ?_⟩
    · unfold TreeAt
      exact ⟨v, u, bs, Ls', h1, h2, by rw [← hl]; exact h3, k1, rfl⟩
    · refine List.Perm.trans ?_ hp.symm
      exact (k2.append_left (ownL v ++ ownL u)).cons b
theorem TreesP.at {w : World} : {bs : List Nat} → {ts : List Tree} → {L : List Nat} → TreesP w bs ts L → ∃ L', TreesAt w bs ts L' ∧ L'.Perm L
  | [], [], L, h => by
    unfold TreesP at h
    exact ⟨[], by unfold TreesAt; rfl, by rw [h]⟩
  | b :: bs, t :: ts, L, h => by
    unfold TreesP at h
    obtain ⟨L1, L2, h1, h2, hp⟩ := h
    obtain ⟨L1', a1, a2⟩ := TreeP.at h1
    obtain ⟨L2', b1, b2⟩ := TreesP.at h2
    exact ⟨L1' ++ L2', by unfold TreesAt; exact ⟨L1', L2', a1, b1, rfl⟩, (a2.append b2).trans hp.symm⟩
  | [], _ :: _, _, h => by unfold TreesP at h; exact h.elim
  | _ :: _, [], _, h => by unfold TreesP at h; exact h.elim
end
mutual
theorem treeP_at {w : World} : {b : Nat} → {t : Tree} → {L : List Nat} → TreeAt w b t L → TreeP w b t L
  | b, .mk xs ts, L, h => by
    unfold TreeAt at h
    obtain ⟨v, u, bs, Ls, h1, h2, h3, h4, rfl⟩ := h
    have k := treesP_at h4
    have hl := k.len
    unfold TreeP
    exact ⟨v, u, bs, Ls, ⟨h1, h2, by rw [hl]; exact h3⟩, k, by simp [nodeL]⟩
theorem treesP_at {w : World} : {bs : List Nat} → {ts : List Tree} → {L : List Nat} → TreesAt w bs ts L → TreesP w bs ts L
  | [], [], _, h => by unfold TreesAt at h; unfold TreesP; exact h
  | b :: bs, t :: ts, L, h => by
    unfold TreesAt at h
    obtain ⟨L1, L2, h1, h2, rfl⟩ := h
    exact TreesP.cons (treeP_at h1) (treesP_at h2)
  | [], _ :: _, _, h => by unfold TreesAt at h; exact h.elim
  | _ :: _, [], _, h => by unfold TreesAt at h; exact h.elim
end

/-! ### What is turned, and what is left alone -/
theorem turn_frame {D D' R : List Nat} {w w' : World} (hN : (D ++ R).Nodup) (hT : Turn D w w' D') (hD : D'.Nodup) (hR : ∀ k ∈ R, k < w.heap.size) : (D' ++ R).Nodup ∧ Turn (D ++ R) w w' (D' ++ R) ∧ ∀ k ∈ R, ¬ k ∈ D := by
  obtain ⟨h1, h2, h3⟩ := List.nodup_append.1 hN
  have hd : ∀ k ∈ R, ¬ k ∈ D := fun k hk hd => h3 k hd k hk rfl
  refine ⟨List.nodup_append.2 ⟨hD, h2, fun a ha b hb e => ?_⟩, ⟨hT.1.mono (fun k _ hk => List.mem_append_left _ hk), fun k hk => ?_⟩, hd⟩
  · subst e
    rcases hT.2 a ha with h | h
    · exact hd a hb h
    · have := hR a hb; omega
  · rcases List.mem_append.1 hk with hk | hk
    · rcases hT.2 k hk with h | h
      · exact .inl (List.mem_append_left _ h)
      · exact .inr h
    · exact .inl (List.mem_append_right _ hk)

theorem Turn.perm {A A' B B' : List Nat} {w w' : World} (h : Turn A w w' B) (ha : A.Perm A') (hb : B'.Perm B) : Turn A' w w' B' :=
  ⟨h.1.mono (fun k _ hk => ha.mem_iff.1 hk), fun k hk => (h.2 k (hb.mem_iff.1 hk)).imp (fun x => ha.mem_iff.1 x) id⟩
theorem Turn.of_no {A : List Nat} {w w' : World} (h : Mod NoB w w') : Turn A w w' A := ⟨h.mono (fun _ _ x => x.elim), fun _ hk => .inl hk⟩
end Go.Proofs.YtpcmbnbdppembaaGreatDoor
