/- What a hold looks like in memory: its nine cells, its rows, its shelf (HoldAt, ShelfAt, TreeAt); what a call may turn (Turn). -/
import Derived.Test.YtmagddchjidamaaGreatDoorSeqRows
import Derived.Test.YtmagddchjidamaaGreatDoorArcPlain
import Derived.Maps.AppendAt
namespace Go.Proofs.YtmagddchjidamaaGreatDoor
set_option linter.unusedSimpArgs false
set_option linter.unusedVariables false
open Go.RowKit

/-! ### Rows that are owned -/
def ownL (v : Value) : List Nat := v.ownBlock.toList

theorem own_mod' {S : Nat → Prop} {w w' : World} {base : Nat} {e : TypeId} {size : Nat} {v : Value} {n : Nat} {xs : List Value} (h : w.ownsRow base e size v n xs) (hm : Mod S w w') (hs : ∀ k ∈ ownL v, ¬ S k) : w'.ownsRow base e size v n xs := by
  obtain ⟨h1, h2⟩ := h
  refine ⟨h1, ?_⟩
  rcases h2 with h2 | ⟨g, cap, cur, rfl, hg, hgc, hr⟩
  · exact .inl h2
  · refine .inr ⟨g, cap, cur, rfl, hg, ?_, hr⟩
    rw [hm.block g (Array.getElem?_eq_some_iff.1 hgc).1 (hs g (by simp [ownL, Value.ownBlock]))]
    exact hgc

theorem own_lt {w : World} {base : Nat} {e : TypeId} {size : Nat} {v : Value} {n : Nat} {xs : List Value} (h : w.ownsRow base e size v n xs) : ∀ k ∈ ownL v, k < w.heap.size := by
  intro k hk
  rcases h.2 with ⟨rfl, _⟩ | ⟨g, cap, cur, rfl, _, hgc, _⟩
  · simp [ownL, Value.ownBlock] at hk
  · simp [ownL, Value.ownBlock] at hk
    subst hk
    exact (Array.getElem?_eq_some_iff.1 hgc).1

theorem flat_cell {α : Type} {k : Nat} {enc : α → List Value} (hk : ∀ x, (enc x).length = k) : (l : List α) → (i : Nat) → (x : α) → l[i]? = some x → ∀ j u, (enc x)[j]? = some u → (l.flatMap enc)[i * k + j]? = some u
  | [], i, x, h, _, _, _ => by simp at h
  | y :: l, 0, x, h, j, u, hu => by
    simp only [List.getElem?_cons_zero, Option.some.injEq] at h
    subst h
    have hj : j < (enc y).length := (List.getElem?_eq_some_iff.1 hu).1
    rw [List.flatMap_cons, Nat.zero_mul, Nat.zero_add, List.getElem?_append_left hj]
    exact hu
  | y :: l, i + 1, x, h, j, u, hu => by
    simp only [List.getElem?_cons_succ] at h
    have ih := flat_cell hk l i x h j u hu
    have hs : (i + 1) * k = k + i * k := by rw [Nat.add_mul, Nat.one_mul, Nat.add_comm]
    rw [List.flatMap_cons, List.getElem?_append_right (by rw [hk, hs]; omega), hk, show (i + 1) * k + j - k = i * k + j by rw [hs]; omega]
    exact ih

theorem own_slAt {α : Type} {k : Nat} {enc : α → List Value} (hk : ∀ x, (enc x).length = k) {w : World} {base : Nat} {e : TypeId} {v : Value} {l : List α} (h : w.ownsRow base e k v l.length (l.flatMap enc)) : SlAt k enc w v l := by
  obtain ⟨hfl, hown⟩ := h
  rcases hown with ⟨rfl, h0⟩ | ⟨g, cap, cur, rfl, hg, hgc, hcap1, hcap2, hcs, hct⟩
  · obtain rfl : l = [] := List.eq_nil_of_length_eq_zero h0
    exact SlAt.nil _ _ _ _ _
  · refine ⟨_, cap, rfl, fun i x hi => ⟨g, 0, rfl, fun j u hu => ?_⟩⟩
    have h1 := flat_cell hk l i x hi j u hu
    rw [← hct, List.getElem?_take] at h1
    split at h1
    · simp only [World.cell?, hgc]
      simpa using h1
    · cases h1

/-! ### Items, owned arcs, pointers -/
abbrev Itm := ByteArray × ByteArray
structure Ow where
  f : Int
  t : Int
  node : Int
  ep : Int
abbrev Ow.arc (o : Ow) : Arc := ⟨o.f, o.t⟩
abbrev encOw (o : Ow) : List Value := [.int .u64 o.f, .int .u64 o.t, .int .i64 o.node, .int .i64 o.ep]
structure Ptr where
  f : Int
  t : Int
  node : Int
  old : Int
abbrev Ptr.arc (o : Ptr) : Arc := ⟨o.f, o.t⟩
abbrev encPtr (o : Ptr) : List Value := [.int .u64 o.f, .int .u64 o.t, .int .i64 o.node, .int .i64 o.old]
abbrev encNd (b : Nat) : List Value := [.pointer (some ⟨b, 0, none⟩)]

/-! ### The tree of a shelf -/
inductive Tree where
  | mk (xs : List Itm) (ts : List Tree)

mutual
/-- the tree's node in block b; L: all blocks that it has -/
def TreeAt (w : World) (b : Nat) : Tree → List Nat → Prop
  | .mk xs ts, L => ∃ v u bs Ls, w.heap[b]? = some (.cells #[v, u] 126 (0, 0)) ∧ w.ownsRow 0 43 2 v xs.length (xs.flatMap encIt) ∧ w.ownsRow 0 109 1 u ts.length (bs.flatMap encNd) ∧
      TreesAt w bs ts Ls ∧ L = b :: (ownL v ++ ownL u ++ Ls)
def TreesAt (w : World) : List Nat → List Tree → List Nat → Prop
  | [], [], L => L = []
  | b :: bs, t :: ts, L => ∃ L1 L2, TreeAt w b t L1 ∧ TreesAt w bs ts L2 ∧ L = L1 ++ L2
  | _, _, _ => False
end

mutual
def Tree.its : Tree → List Itm
  | .mk xs ts => itsIn xs ts
/-- the items of a node, each behind those of the child ahead of it -/
def itsIn : List Itm → List Tree → List Itm
  | [], [] => []
  | x :: xs, [] => x :: itsIn xs []
  | [], t :: ts => t.its ++ itsIn [] ts
  | x :: xs, t :: ts => t.its ++ x :: itsIn xs ts
end

/-- the shelf in block s -/
def ShelfAt (w : World) (s : Nat) (most : Int) (tr : Option Tree) (n : Nat) (L : List Nat) : Prop :=
  match tr with
  | none => w.heap[s]? = some (.cells #[.int .i64 most, .int .i64 n, .pointer none] 111 (0, 0)) ∧ L = [s]
  | some t => ∃ b Lt, w.heap[s]? = some (.cells #[.int .i64 most, .int .i64 n, .pointer (some ⟨b, 0, none⟩)] 111 (0, 0)) ∧ TreeAt w b t Lt ∧ L = s :: Lt

mutual
theorem TreeAt.mod {S : Nat → Prop} {w w' : World} (hm : Mod S w w') : {b : Nat} → {t : Tree} → {L : List Nat} → TreeAt w b t L → (∀ k ∈ L, ¬ S k) → TreeAt w' b t L
  | b, .mk xs ts, L, h, hs => by
    unfold TreeAt at h ⊢
    obtain ⟨v, u, bs, Ls, h1, h2, h3, h4, rfl⟩ := h
    refine ⟨v, u, bs, Ls, ?_, own_mod' h2 hm (fun k hk => hs k (by simp [hk])), own_mod' h3 hm (fun k hk => hs k (by simp [hk])), TreesAt.mod hm h4 (fun k hk => hs k (by simp [hk])), rfl⟩
    rw [hm.block b (Array.getElem?_eq_some_iff.1 h1).1 (hs b (by simp))]
    exact h1
theorem TreesAt.mod {S : Nat → Prop} {w w' : World} (hm : Mod S w w') : {bs : List Nat} → {ts : List Tree} → {L : List Nat} → TreesAt w bs ts L → (∀ k ∈ L, ¬ S k) → TreesAt w' bs ts L
  | [], [], _, h, _ => by unfold TreesAt at h ⊢; exact h
  | b :: bs, t :: ts, L, h, hs => by
    unfold TreesAt at h ⊢
    obtain ⟨L1, L2, h1, h2, rfl⟩ := h
    exact ⟨L1, L2, TreeAt.mod hm h1 (fun k hk => hs k (by simp [hk])), TreesAt.mod hm h2 (fun k hk => hs k (by simp [hk])), rfl⟩
  | [], _ :: _, _, h, _ => by unfold TreesAt at h; exact h.elim
  | _ :: _, [], _, h, _ => by unfold TreesAt at h; exact h.elim
end

theorem ShelfAt.mod {S : Nat → Prop} {w w' : World} {s : Nat} {most : Int} {tr : Option Tree} {n : Nat} {L : List Nat} (h : ShelfAt w s most tr n L) (hm : Mod S w w') (hs : ∀ k ∈ L, ¬ S k) : ShelfAt w' s most tr n L := by
  unfold ShelfAt at h ⊢
  cases tr with
  | none =>
    obtain ⟨h1, rfl⟩ := h
    refine ⟨?_, rfl⟩
    rw [hm.block s (Array.getElem?_eq_some_iff.1 h1).1 (hs s (by simp))]
    exact h1
  | some t =>
    obtain ⟨b, Lt, h1, h2, rfl⟩ := h
    refine ⟨b, Lt, ?_, h2.mod hm (fun k hk => hs k (by simp [hk])), rfl⟩
    rw [hm.block s (Array.getElem?_eq_some_iff.1 h1).1 (hs s (by simp))]
    exact h1

/-! ### The hold -/
structure HSt where
  node : Int
  most : Int
  kept : Int
  own : List Ow
  shut : Bool
  a : Arc
  pts : List Ptr

def HoldAt (w : World) (h : Nat) (st : HSt) (tr : Option Tree) (n : Nat) (B : List Nat) : Prop :=
  ∃ vo vp s L, w.heap[h]? = some (.cells #[.int .i64 st.node, .int .i64 st.most, .int .i64 st.kept, vo, .pointer (some ⟨s, 0, none⟩), .bool st.shut, .int .u64 st.a.f, .int .u64 st.a.t, vp] 75 (0, 0)) ∧
    w.ownsRow 0 66 4 vo st.own.length (st.own.flatMap encOw) ∧ w.ownsRow 0 117 4 vp st.pts.length (st.pts.flatMap encPtr) ∧ ShelfAt w s st.most tr n L ∧
    B = h :: (ownL vo ++ ownL vp ++ L) ∧ B.Nodup

/-- a call turns blocks of B alone; what is owned behind it, B', was owned, or is new -/
def Turn (B : List Nat) (w w' : World) (B' : List Nat) : Prop := Mod (· ∈ B) w w' ∧ ∀ k ∈ B', k ∈ B ∨ w.heap.size ≤ k

theorem Turn.refl (B : List Nat) (w : World) : Turn B w w B := ⟨Mod.refl _ _, fun _ h => .inl h⟩
theorem Turn.trans {A B C : List Nat} {u v w : World} (h : Turn A u v B) (k : Turn B v w C) : Turn A u w C :=
  ⟨h.1.then k.1 (fun i hi hB => (h.2 i hB).resolve_right (by omega)), fun i hi => (k.2 i hi).elim (fun x => h.2 i x) (fun x => .inr (Nat.le_trans h.1.size x))⟩

theorem HoldAt.mod {S : Nat → Prop} {w w' : World} {h : Nat} {st : HSt} {tr : Option Tree} {n : Nat} {B : List Nat} (hh : HoldAt w h st tr n B) (hm : Mod S w w') (hs : ∀ k ∈ B, ¬ S k) : HoldAt w' h st tr n B := by
  obtain ⟨vo, vp, s, L, h1, h2, h3, h4, rfl, h5⟩ := hh
  refine ⟨vo, vp, s, L, ?_, own_mod' h2 hm (fun k hk => hs k (by simp [hk])), own_mod' h3 hm (fun k hk => hs k (by simp [hk])), h4.mod hm (fun k hk => hs k (by simp [hk])), rfl, h5⟩
  rw [hm.block h (Array.getElem?_eq_some_iff.1 h1).1 (hs h (by simp))]
  exact h1

theorem HoldAt.lt {w : World} {h : Nat} {st : HSt} {tr : Option Tree} {n : Nat} {B : List Nat} (hh : HoldAt w h st tr n B) : h < w.heap.size := by
  obtain ⟨vo, vp, s, L, h1, _⟩ := hh
  exact (Array.getElem?_eq_some_iff.1 h1).1

/-- cells out of a block's object -/
theorem cell_of {w : World} {b : Nat} {cs : Array Value} {e : TypeId} (h : w.heap[b]? = some (.cells cs e (0, 0))) (i : Nat) {v : Value} (hv : cs[i]? = some v) : w.cell? ⟨b, i, none⟩ = some v := by
  simp only [World.cell?, h]
  simpa using hv
theorem frozen_of {w : World} {b : Nat} {cs : Array Value} {e : TypeId} (h : w.heap[b]? = some (.cells cs e (0, 0))) (i : Nat) : w.frozen? ⟨b, i, none⟩ = false := by
  simp [World.frozen?, h]
end Go.Proofs.YtmagddchjidamaaGreatDoor
