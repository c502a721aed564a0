/- Put together out of: HoldRows, OrdPlain, TreePlain. -/
import Derived.Test.YtpcmbnbdppembaaGreatDoorSeqRows
import Derived.Test.YtpcmbnbdppembaaGreatDoorArcPlain
import Derived.Maps.AppendAt
/- What a hold looks like in memory: its nine cells, its rows, its shelf (HoldAt, ShelfAt, TreeAt); what a call may turn (Turn). -/
namespace Go.Proofs.YtpcmbnbdppembaaGreatDoor
set_option linter.unusedSimpArgs false
set_option linter.unusedVariables false
open Go.RowKit

/-! ### Rows that are owned -/
def ownL (v : Value) : List Nat := v.ownBlock.toList

theorem own_mod' {S : Nat → Prop} {w w' : World} {base : Nat} {e : TypeId} {size : Nat} {v : Value} {n : Nat} {xs : List Value} (h : w.ownsRow base e size v n xs) (hm : Mod S w w') (hs : ∀ k ∈ ownL v, ¬ S k) : w'.ownsRow base e size v n xs := by
  obtain ⟨h1, h2⟩ := h
  refine ⟨h1, ?_⟩
  rcases h2 with h2 | ⟨g, cap, cur, rfl, hg, hgc, hr⟩
  · exact .inl h2
  · refine .inr ⟨g, cap, cur, rfl, hg, ?_, hr⟩
    rw [hm.block g (Array.getElem?_eq_some_iff.1 hgc).1 (hs g (by simp [ownL, Value.ownBlock]))]
    exact hgc

theorem own_lt {w : World} {base : Nat} {e : TypeId} {size : Nat} {v : Value} {n : Nat} {xs : List Value} (h : w.ownsRow base e size v n xs) : ∀ k ∈ ownL v, k < w.heap.size := by
  intro k hk
  rcases h.2 with ⟨rfl, _⟩ | ⟨g, cap, cur, rfl, _, hgc, _⟩
  · simp [ownL, Value.ownBlock] at hk
  · simp [ownL, Value.ownBlock] at hk
    subst hk
    exact (Array.getElem?_eq_some_iff.1 hgc).1

theorem flat_cell {α : Type} {k : Nat} {enc : α → List Value} (hk : ∀ x, (enc x).length = k) : (l : List α) → (i : Nat) → (x : α) → l[i]? = some x → ∀ j u, (enc x)[j]? = some u → (l.flatMap enc)[i * k + j]? = some u
  | [], i, x, h, _, _, _ => by simp at h
  | y :: l, 0, x, h, j, u, hu => by
    simp only [List.getElem?_cons_zero, Option.some.injEq] at h
    subst h
    have hj : j < (enc y).length := (List.getElem?_eq_some_iff.1 hu).1
    rw [List.flatMap_cons, Nat.zero_mul, Nat.zero_add, List.getElem?_append_left hj]
    exact hu
  | y :: l, i + 1, x, h, j, u, hu => by
    simp only [List.getElem?_cons_succ] at h
    have ih := flat_cell hk l i x h j u hu
    have hs : (i + 1) * k = k + i * k := by rw [Nat.add_mul, Nat.one_mul, Nat.add_comm]
    rw [List.flatMap_cons, List.getElem?_append_right (by rw [hk, hs]; omega), hk, show (i + 1) * k + j - k = i * k + j by rw [hs]; omega]
    exact ih

theorem own_slAt {α : Type} {k : Nat} {enc : α → List Value} (hk : ∀ x, (enc x).length = k) {w : World} {base : Nat} {e : TypeId} {v : Value} {l : List α} (h : w.ownsRow base e k v l.length (l.flatMap enc)) : SlAt k enc w v l := by
  obtain ⟨hfl, hown⟩ := h
  rcases hown with ⟨rfl, h0⟩ | ⟨g, cap, cur, rfl, hg, hgc, hcap1, hcap2, hcs, hct⟩
  · obtain rfl : l = [] := List.eq_nil_of_length_eq_zero h0
    exact SlAt.nil _ _ _ _ _
  · refine ⟨_, cap, rfl, fun i x hi => ⟨g, 0, rfl, fun j u hu => ?_⟩⟩
    have h1 := flat_cell hk l i x hi j u hu
    rw [← hct, List.getElem?_take] at h1
    split at h1
    · simp only [World.cell?, hgc]
      simpa using h1
    · cases h1

/-! ### Items, owned arcs, pointers -/
abbrev Itm := ByteArray × ByteArray
structure Ow where
  f : Int
  t : Int
  node : Int
  ep : Int
abbrev Ow.arc (o : Ow) : Arc := ⟨o.f, o.t⟩
abbrev encOw (o : Ow) : List Value := [.int .u64 o.f, .int .u64 o.t, .int .i64 o.node, .int .i64 o.ep]
structure Ptr where
  f : Int
  t : Int
  node : Int
  old : Int
abbrev Ptr.arc (o : Ptr) : Arc := ⟨o.f, o.t⟩
abbrev encPtr (o : Ptr) : List Value := [.int .u64 o.f, .int .u64 o.t, .int .i64 o.node, .int .i64 o.old]
abbrev encNd (b : Nat) : List Value := [.pointer (some ⟨b, 0, none⟩)]

/-! ### The tree of a shelf -/
inductive Tree where
  | mk (xs : List Itm) (ts : List Tree)

mutual
/-- the tree's node in block b; L: all blocks that it has -/
def TreeAt (w : World) (b : Nat) : Tree → List Nat → Prop
  | .mk xs ts, L => ∃ v u bs Ls, w.heap[b]? = some (.cells #[v, u] 190 (0, 0)) ∧ w.ownsRow 0 73 2 v xs.length (xs.flatMap encIt) ∧ w.ownsRow 0 185 1 u ts.length (bs.flatMap encNd) ∧
      TreesAt w bs ts Ls ∧ L = b :: (ownL v ++ ownL u ++ Ls)
def TreesAt (w : World) : List Nat → List Tree → List Nat → Prop
  | [], [], L => L = []
  | b :: bs, t :: ts, L => ∃ L1 L2, TreeAt w b t L1 ∧ TreesAt w bs ts L2 ∧ L = L1 ++ L2
  | _, _, _ => False
end

mutual
def Tree.its : Tree → List Itm
  | .mk xs ts => itsIn xs ts
/-- the items of a node, each behind those of the child ahead of it -/
def itsIn : List Itm → List Tree → List Itm
  | [], [] => []
  | x :: xs, [] => x :: itsIn xs []
  | [], t :: ts => t.its ++ itsIn [] ts
  | x :: xs, t :: ts => t.its ++ x :: itsIn xs ts
end

/-- the shelf in block s -/
def ShelfAt (w : World) (s : Nat) (most : Int) (tr : Option Tree) (n : Nat) (L : List Nat) : Prop :=
  match tr with
  | none => w.heap[s]? = some (.cells #[.int .i64 most, .int .i64 n, .pointer none] 192 (0, 0)) ∧ L = [s]
  | some t => ∃ b Lt, w.heap[s]? = some (.cells #[.int .i64 most, .int .i64 n, .pointer (some ⟨b, 0, none⟩)] 192 (0, 0)) ∧ TreeAt w b t Lt ∧ L = s :: Lt

mutual
theorem TreeAt.mod {S : Nat → Prop} {w w' : World} (hm : Mod S w w') : {b : Nat} → {t : Tree} → {L : List Nat} → TreeAt w b t L → (∀ k ∈ L, ¬ S k) → TreeAt w' b t L
  | b, .mk xs ts, L, h, hs => by
    unfold TreeAt at h ⊢
    obtain ⟨v, u, bs, Ls, h1, h2, h3, h4, rfl⟩ := h
    refine ⟨v, u, bs, Ls, ?_, own_mod' h2 hm (fun k hk => hs k (by simp [hk])), own_mod' h3 hm (fun k hk => hs k (by simp [hk])), TreesAt.mod hm h4 (fun k hk => hs k (by simp [hk])), rfl⟩
    rw [hm.block b (Array.getElem?_eq_some_iff.1 h1).1 (hs b (by simp))]
    exact h1
theorem TreesAt.mod {S : Nat → Prop} {w w' : World} (hm : Mod S w w') : {bs : List Nat} → {ts : List Tree} → {L : List Nat} → TreesAt w bs ts L → (∀ k ∈ L, ¬ S k) → TreesAt w' bs ts L
  | [], [], _, h, _ => by unfold TreesAt at h ⊢; exact h
  | b :: bs, t :: ts, L, h, hs => by
    unfold TreesAt at h ⊢
    obtain ⟨L1, L2, h1, h2, rfl⟩ := h
    exact ⟨L1, L2, TreeAt.mod hm h1 (fun k hk => hs k (by simp [hk])), TreesAt.mod hm h2 (fun k hk => hs k (by simp [hk])), rfl⟩
  | [], _ :: _, _, h, _ => by unfold TreesAt at h; exact h.elim
  | _ :: _, [], _, h, _ => by unfold TreesAt at h; exact h.elim
end

theorem ShelfAt.mod {S : Nat → Prop} {w w' : World} {s : Nat} {most : Int} {tr : Option Tree} {n : Nat} {L : List Nat} (h : ShelfAt w s most tr n L) (hm : Mod S w w') (hs : ∀ k ∈ L, ¬ S k) : ShelfAt w' s most tr n L := by
  unfold ShelfAt at h ⊢
  cases tr with
  | none =>
    obtain ⟨h1, rfl⟩ := h
    refine ⟨?_, rfl⟩
    rw [hm.block s (Array.getElem?_eq_some_iff.1 h1).1 (hs s (by simp))]
    exact h1
  | some t =>
    obtain ⟨b, Lt, h1, h2, rfl⟩ := h
    refine ⟨b, Lt, ?_, h2.mod hm (fun k hk => hs k (by simp [hk])), rfl⟩
    rw [hm.block s (Array.getElem?_eq_some_iff.1 h1).1 (hs s (by simp))]
    exact h1

/-! ### The hold -/
structure HSt where
  node : Int
  most : Int
  kept : Int
  own : List Ow
  shut : Bool
  a : Arc
  pts : List Ptr

def HoldAt (w : World) (h : Nat) (st : HSt) (tr : Option Tree) (n : Nat) (B : List Nat) : Prop :=
  ∃ vo vp s L, w.heap[h]? = some (.cells #[.int .i64 st.node, .int .i64 st.most, .int .i64 st.kept, vo, .pointer (some ⟨s, 0, none⟩), .bool st.shut, .int .u64 st.a.f, .int .u64 st.a.t, vp] 119 (0, 0)) ∧
    w.ownsRow 0 128 4 vo st.own.length (st.own.flatMap encOw) ∧ w.ownsRow 0 180 4 vp st.pts.length (st.pts.flatMap encPtr) ∧ ShelfAt w s st.most tr n L ∧
    B = h :: (ownL vo ++ ownL vp ++ L) ∧ B.Nodup

/-- a call turns blocks of B alone; what is owned behind it, B', was owned, or is new -/
def Turn (B : List Nat) (w w' : World) (B' : List Nat) : Prop := Mod (· ∈ B) w w' ∧ ∀ k ∈ B', k ∈ B ∨ w.heap.size ≤ k

theorem Turn.refl (B : List Nat) (w : World) : Turn B w w B := ⟨Mod.refl _ _, fun _ h => .inl h⟩
theorem Turn.trans {A B C : List Nat} {u v w : World} (h : Turn A u v B) (k : Turn B v w C) : Turn A u w C :=
  ⟨h.1.then k.1 (fun i hi hB => (h.2 i hB).resolve_right (by omega)), fun i hi => (k.2 i hi).elim (fun x => h.2 i x) (fun x => .inr (Nat.le_trans h.1.size x))⟩

theorem HoldAt.mod {S : Nat → Prop} {w w' : World} {h : Nat} {st : HSt} {tr : Option Tree} {n : Nat} {B : List Nat} (hh : HoldAt w h st tr n B) (hm : Mod S w w') (hs : ∀ k ∈ B, ¬ S k) : HoldAt w' h st tr n B := by
  obtain ⟨vo, vp, s, L, h1, h2, h3, h4, rfl, h5⟩ := hh
  refine ⟨vo, vp, s, L, ?_, own_mod' h2 hm (fun k hk => hs k (by simp [hk])), own_mod' h3 hm (fun k hk => hs k (by simp [hk])), h4.mod hm (fun k hk => hs k (by simp [hk])), rfl, h5⟩
  rw [hm.block h (Array.getElem?_eq_some_iff.1 h1).1 (hs h (by simp))]
  exact h1

theorem HoldAt.lt {w : World} {h : Nat} {st : HSt} {tr : Option Tree} {n : Nat} {B : List Nat} (hh : HoldAt w h st tr n B) : h < w.heap.size := by
  obtain ⟨vo, vp, s, L, h1, _⟩ := hh
  exact (Array.getElem?_eq_some_iff.1 h1).1

/-- cells out of a block's object -/
theorem cell_of {w : World} {b : Nat} {cs : Array Value} {e : TypeId} (h : w.heap[b]? = some (.cells cs e (0, 0))) (i : Nat) {v : Value} (hv : cs[i]? = some v) : w.cell? ⟨b, i, none⟩ = some v := by
  simp only [World.cell?, h]
  simpa using hv
theorem frozen_of {w : World} {b : Nat} {cs : Array Value} {e : TypeId} (h : w.heap[b]? = some (.cells cs e (0, 0))) (i : Nat) : w.frozen? ⟨b, i, none⟩ = false := by
  simp [World.frozen?, h]
end Go.Proofs.YtpcmbnbdppembaaGreatDoor

/- The order of texts, byte by byte; rising rows of items; what a look-up, a store, a taking away do to them: plain Lean. -/
namespace Go.Proofs.YtpcmbnbdppembaaGreatDoor
set_option linter.unusedSimpArgs false
set_option linter.unusedVariables false

/-- is a row of bytes ahead of another one? -/
def lessB : List UInt8 → List UInt8 → Bool
  | [], [] => false
  | [], _ :: _ => true
  | _ :: _, [] => false
  | a :: al, b :: bs => if a < b then true else if b < a then false else lessB al bs

theorem lessB_irrefl : (l : List UInt8) → lessB l l = false
  | [] => rfl
  | a :: l => by unfold lessB; rw [if_neg (UInt8.lt_irrefl a), if_neg (UInt8.lt_irrefl a)]; exact lessB_irrefl l

theorem lessB_trans : {a b c : List UInt8} → lessB a b = true → lessB b c = true → lessB a c = true
  | [], [], _, h, _ => by simp [lessB] at h
  | [], _ :: _, [], _, h => by simp [lessB] at h
  | [], _ :: _, _ :: _, _, _ => rfl
  | _ :: _, [], _, h, _ => by simp [lessB] at h
  | _ :: _, _ :: _, [], _, h => by simp [lessB] at h
  | a :: al, b :: bs, c :: cs, h, k => by
    unfold lessB at h k ⊢
    by_cases h1 : a < b
    · by_cases h2 : b < c
      · rw [if_pos (UInt8.lt_trans h1 h2)]
      · rw [if_neg h2] at k
        by_cases h3 : c < b
        · rw [if_pos h3] at k; cases k
        · have : b = c := UInt8.le_antisymm (UInt8.not_lt.1 h3) (UInt8.not_lt.1 h2)
          rw [if_pos (this ▸ h1)]
    · rw [if_neg h1] at h
      by_cases h2 : b < a
      · rw [if_pos h2] at h; cases h
      · rw [if_neg h2] at h
        obtain rfl : a = b := UInt8.le_antisymm (UInt8.not_lt.1 h2) (UInt8.not_lt.1 h1)
        by_cases h3 : a < c
        · rw [if_pos h3]
        · rw [if_neg h3] at k ⊢
          by_cases h4 : c < a
          · rw [if_pos h4] at k; cases k
          · rw [if_neg h4] at k ⊢
            exact lessB_trans h k

theorem lessB_total : (a b : List UInt8) → lessB a b = true ∨ a = b ∨ lessB b a = true
  | [], [] => .inr (.inl rfl)
  | [], _ :: _ => .inl rfl
  | _ :: _, [] => .inr (.inr rfl)
  | a :: al, b :: bs => by
    by_cases h1 : a < b
    · left; unfold lessB; rw [if_pos h1]
    · by_cases h2 : b < a
      · right; right; unfold lessB; rw [if_pos h2]
      · obtain rfl : a = b := UInt8.le_antisymm (UInt8.not_lt.1 h2) (UInt8.not_lt.1 h1)
        unfold lessB
        simp only [h1, if_false]
        rcases lessB_total al bs with h | h | h
        · exact .inl h
        · exact .inr (.inl (by rw [h]))
        · exact .inr (.inr h)

/-- is a text ahead of another one? -/
def keyLt (a b : ByteArray) : Bool := lessB a.data.toList b.data.toList

theorem keyLt_irrefl (a : ByteArray) : keyLt a a = false := lessB_irrefl _
theorem keyLt_trans {a b c : ByteArray} (h : keyLt a b = true) (k : keyLt b c = true) : keyLt a c = true := lessB_trans h k
theorem keyLt_total (a b : ByteArray) : keyLt a b = true ∨ a = b ∨ keyLt b a = true := by
  rcases lessB_total a.data.toList b.data.toList with h | h | h
  · exact .inl h
  · refine .inr (.inl ?_)
    cases a; cases b
    simp only [ByteArray.mk.injEq] at h ⊢
    exact Array.ext' h
  · exact .inr (.inr h)
theorem keyLt_ne {a b : ByteArray} (h : keyLt a b = true) : a ≠ b := fun e => by rw [e, keyLt_irrefl] at h; cases h
theorem keyLt_asymm {a b : ByteArray} (h : keyLt a b = true) : keyLt b a = false := by
  cases hb : keyLt b a with
  | false => rfl
  | true => have := keyLt_trans h hb; rw [keyLt_irrefl] at this; cases this

/-! ### Rising rows -/
def Rising (l : List Itm) : Prop := l.Pairwise (fun x y => keyLt x.1 y.1 = true)

/-- all ahead of a key; all behind it -/
def AllLt (l : List Itm) (k : ByteArray) : Prop := ∀ x ∈ l, keyLt x.1 k = true
def AllGt (l : List Itm) (k : ByteArray) : Prop := ∀ x ∈ l, keyLt k x.1 = true

/-- an item put in between -/
def insS (x : Itm) (l : List Itm) : List Itm := l.filter (fun y => keyLt y.1 x.1) ++ x :: l.filter (fun y => keyLt x.1 y.1)
/-- a value put under a key that is there -/
def setS (k v : ByteArray) (l : List Itm) : List Itm := l.map (fun y => if y.1 = k then (k, v) else y)
abbrev getS (k : ByteArray) (l : List Itm) : Option ByteArray := SMap.get l k
abbrev delS (k : ByteArray) (l : List Itm) : List Itm := SMap.del l k

theorem Rising.nil : Rising [] := List.Pairwise.nil
theorem rising_append {a b : List Itm} : Rising (a ++ b) ↔ Rising a ∧ Rising b ∧ ∀ x ∈ a, ∀ y ∈ b, keyLt x.1 y.1 = true := List.pairwise_append
theorem rising_cons {x : Itm} {b : List Itm} : Rising (x :: b) ↔ AllGt b x.1 ∧ Rising b := List.pairwise_cons

theorem filter_none' {α : Type} {p : α → Bool} {l : List α} (h : ∀ x ∈ l, p x = false) : l.filter p = [] := by
  rw [List.filter_eq_nil_iff]
  intro x hx
  simp [h x hx]
theorem filter_all' {α : Type} {p : α → Bool} {l : List α} (h : ∀ x ∈ l, p x = true) : l.filter p = l := by
  rw [List.filter_eq_self]
  exact h

theorem insS_mid {x : Itm} {A C B : List Itm} (hA : AllLt A x.1) (hB : AllGt B x.1) : insS x (A ++ C ++ B) = A ++ insS x C ++ B := by
  unfold insS
  have e1 : A.filter (fun y => keyLt y.1 x.1) = A := filter_all' hA
  have e2 : A.filter (fun y => keyLt x.1 y.1) = [] := filter_none' fun y hy => keyLt_asymm (hA y hy)
  have e3 : B.filter (fun y => keyLt y.1 x.1) = [] := filter_none' fun y hy => keyLt_asymm (hB y hy)
  have e4 : B.filter (fun y => keyLt x.1 y.1) = B := filter_all' hB
  simp only [List.filter_append, e1, e2, e3, e4, List.append_nil, List.nil_append, List.append_assoc, List.cons_append]
theorem insS_nil (x : Itm) : insS x [] = [x] := rfl

theorem setS_append (k v : ByteArray) (A B : List Itm) : setS k v (A ++ B) = setS k v A ++ setS k v B := List.map_append
theorem setS_none {k v : ByteArray} {A : List Itm} (h : ∀ x ∈ A, x.1 ≠ k) : setS k v A = A := by
  unfold setS
  have : ∀ x ∈ A, (fun y : Itm => if y.1 = k then (k, v) else y) x = id x := fun x hx => by simp [h x hx]
  rw [List.map_congr_left this, List.map_id]
theorem AllLt.ne {l : List Itm} {k : ByteArray} (h : AllLt l k) : ∀ x ∈ l, x.1 ≠ k := fun x hx => keyLt_ne (h x hx)
theorem AllGt.ne {l : List Itm} {k : ByteArray} (h : AllGt l k) : ∀ x ∈ l, x.1 ≠ k := fun x hx e => keyLt_ne (h x hx) e.symm

theorem getS_none {k : ByteArray} {A : List Itm} (h : ∀ x ∈ A, x.1 ≠ k) : getS k A = none := by
  unfold getS SMap.get
  rw [Option.map_eq_none_iff, List.find?_eq_none]
  intro x hx
  simp [h x hx]
theorem getS_append_left {k : ByteArray} {A B : List Itm} (h : ∀ x ∈ A, x.1 ≠ k) : getS k (A ++ B) = getS k B := by
  unfold getS SMap.get
  rw [List.find?_append, List.find?_eq_none.2 (by intro x hx; simp [h x hx])]
  rfl
theorem getS_append_right {k : ByteArray} {A B : List Itm} (h : ∀ x ∈ B, x.1 ≠ k) : getS k (A ++ B) = getS k A := by
  unfold getS SMap.get
  have hB : B.find? (fun x => decide (x.1 = k)) = none := List.find?_eq_none.2 (by intro x hx; simp [h x hx])
  rw [List.find?_append, hB, Option.or_none]
theorem getS_mid {k : ByteArray} {A C B : List Itm} (hA : AllLt A k) (hB : AllGt B k) : getS k (A ++ C ++ B) = getS k C := by
  rw [getS_append_right hB.ne, getS_append_left hA.ne]
theorem getS_self {k v : ByteArray} {B : List Itm} : getS k ((k, v) :: B) = some v := by simp [getS, SMap.get]

theorem delS_append (k : ByteArray) (A B : List Itm) : delS k (A ++ B) = delS k A ++ delS k B := by
  unfold delS SMap.del; exact List.filter_append ..
theorem delS_none {k : ByteArray} {A : List Itm} (h : ∀ x ∈ A, x.1 ≠ k) : delS k A = A := by
  unfold delS SMap.del
  exact filter_all' fun x hx => by simp [h x hx]
theorem delS_self {k v : ByteArray} {B : List Itm} (h : AllGt B k) : delS k ((k, v) :: B) = B := by
  have := delS_none h.ne
  unfold delS SMap.del at this ⊢
  simp [this]
theorem delS_mid {k : ByteArray} {A C B : List Itm} (hA : AllLt A k) (hB : AllGt B k) : delS k (A ++ C ++ B) = A ++ delS k C ++ B := by
  rw [delS_append, delS_append, delS_none hA.ne, delS_none hB.ne]

theorem mem_insS {x y : Itm} {l : List Itm} (h : y ∈ insS x l) : y = x ∨ y ∈ l := by
  unfold insS at h
  rcases List.mem_append.1 h with h | h
  · exact .inr (List.mem_filter.1 h).1
  · rcases List.mem_cons.1 h with h | h
    · exact .inl h
    · exact .inr (List.mem_filter.1 h).1

theorem rising_insS {x : Itm} {l : List Itm} (h : Rising l) : Rising (insS x l) := by
  unfold insS
  rw [rising_append, rising_cons]
  have h1 : ∀ y ∈ l.filter (fun y => keyLt x.1 y.1), keyLt x.1 y.1 = true := fun y hy => by simpa using (List.mem_filter.1 hy).2
  refine ⟨List.Pairwise.filter _ h, ⟨h1, List.Pairwise.filter _ h⟩, fun y hy z hz => ?_⟩
  have hy2 : keyLt y.1 x.1 = true := by simpa using (List.mem_filter.1 hy).2
  rcases List.mem_cons.1 hz with rfl | hz
  · exact hy2
  · exact keyLt_trans hy2 (h1 z hz)
theorem setS_fst (k v : ByteArray) (l : List Itm) : (setS k v l).map (·.1) = l.map (·.1) := by
  unfold setS
  rw [List.map_map]
  apply List.map_congr_left
  intro x _
  by_cases hx : x.1 = k <;> simp [hx]
theorem rising_keys {l : List Itm} : Rising l ↔ (l.map (·.1)).Pairwise (fun a b => keyLt a b = true) := by
  unfold Rising; rw [List.pairwise_map]
theorem rising_setS {k v : ByteArray} {l : List Itm} (h : Rising l) : Rising (setS k v l) := by
  rw [rising_keys, setS_fst, ← rising_keys]; exact h
theorem rising_delS {k : ByteArray} {l : List Itm} (h : Rising l) : Rising (delS k l) := List.Pairwise.filter _ h

theorem insS_length {x : Itm} {l : List Itm} (h : Rising l) (hn : getS x.1 l = none) : (insS x l).length = l.length + 1 := by
  have hne := get_none_any hn
  unfold insS
  rw [List.length_append, List.length_cons]
  have : ∀ l : List Itm, (∀ y ∈ l, y.1 ≠ x.1) → (l.filter (fun y => keyLt y.1 x.1)).length + (l.filter (fun y => keyLt x.1 y.1)).length = l.length := by
    intro l
    induction l with
    | nil => intro _; rfl
    | cons y l ih =>
      intro h
      have ih := ih (fun z hz => h z (List.mem_cons_of_mem _ hz))
      rcases keyLt_total y.1 x.1 with h1 | h1 | h1
      · rw [List.filter_cons_of_pos (by simpa using h1), List.filter_cons_of_neg (by simp [keyLt_asymm h1])]
        simp; omega
      · exact absurd h1 (h y List.mem_cons_self)
      · rw [List.filter_cons_of_neg (by simp [keyLt_asymm h1]), List.filter_cons_of_pos (by simpa using h1)]
        simp; omega
  have := this l hne
  omega
theorem setS_length (k v : ByteArray) (l : List Itm) : (setS k v l).length = l.length := List.length_map _

theorem getS_insS_self {x : Itm} {l : List Itm} : getS x.1 (insS x l) = some x.2 := by
  unfold insS
  rw [getS_append_left]
  · exact getS_self
  · intro y hy
    have : keyLt y.1 x.1 = true := by simpa using (List.mem_filter.1 hy).2
    exact keyLt_ne this

theorem delS_length {k v : ByteArray} {l : List Itm} (h : Rising l) (hg : getS k l = some v) : (delS k l).length + 1 = l.length := by
  induction l with
  | nil => simp [getS, SMap.get] at hg
  | cons y l ih =>
    rw [rising_cons] at h
    by_cases hy : y.1 = k
    · obtain ⟨a, b⟩ := y
      simp only at hy
      subst hy
      rw [delS_self h.1]
      rfl
    · have hg' : getS k l = some v := by
        unfold getS SMap.get at hg ⊢
        rw [List.find?_cons_of_neg (by simpa using hy)] at hg
        exact hg
      have := ih h.2 hg'
      unfold delS SMap.del at this ⊢
      rw [List.filter_cons_of_pos (by simpa using hy)]
      simp only [List.length_cons]
      omega
end Go.Proofs.YtpcmbnbdppembaaGreatDoor

/- Trees of items in plain Lean: the items around a place, what is well formed, where a key is in a node. -/
namespace Go.Proofs.YtpcmbnbdppembaaGreatDoor
set_option linter.unusedSimpArgs false
set_option linter.unusedVariables false

abbrev Tree.xs : Tree → List Itm
  | .mk xs _ => xs
abbrev Tree.ts : Tree → List Tree
  | .mk _ ts => ts

/-- trees, each with the item behind it -/
def preT : List Itm → List Tree → List Itm
  | x :: xs, t :: ts => t.its ++ x :: preT xs ts
  | _, _ => []
/-- items, each with the tree behind it -/
def postT : List Itm → List Tree → List Itm
  | x :: xs, t :: ts => x :: (t.its ++ postT xs ts)
  | _, _ => []

theorem its_leaf : (xs : List Itm) → (Tree.mk xs []).its = xs
  | [] => by unfold Tree.its itsIn; rfl
  | x :: xs => by
    have := its_leaf xs
    unfold Tree.its at this ⊢
    unfold itsIn
    rw [this]

theorem its_mk (xs : List Itm) (ts : List Tree) : (Tree.mk xs ts).its = itsIn xs ts := by unfold Tree.its; rfl

theorem itsIn_one (t : Tree) : itsIn [] [t] = t.its := by unfold itsIn; unfold itsIn; simp

theorem itsIn_post : (xs : List Itm) → (t : Tree) → (ts : List Tree) → ts.length = xs.length → itsIn xs (t :: ts) = t.its ++ postT xs ts
  | [], t, [], _ => by rw [itsIn_one]; simp [postT]
  | x :: xs, t, s :: ts, h => by
    have := itsIn_post xs s ts (by simpa using h)
    unfold itsIn
    rw [this]
    rfl

theorem itsIn_focus : (x1 : List Itm) → (A : List Tree) → (x2 : List Itm) → (t : Tree) → (B : List Tree) → A.length = x1.length → B.length = x2.length → itsIn (x1 ++ x2) (A ++ t :: B) = preT x1 A ++ (t.its ++ postT x2 B)
  | [], [], x2, t, B, _, h2 => by simpa [preT] using itsIn_post x2 t B h2
  | x :: x1, a :: A, x2, t, B, h1, h2 => by
    have := itsIn_focus x1 A x2 t B (by simpa using h1) h2
    rw [List.cons_append, List.cons_append]
    unfold itsIn
    rw [this]
    simp [preT]

theorem its_focus {x1 x2 : List Itm} {A B : List Tree} {t : Tree} (h1 : A.length = x1.length) (h2 : B.length = x2.length) : (Tree.mk (x1 ++ x2) (A ++ t :: B)).its = preT x1 A ++ t.its ++ postT x2 B := by
  rw [List.append_assoc, its_mk]
  exact itsIn_focus x1 A x2 t B h1 h2

theorem preT_append : (x1 : List Itm) → (A : List Tree) → (x2 : List Itm) → (B : List Tree) → A.length = x1.length → preT (x1 ++ x2) (A ++ B) = preT x1 A ++ preT x2 B
  | [], [], x2, B, _ => rfl
  | x :: x1, a :: A, x2, B, h => by
    have := preT_append x1 A x2 B (by simpa using h)
    simp [preT, this]
theorem postT_append : (x1 : List Itm) → (A : List Tree) → (x2 : List Itm) → (B : List Tree) → A.length = x1.length → postT (x1 ++ x2) (A ++ B) = postT x1 A ++ postT x2 B
  | [], [], x2, B, _ => rfl
  | x :: x1, a :: A, x2, B, h => by
    have := postT_append x1 A x2 B (by simpa using h)
    simp [postT, this]
theorem preT_one (x : Itm) (t : Tree) : preT [x] [t] = t.its ++ [x] := rfl
theorem postT_one (x : Itm) (t : Tree) : postT [x] [t] = x :: t.its := by simp [postT]
theorem postT_cons (x : Itm) (t : Tree) (xs : List Itm) (ts : List Tree) : postT (x :: xs) (t :: ts) = x :: (t.its ++ postT xs ts) := rfl

/-- a node parted at an item -/
theorem its_split {xl xr : List Itm} {tl tr : List Tree} {up : Itm} (h1 : tl.length = xl.length + 1) (h2 : tr.length = xr.length + 1) : (Tree.mk (xl ++ up :: xr) (tl ++ tr)).its = (Tree.mk xl tl).its ++ up :: (Tree.mk xr tr).its := by
  obtain ⟨A, t, rfl⟩ : ∃ A t, tl = A ++ [t] := by
    rcases List.eq_nil_or_concat tl with rfl | ⟨A, t, h⟩
    · simp at h1
    · exact ⟨A, t, by rw [h, List.concat_eq_append]⟩
  have hA : A.length = xl.length := by simpa using h1
  cases tr with
  | nil => simp at h2
  | cons s B =>
    have hB : B.length = xr.length := by simpa using h2
    have e1 : (Tree.mk (xl ++ up :: xr) (A ++ [t] ++ s :: B)).its = preT xl A ++ t.its ++ postT (up :: xr) (s :: B) := by
      rw [List.append_assoc, List.singleton_append]
      exact its_focus hA (by simp [hB])
    have e2 : (Tree.mk xl (A ++ [t])).its = preT xl A ++ t.its := by
      have := its_focus (x1 := xl) (x2 := []) (A := A) (B := []) (t := t) hA rfl
      simpa [postT] using this
    have e3 : (Tree.mk xr (s :: B)).its = s.its ++ postT xr B := by
      rw [its_mk]
      exact itsIn_post xr s B hB
    rw [e1, e2, e3, postT_cons]

/-! ### Well formed -/
/-- of a depth, no node too wide, all below the top wide enough -/
def okT : Nat → Tree → Prop
  | 0, .mk xs ts => ts = [] ∧ xs.length ≤ 6
  | d + 1, .mk xs ts => ts.length = xs.length + 1 ∧ xs.length ≤ 6 ∧ ∀ t ∈ ts, okT d t ∧ 3 ≤ t.xs.length

theorem okT.wide {d : Nat} {t : Tree} (h : okT d t) : t.xs.length ≤ 6 := by
  cases d <;> cases t <;> unfold okT at h <;> simp_all
theorem okT.leaf {d : Nat} {t : Tree} (h : okT d t) : t.ts = [] ↔ d = 0 := by
  cases d with
  | zero => cases t; unfold okT at h; simp [h.1]
  | succ d =>
    cases t
    unfold okT at h
    simp only [Nat.succ_ne_zero, iff_false]
    intro e
    have := h.1
    have e' := congrArg List.length e
    simp only [Tree.ts, List.length_nil] at e'
    omega

/-- all items below lie between -/
theorem preT_length_le {x1 : List Itm} {A : List Tree} (h : A.length = x1.length) : x1.length ≤ (preT x1 A).length := by
  induction x1 generalizing A with
  | nil => simp
  | cons x x1 ih =>
    cases A with
    | nil => simp at h
    | cons a A =>
      have := ih (A := A) (by simpa using h)
      simp [preT]
      omega

/-! ### The place of a key -/
theorem allLt_nil (k : ByteArray) : AllLt [] k := fun x h => absurd h List.not_mem_nil
theorem allGt_nil (k : ByteArray) : AllGt [] k := fun x h => absurd h List.not_mem_nil
def plc (k : ByteArray) : List Itm → Nat × Bool
  | [] => (0, false)
  | x :: xs => if x.1 = k then (0, true) else if keyLt k x.1 then (0, false) else ((plc k xs).1 + 1, (plc k xs).2)

theorem plc_le (k : ByteArray) : (xs : List Itm) → (plc k xs).1 ≤ xs.length
  | [] => Nat.le_refl _
  | x :: xs => by
    unfold plc
    split
    · exact Nat.zero_le _
    · split
      · exact Nat.zero_le _
      · have := plc_le k xs
        simp only [List.length_cons]
        omega

theorem allGt_tail {k : ByteArray} {x : Itm} {l : List Itm} (h : Rising (x :: l)) (hk : keyLt k x.1 = true) : AllGt (x :: l) k := by
  intro y hy
  rcases List.mem_cons.1 hy with rfl | hy
  · exact hk
  · exact keyLt_trans hk ((rising_cons.1 h).1 y hy)

theorem plc_spec {k : ByteArray} : {xs : List Itm} → Rising xs →
    (∃ x1 v x2, xs = x1 ++ (k, v) :: x2 ∧ plc k xs = (x1.length, true) ∧ AllLt x1 k ∧ AllGt x2 k) ∨ (∃ x1 x2, xs = x1 ++ x2 ∧ plc k xs = (x1.length, false) ∧ AllLt x1 k ∧ AllGt x2 k)
  | [], _ => .inr ⟨[], [], rfl, rfl, allLt_nil k, allGt_nil k⟩
  | x :: xs, h => by
    obtain ⟨h1, h2⟩ := rising_cons.1 h
    unfold plc
    by_cases e : x.1 = k
    · obtain ⟨a, v⟩ := x
      simp only at e
      subst e
      refine .inl ⟨[], v, xs, rfl, by simp, allLt_nil _, h1⟩
    · rw [if_neg e]
      by_cases hl : keyLt k x.1 = true
      · rw [if_pos hl]
        exact .inr ⟨[], x :: xs, rfl, rfl, allLt_nil _, allGt_tail h hl⟩
      · rw [if_neg hl]
        have hx : keyLt x.1 k = true := by
          rcases keyLt_total x.1 k with h | h | h
          · exact h
          · exact absurd h e
          · exact absurd h hl
        rcases plc_spec (k := k) h2 with ⟨x1, v, x2, e1, e2, e3, e4⟩ | ⟨x1, x2, e1, e2, e3, e4⟩
        · refine .inl ⟨x :: x1, v, x2, by rw [e1]; rfl, by rw [e2]; rfl, ?_, e4⟩
          intro y hy
          rcases List.mem_cons.1 hy with rfl | hy
          · exact hx
          · exact e3 y hy
        · refine .inr ⟨x :: x1, x2, by rw [e1]; rfl, by rw [e2]; rfl, ?_, e4⟩
          intro y hy
          rcases List.mem_cons.1 hy with rfl | hy
          · exact hx
          · exact e3 y hy

/-- the items around a child -/
theorem around {x1 x2 : List Itm} {A B : List Tree} {t : Tree} {k : ByteArray} (h1 : A.length = x1.length) (h2 : B.length = x2.length) (hr : Rising (Tree.mk (x1 ++ x2) (A ++ t :: B)).its) (hl : AllLt x1 k) (hg : AllGt x2 k) :
    AllLt (preT x1 A) k ∧ AllGt (postT x2 B) k ∧ Rising t.its := by
  rw [its_focus h1 h2, rising_append, rising_append] at hr
  obtain ⟨⟨r1, r2, r4⟩, r3, r5⟩ := hr
  clear r4 r5
  refine ⟨?_, ?_, r2⟩
  · clear r3 r2 h2 hg
    induction x1 generalizing A with
    | nil => cases A <;> simp [preT, AllLt]
    | cons x x1 ih =>
      cases A with
      | nil => simp at h1
      | cons a A =>
        have hx : keyLt x.1 k = true := hl x List.mem_cons_self
        rw [preT, rising_append, rising_cons] at r1
        have := ih (A := A) (by simpa using h1) (fun y hy => hl y (List.mem_cons_of_mem _ hy)) r1.2.1.2
        intro y hy
        rw [preT] at hy
        rcases List.mem_append.1 hy with hy | hy
        · exact keyLt_trans (r1.2.2 y hy x List.mem_cons_self) hx
        · rcases List.mem_cons.1 hy with rfl | hy
          · exact hx
          · exact this y hy
  · cases x2 with
    | nil => cases B <;> simp [postT, AllGt]
    | cons x x2 =>
      cases B with
      | nil => simp at h2
      | cons b B =>
        exact allGt_tail r3 (hg x List.mem_cons_self)
end Go.Proofs.YtpcmbnbdppembaaGreatDoor
