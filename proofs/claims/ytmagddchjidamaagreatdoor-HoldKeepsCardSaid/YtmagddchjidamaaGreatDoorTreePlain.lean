/- Trees of items in plain Lean: the items around a place, what is well formed, where a key is in a node. -/
import Derived.Test.YtmagddchjidamaaGreatDoorOrdPlain
namespace Go.Proofs.YtmagddchjidamaaGreatDoor
set_option linter.unusedSimpArgs false
set_option linter.unusedVariables false

abbrev Tree.xs : Tree → List Itm
  | .mk xs _ => xs
abbrev Tree.ts : Tree → List Tree
  | .mk _ ts => ts

/-- trees, each with the item behind it -/
def preT : List Itm → List Tree → List Itm
  | x :: xs, t :: ts => t.its ++ x :: preT xs ts
  | _, _ => []
/-- items, each with the tree behind it -/
def postT : List Itm → List Tree → List Itm
  | x :: xs, t :: ts => x :: (t.its ++ postT xs ts)
  | _, _ => []

theorem its_leaf : (xs : List Itm) → (Tree.mk xs []).its = xs
  | [] => by unfold Tree.its itsIn; rfl
  | x :: xs => by
    have := its_leaf xs
    unfold Tree.its at this ⊢
    unfold itsIn
    rw [this]

theorem its_mk (xs : List Itm) (ts : List Tree) : (Tree.mk xs ts).its = itsIn xs ts := by unfold Tree.its; rfl

theorem itsIn_one (t : Tree) : itsIn [] [t] = t.its := by unfold itsIn; unfold itsIn; simp

theorem itsIn_post : (xs : List Itm) → (t : Tree) → (ts : List Tree) → ts.length = xs.length → itsIn xs (t :: ts) = t.its ++ postT xs ts
  | [], t, [], _ => by rw [itsIn_one]; simp [postT]
  | x :: xs, t, s :: ts, h => by
    have := itsIn_post xs s ts (by simpa using h)
    unfold itsIn
    rw [this]
    rfl

theorem itsIn_focus : (x1 : List Itm) → (A : List Tree) → (x2 : List Itm) → (t : Tree) → (B : List Tree) → A.length = x1.length → B.length = x2.length → itsIn (x1 ++ x2) (A ++ t :: B) = preT x1 A ++ (t.its ++ postT x2 B)
  | [], [], x2, t, B, _, h2 => by simpa [preT] using itsIn_post x2 t B h2
  | x :: x1, a :: A, x2, t, B, h1, h2 => by
    have := itsIn_focus x1 A x2 t B (by simpa using h1) h2
    rw [List.cons_append, List.cons_append]
    unfold itsIn
    rw [this]
    simp [preT]

theorem its_focus {x1 x2 : List Itm} {A B : List Tree} {t : Tree} (h1 : A.length = x1.length) (h2 : B.length = x2.length) : (Tree.mk (x1 ++ x2) (A ++ t :: B)).its = preT x1 A ++ t.its ++ postT x2 B := by
  rw [List.append_assoc, its_mk]
  exact itsIn_focus x1 A x2 t B h1 h2

theorem preT_append : (x1 : List Itm) → (A : List Tree) → (x2 : List Itm) → (B : List Tree) → A.length = x1.length → preT (x1 ++ x2) (A ++ B) = preT x1 A ++ preT x2 B
  | [], [], x2, B, _ => rfl
  | x :: x1, a :: A, x2, B, h => by
    have := preT_append x1 A x2 B (by simpa using h)
    simp [preT, this]
theorem postT_append : (x1 : List Itm) → (A : List Tree) → (x2 : List Itm) → (B : List Tree) → A.length = x1.length → postT (x1 ++ x2) (A ++ B) = postT x1 A ++ postT x2 B
  | [], [], x2, B, _ => rfl
  | x :: x1, a :: A, x2, B, h => by
    have := postT_append x1 A x2 B (by simpa using h)
    simp [postT, this]
theorem preT_one (x : Itm) (t : Tree) : preT [x] [t] = t.its ++ [x] := rfl
theorem postT_one (x : Itm) (t : Tree) : postT [x] [t] = x :: t.its := by simp [postT]
theorem postT_cons (x : Itm) (t : Tree) (xs : List Itm) (ts : List Tree) : postT (x :: xs) (t :: ts) = x :: (t.its ++ postT xs ts) := rfl

/-- a node parted at an item -/
theorem its_split {xl xr : List Itm} {tl tr : List Tree} {up : Itm} (h1 : tl.length = xl.length + 1) (h2 : tr.length = xr.length + 1) : (Tree.mk (xl ++ up :: xr) (tl ++ tr)).its = (Tree.mk xl tl).its ++ up :: (Tree.mk xr tr).its := by
  obtain ⟨A, t, rfl⟩ : ∃ A t, tl = A ++ [t] := by
    rcases List.eq_nil_or_concat tl with rfl | ⟨A, t, h⟩
    · simp at h1
    · exact ⟨A, t, by rw [h, List.concat_eq_append]⟩
  have hA : A.length = xl.length := by simpa using h1
  cases tr with
  | nil => simp at h2
  | cons s B =>
    have hB : B.length = xr.length := by simpa using h2
    have e1 : (Tree.mk (xl ++ up :: xr) (A ++ [t] ++ s :: B)).its = preT xl A ++ t.its ++ postT (up :: xr) (s :: B) := by
      rw [List.append_assoc, List.singleton_append]
      exact its_focus hA (by simp [hB])
    have e2 : (Tree.mk xl (A ++ [t])).its = preT xl A ++ t.its := by
      have := its_focus (x1 := xl) (x2 := []) (A := A) (B := []) (t := t) hA rfl
      simpa [postT] using this
    have e3 : (Tree.mk xr (s :: B)).its = s.its ++ postT xr B := by
      rw [its_mk]
      exact itsIn_post xr s B hB
    rw [e1, e2, e3, postT_cons]

/-! ### Well formed -/
/-- of a depth, no node too wide, all below the top wide enough -/
def okT : Nat → Tree → Prop
  | 0, .mk xs ts => ts = [] ∧ xs.length ≤ 6
  | d + 1, .mk xs ts => ts.length = xs.length + 1 ∧ xs.length ≤ 6 ∧ ∀ t ∈ ts, okT d t ∧ 3 ≤ t.xs.length

theorem okT.wide {d : Nat} {t : Tree} (h : okT d t) : t.xs.length ≤ 6 := by
  cases d <;> cases t <;> unfold okT at h <;> simp_all
theorem okT.leaf {d : Nat} {t : Tree} (h : okT d t) : t.ts = [] ↔ d = 0 := by
  cases d with
  | zero => cases t; unfold okT at h; simp [h.1]
  | succ d =>
    cases t
    unfold okT at h
    simp only [Nat.succ_ne_zero, iff_false]
    intro e
    have := h.1
    have e' := congrArg List.length e
    simp only [Tree.ts, List.length_nil] at e'
    omega

/-- all items below lie between -/
theorem preT_length_le {x1 : List Itm} {A : List Tree} (h : A.length = x1.length) : x1.length ≤ (preT x1 A).length := by
  induction x1 generalizing A with
  | nil => simp
  | cons x x1 ih =>
    cases A with
    | nil => simp at h
    | cons a A =>
      have := ih (A := A) (by simpa using h)
      simp [preT]
      omega

/-! ### The place of a key -/
theorem allLt_nil (k : ByteArray) : AllLt [] k := fun x h => absurd h List.not_mem_nil
theorem allGt_nil (k : ByteArray) : AllGt [] k := fun x h => absurd h List.not_mem_nil
def plc (k : ByteArray) : List Itm → Nat × Bool
  | [] => (0, false)
  | x :: xs => if x.1 = k then (0, true) else if keyLt k x.1 then (0, false) else ((plc k xs).1 + 1, (plc k xs).2)

theorem plc_le (k : ByteArray) : (xs : List Itm) → (plc k xs).1 ≤ xs.length
  | [] => Nat.le_refl _
  | x :: xs => by
    unfold plc
    split
    · exact Nat.zero_le _
    · split
      · exact Nat.zero_le _
      · have := plc_le k xs
        simp only [List.length_cons]
        omega

theorem allGt_tail {k : ByteArray} {x : Itm} {l : List Itm} (h : Rising (x :: l)) (hk : keyLt k x.1 = true) : AllGt (x :: l) k := by
  intro y hy
  rcases List.mem_cons.1 hy with rfl | hy
  · exact hk
  · exact keyLt_trans hk ((rising_cons.1 h).1 y hy)

theorem plc_spec {k : ByteArray} : {xs : List Itm} → Rising xs →
    (∃ x1 v x2, xs = x1 ++ (k, v) :: x2 ∧ plc k xs = (x1.length, true) ∧ AllLt x1 k ∧ AllGt x2 k) ∨ (∃ x1 x2, xs = x1 ++ x2 ∧ plc k xs = (x1.length, false) ∧ AllLt x1 k ∧ AllGt x2 k)
  | [], _ => .inr ⟨[], [], rfl, rfl, allLt_nil k, allGt_nil k⟩
  | x :: xs, h => by
    obtain ⟨h1, h2⟩ := rising_cons.1 h
    unfold plc
    by_cases e : x.1 = k
    · obtain ⟨a, v⟩ := x
      simp only at e
      subst e
      refine .inl ⟨[], v, xs, rfl, by simp, allLt_nil _, h1⟩
    · rw [if_neg e]
      by_cases hl : keyLt k x.1 = true
      · rw [if_pos hl]
        exact .inr ⟨[], x :: xs, rfl, rfl, allLt_nil _, allGt_tail h hl⟩
      · rw [if_neg hl]
        have hx : keyLt x.1 k = true := by
          rcases keyLt_total x.1 k with h | h | h
          · exact h
          · exact absurd h e
          · exact absurd h hl
        rcases plc_spec (k := k) h2 with ⟨x1, v, x2, e1, e2, e3, e4⟩ | ⟨x1, x2, e1, e2, e3, e4⟩
        · refine .inl ⟨x :: x1, v, x2, by rw [e1]; rfl, by rw [e2]; rfl, ?_, e4⟩
          intro y hy
          rcases List.mem_cons.1 hy with rfl | hy
          · exact hx
          · exact e3 y hy
        · refine .inr ⟨x :: x1, x2, by rw [e1]; rfl, by rw [e2]; rfl, ?_, e4⟩
          intro y hy
          rcases List.mem_cons.1 hy with rfl | hy
          · exact hx
          · exact e3 y hy

/-- the items around a child -/
theorem around {x1 x2 : List Itm} {A B : List Tree} {t : Tree} {k : ByteArray} (h1 : A.length = x1.length) (h2 : B.length = x2.length) (hr : Rising (Tree.mk (x1 ++ x2) (A ++ t :: B)).its) (hl : AllLt x1 k) (hg : AllGt x2 k) :
    AllLt (preT x1 A) k ∧ AllGt (postT x2 B) k ∧ Rising t.its := by
  rw [its_focus h1 h2, rising_append, rising_append] at hr
  obtain ⟨⟨r1, r2, r4⟩, r3, r5⟩ := hr
  clear r4 r5
  refine ⟨?_, ?_, r2⟩
  · clear r3 r2 h2 hg
    induction x1 generalizing A with
    | nil => cases A <;> simp [preT, AllLt]
    | cons x x1 ih =>
      cases A with
      | nil => simp at h1
      | cons a A =>
        have hx : keyLt x.1 k = true := hl x List.mem_cons_self
        rw [preT, rising_append, rising_cons] at r1
        have := ih (A := A) (by simpa using h1) (fun y hy => hl y (List.mem_cons_of_mem _ hy)) r1.2.1.2
        intro y hy
        rw [preT] at hy
        rcases List.mem_append.1 hy with hy | hy
        · exact keyLt_trans (r1.2.2 y hy x List.mem_cons_self) hx
        · rcases List.mem_cons.1 hy with rfl | hy
          · exact hx
          · exact this y hy
  · cases x2 with
    | nil => cases B <;> simp [postT, AllGt]
    | cons x x2 =>
      cases B with
      | nil => simp at h2
      | cons b B =>
        exact allGt_tail r3 (hg x List.mem_cons_self)
end Go.Proofs.YtmagddchjidamaaGreatDoor
