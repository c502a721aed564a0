/- Del: two children beside each other, taken out of their tree and put back; the items stay: plain facts. -/
import Derived.Test.YtpcmbnbdppembaaGreatDoorDelPlain
namespace Go.Proofs.YtpcmbnbdppembaaGreatDoor
set_option linter.unusedSimpArgs false
set_option linter.unusedVariables false
open Go.RowKit Go.Shelf

/-- two children side by side -/
structure Two (w : World) (b : Nat) (xs : List Itm) (A : List Tree) (t s : Tree) (B : List Tree) (L : List Nat) (x a c : Nd) (bA bB La Lc LA LB : List Nat) : Prop where
  xb : x.b = b
  xxs : x.xs = xs
  xbs : x.bs = bA ++ a.b :: c.b :: bB
  lA : bA.length = A.length
  axs : a.xs = t.xs
  cxs : c.xs = s.xs
  xat : x.At w
  aat : a.At w
  cat : c.At w
  ta : TreesP w a.bs t.ts La
  tc : TreesP w c.bs s.ts Lc
  tA : TreesP w bA A LA
  tB : TreesP w bB B LB
  perm : L.Perm ((x.L ++ (a.L ++ c.L)) ++ (La ++ (Lc ++ (LA ++ LB))))

theorem perm_count {l1 l2 : List Nat} (h : ∀ k, l1.count k = l2.count k) : l1.Perm l2 := List.perm_iff_count.2 h

theorem two_open {w : World} {b : Nat} {xs : List Itm} {A : List Tree} {t s : Tree} {B : List Tree} {L : List Nat} (h : TreeP w b (.mk xs (A ++ t :: s :: B)) L) :
    ∃ x a c bA bB La Lc LA LB, Two w b xs A t s B L x a c bA bB La Lc LA LB := by
  obtain ⟨v, u, bs, Ls, h1, h2, hp⟩ := h.open
  obtain ⟨bA, ca, bR, LA, Lt, LR, rfl, hbA, k1, k2, k3, kp⟩ := h2.mid
  obtain ⟨cc, bB, Lsx, LB, rfl, m1, m2, mp⟩ := k3.uncons
  obtain ⟨tx, tt⟩ := t
  obtain ⟨sx, st⟩ := s
  obtain ⟨va, ua, ka, La, n1, n2, np⟩ := k2.open
  obtain ⟨vc, uc, kc, Lc, o1, o2, op⟩ := m1.open
  refine ⟨⟨b, v, xs, u, _⟩, ⟨ca, va, tx, ua, ka⟩, ⟨cc, vc, sx, uc, kc⟩, bA, bB, La, Lc, LA, LB, ⟨rfl, rfl, rfl, hbA, rfl, rfl, h1, n1, o1, n2, o2, k1, m2, perm_count fun k => ?_⟩⟩
  have e1 := List.perm_iff_count.1 hp k
  have e2 := List.perm_iff_count.1 kp k
  have e3 := List.perm_iff_count.1 mp k
  have e4 := List.perm_iff_count.1 np k
  have e5 := List.perm_iff_count.1 op k
  simp only [List.count_append, Nd.L] at e1 e2 e3 e4 e5 ⊢
  omega

theorem two_close {w : World} {x a c : Nd} {A B ta tc : List Tree} {bA bB La Lc LA LB : List Nat} (hx : x.At w) (ha : a.At w) (hc : c.At w) (hb : x.bs = bA ++ a.b :: c.b :: bB) (h1 : TreesP w a.bs ta La) (h2 : TreesP w c.bs tc Lc) (h3 : TreesP w bA A LA) (h4 : TreesP w bB B LB) :
    TreeP w x.b (.mk x.xs (A ++ .mk a.xs ta :: .mk c.xs tc :: B)) ((x.L ++ (a.L ++ c.L)) ++ (La ++ (Lc ++ (LA ++ LB)))) := by
  have t1 := treeP_of ha h1
  have t2 := treeP_of hc h2
  have t3 := TreesP.append h3 (TreesP.cons t1 (TreesP.cons t2 h4))
  have hx' : NodeAt w x.b x.v x.xs x.u (bA ++ a.b :: c.b :: bB) := by rw [← hb]; exact hx
  refine (treeP_of hx' t3).perm (perm_count fun k => ?_)
  simp only [List.count_append, Nd.L]
  omega

theorem one_close {w : World} {x a : Nd} {A B ta : List Tree} {bA bB La LA LB : List Nat} (hx : x.At w) (ha : a.At w) (hb : x.bs = bA ++ a.b :: bB) (h1 : TreesP w a.bs ta La) (h3 : TreesP w bA A LA) (h4 : TreesP w bB B LB) :
    TreeP w x.b (.mk x.xs (A ++ .mk a.xs ta :: B)) ((x.L ++ a.L) ++ (La ++ (LA ++ LB))) := by
  have t1 := treeP_of ha h1
  have t3 := TreesP.append h3 (TreesP.cons t1 h4)
  have hx' : NodeAt w x.b x.v x.xs x.u (bA ++ a.b :: bB) := by rw [← hb]; exact hx
  refine (treeP_of hx' t3).perm (perm_count fun k => ?_)
  simp only [List.count_append, Nd.L]
  omega

/-! ### The items -/
theorem its_pair {x1 x2 : List Itm} {y : Itm} {A B : List Tree} {t s : Tree} (h1 : A.length = x1.length) (h2 : B.length = x2.length) : (Tree.mk (x1 ++ y :: x2) (A ++ t :: s :: B)).its = preT x1 A ++ (t.its ++ y :: s.its) ++ postT x2 B := by
  rw [its_focus h1 (by simp [h2]), postT_cons]
  simp

/-- a node alike below: none, or one more than items -/
def kidsOK (xs : List Itm) (ts : List Tree) : Prop := ts = [] ∨ ts.length = xs.length + 1

theorem its_left {al bl : List Itm} {ta tz tb : List Tree} {y z : Itm} (h : (ta = [] ∧ tz = [] ∧ tb = []) ∨ (ta.length = al.length + 1 ∧ tz.length = 1 ∧ tb.length = bl.length + 1)) :
    (Tree.mk (al ++ [z]) (ta ++ tz)).its ++ y :: (Tree.mk bl tb).its = (Tree.mk al ta).its ++ z :: (Tree.mk (y :: bl) (tz ++ tb)).its := by
  rcases h with ⟨rfl, rfl, rfl⟩ | ⟨h1, h2, h3⟩
  · simp only [List.nil_append, its_leaf]; simp
  · have e1 := its_split (xl := al) (xr := []) (up := z) h1 (tr := tz) (by simp [h2])
    have e2 := its_split (xl := []) (xr := bl) (up := y) (tl := tz) (by simp [h2]) h3
    simp only [List.nil_append] at e2
    rw [e1, e2]
    simp

theorem its_right {al bl : List Itm} {ta tz tb : List Tree} {y z : Itm} (h : (ta = [] ∧ tz = [] ∧ tb = []) ∨ (ta.length = al.length + 1 ∧ tz.length = 1 ∧ tb.length = bl.length + 1)) :
    (Tree.mk (al ++ [y]) (ta ++ tz)).its ++ z :: (Tree.mk bl tb).its = (Tree.mk al ta).its ++ y :: (Tree.mk (z :: bl) (tz ++ tb)).its := its_left h

theorem its_merge {al bl : List Itm} {ta tb : List Tree} {y : Itm} (h : (ta = [] ∧ tb = []) ∨ (ta.length = al.length + 1 ∧ tb.length = bl.length + 1)) :
    (Tree.mk (al ++ y :: bl) (ta ++ tb)).its = (Tree.mk al ta).its ++ y :: (Tree.mk bl tb).its := by
  rcases h with ⟨rfl, rfl⟩ | ⟨h1, h2⟩
  · simp only [List.nil_append, its_leaf]
  · exact its_split h1 h2

/-- what fill makes -/
def FillR (w : World) (b d : Nat) (xs : List Itm) (ts : List Tree) (L : List Nat) (w' : World) : Prop :=
  ∃ t' L', TreeP w' b t' L' ∧ okT (d + 1) t' ∧ L'.Nodup ∧ Turn L w w' L' ∧ t'.its = (Tree.mk xs ts).its ∧ xs.length ≤ t'.xs.length + 1

/-- two nodes of a depth -/
theorem okT.two {d : Nat} {t s : Tree} (h1 : okT d t) (h2 : okT d s) : (t.ts = [] ∧ s.ts = []) ∨ (t.ts.length = t.xs.length + 1 ∧ s.ts.length = s.xs.length + 1) := by
  obtain ⟨tx, tt⟩ := t
  obtain ⟨sx, st⟩ := s
  cases d <;> unfold okT at h1 h2
  · exact .inl ⟨h1.1, h2.1⟩
  · exact .inr ⟨h1.1, h2.1⟩

theorem okT.mk {d : Nat} {xs : List Itm} {ts : List Tree} {t : Tree} (h : okT d t) (hl : xs.length ≤ 6) (hk : t.ts = [] → ts = []) (hk2 : t.ts ≠ [] → ts.length = xs.length + 1) (hs : ∀ s ∈ ts, ∀ d', d = d' + 1 → okT d' s ∧ 3 ≤ s.xs.length) : okT d (.mk xs ts) := by
  obtain ⟨tx, tt⟩ := t
  cases d with
  | zero =>
    unfold okT at h ⊢
    exact ⟨hk h.1, hl⟩
  | succ d =>
    unfold okT at h ⊢
    refine ⟨hk2 (fun e => ?_), hl, fun s hs' => hs s hs' d rfl⟩
    have := h.1
    simp only [Tree.ts] at e
    rw [e] at this
    simp at this
theorem okT.kid {d : Nat} {t s : Tree} (h : okT d t) (hs : s ∈ t.ts) : ∀ d', d = d' + 1 → okT d' s ∧ 3 ≤ s.xs.length := by
  rintro d' rfl
  obtain ⟨tx, tt⟩ := t
  unfold okT at h
  exact h.2.2 s hs
end Go.Proofs.YtpcmbnbdppembaaGreatDoor
