/- (*shelf.node).fill. -/
import Derived.Test.YtpcmbnbdppembaaGreatDoorDelLeft
import Derived.Test.YtpcmbnbdppembaaGreatDoorDelRight
import Derived.Test.YtpcmbnbdppembaaGreatDoorDelMerge
namespace Go.Proofs.YtpcmbnbdppembaaGreatDoor
set_option linter.unusedSimpArgs false
set_option linter.unusedVariables false
open Go.RowKit Go.Shelf
attribute [local go_sem ↓] Go.wp_at_zero Go.wp_at_succ

/-- what is left beside the three nodes stays -/
theorem Two.beside {w w' : World} {b : Nat} {xs : List Itm} {A : List Tree} {t s : Tree} {B : List Tree} {L : List Nat} {x a c : Nd} {bA bB La Lc LA LB : List Nat} (h : Two w b xs A t s B L x a c bA bB La Lc LA LB) (hn : L.Nodup) {x' a' c' : Nd} (h3 : Three w (x.L ++ (a.L ++ c.L)) w' x' a' c') :
    TreesP w' a.bs t.ts La ∧ TreesP w' c.bs s.ts Lc ∧ TreesP w' bA A LA ∧ TreesP w' bB B LB ∧ ((x'.L ++ (a'.L ++ c'.L)) ++ (La ++ (Lc ++ (LA ++ LB)))).Nodup ∧ Turn L w w' ((x'.L ++ (a'.L ++ c'.L)) ++ (La ++ (Lc ++ (LA ++ LB)))) := by
  have hn2 := (h.perm.nodup_iff).1 hn
  have hlt : ∀ k ∈ La ++ (Lc ++ (LA ++ LB)), k < w.heap.size := fun k hk => by
    rcases List.mem_append.1 hk with hk | hk
    · exact h.ta.lts k hk
    · rcases List.mem_append.1 hk with hk | hk
      · exact h.tc.lts k hk
      · rcases List.mem_append.1 hk with hk | hk
        · exact h.tA.lts k hk
        · exact h.tB.lts k hk
  obtain ⟨q1, q2, q3⟩ := turn_frame hn2 h3.2.2.2.2 h3.2.2.2.1 hlt
  refine ⟨h.ta.mod h3.2.2.2.2.1 (fun k hk => q3 k (by simp [hk])), h.tc.mod h3.2.2.2.2.1 (fun k hk => q3 k (by simp [hk])), h.tA.mod h3.2.2.2.2.1 (fun k hk => q3 k (by simp [hk])), h.tB.mod h3.2.2.2.2.1 (fun k hk => q3 k (by simp [hk])), q1, q2.perm h.perm.symm (List.Perm.refl _)⟩

theorem Two.three {w : World} {b : Nat} {xs : List Itm} {A : List Tree} {t s : Tree} {B : List Tree} {L : List Nat} {x a c : Nd} {bA bB La Lc LA LB : List Nat} (h : Two w b xs A t s B L x a c bA bB La Lc LA LB) (hn : L.Nodup) : Three w (x.L ++ (a.L ++ c.L)) w x a c :=
  Three.start h.xat h.aat h.cat (List.nodup_append.1 ((h.perm.nodup_iff).1 hn)).1

/-- behind fromLeft -/
theorem left_tree {w w' : World} {b d : Nat} {x1 x2 al : List Itm} {y z : Itm} {A B : List Tree} {t s : Tree} {L ka kz : List Nat} {ta tz : List Tree} {x a c : Nd} {bA bB La Lc LA LB : List Nat} (h : Two w b (x1 ++ y :: x2) A t s B L x a c bA bB La Lc LA LB) (hn : L.Nodup)
    (hA : A.length = x1.length) (hB : B.length = x2.length) (hx : (x1 ++ y :: x2).length ≤ 6) (ht : okT d t) (hs : okT d s) (htx : t.xs = al ++ [z]) (hta : t.ts = ta ++ tz) (hk : a.bs = ka ++ kz) (hl : ka.length = ta.length)
    (hleaf : (ta = [] ∧ tz = [] ∧ s.ts = []) ∨ (ta.length = al.length + 1 ∧ tz.length = 1 ∧ s.ts.length = s.xs.length + 1)) (h3 : 3 ≤ al.length) (h2 : 2 ≤ s.xs.length) (h5 : s.xs.length ≤ 5) (hall : ∀ q ∈ A ++ B, okT d q ∧ 3 ≤ q.xs.length)
    (hr : LeftR w (x.L ++ (a.L ++ c.L)) x a c x1 x2 al y z ka kz w') : FillR w b d (x1 ++ y :: x2) (A ++ t :: s :: B) L w' := by
  obtain ⟨x', a', c', hT, e1, e2, e3, e4, e5, e6, e7, e8, e9⟩ := hr
  obtain ⟨q1, q2, q3, q4, q5, q6⟩ := h.beside hn hT
  rw [hta, hk] at q1
  obtain ⟨k1, k2, L1, L2, hkk, p1, p2, pp⟩ := TreesP.parts ta q1
  obtain ⟨rfl, rfl⟩ := List.append_inj hkk (by rw [p1.len, hl])
  have hc' : TreesP w' c'.bs (tz ++ s.ts) (L2 ++ Lc) := by rw [e9]; exact TreesP.append p2 q2
  have ha' : TreesP w' a'.bs ta L1 := by rw [e6]; exact p1
  have hb' : x'.bs = bA ++ a'.b :: c'.b :: bB := by rw [e3, h.xbs, e4, e7]
  have hcl := two_close hT.1 hT.2.1 hT.2.2.1 hb' ha' hc' q3 q4
  have hperm : ((x'.L ++ (a'.L ++ c'.L)) ++ (La ++ (Lc ++ (LA ++ LB)))).Perm ((x'.L ++ (a'.L ++ c'.L)) ++ (L1 ++ ((L2 ++ Lc) ++ (LA ++ LB)))) := perm_count fun k => by
    have := List.perm_iff_count.1 pp k
    simp only [List.count_append] at this ⊢
    omega
  rw [e1, h.xb, e2, e5, e8, h.cxs] at hcl
  have hall2 : ∀ q ∈ A ++ .mk al ta :: .mk (y :: s.xs) (tz ++ s.ts) :: B, okT d q ∧ 3 ≤ q.xs.length := by
    intro q hq
    rcases List.mem_append.1 hq with hq | hq
    · exact hall q (List.mem_append_left _ hq)
    · rcases List.mem_cons.1 hq with rfl | hq
      · refine ⟨ht.mk (by have := ht.wide; rw [htx] at this; simp at this; omega) (fun e => ?_) (fun e => ?_) (fun q hq => ht.kid (by rw [hta]; exact List.mem_append_left _ hq)), h3⟩
        · rw [hta] at e; exact (List.append_eq_nil_iff.1 e).1
        · rcases hleaf with ⟨r1, r2, _⟩ | ⟨r1, _, _⟩
          · exact absurd (by rw [hta, r1, r2]; rfl) e
          · exact r1
      · rcases List.mem_cons.1 hq with rfl | hq
        · refine ⟨hs.mk (by simp; omega) (fun e => ?_) (fun e => ?_) (fun q hq => ?_), by simp; omega⟩
          · rcases hleaf with ⟨r1, r2, r3⟩ | ⟨_, _, r3⟩
            · rw [r2, r3]; rfl
            · rw [e] at r3; simp at r3
          · rcases hleaf with ⟨r1, r2, r3⟩ | ⟨_, r2, r3⟩
            · exact absurd r3 e
            · simp [r2, r3]; omega
          · rcases List.mem_append.1 hq with hq | hq
            · exact ht.kid (by rw [hta]; exact List.mem_append_right _ hq)
            · exact hs.kid hq
        · exact hall q (List.mem_append_right _ hq)
  refine ⟨_, _, hcl.perm hperm, ?_, q5, q6, ?_, by simp⟩
  · unfold okT
    exact ⟨by simp [hA, hB]; omega, by simpa using hx, hall2⟩
  · rw [its_pair hA hB, its_pair hA hB]
    congr 2
    have := its_left (al := al) (bl := s.xs) (ta := ta) (tz := tz) (tb := s.ts) (y := y) (z := z) hleaf
    rw [← htx, ← hta] at this
    obtain ⟨tx, tt⟩ := t
    obtain ⟨sx, st⟩ := s
    exact this.symm

/-- behind fromRight -/
theorem right_tree {w w' : World} {b d : Nat} {x1 x2 cl : List Itm} {y z : Itm} {A B : List Tree} {t s : Tree} {L kz kc : List Nat} {tz tc : List Tree} {x a c : Nd} {bA bB La Lc LA LB : List Nat} (h : Two w b (x1 ++ y :: x2) A t s B L x a c bA bB La Lc LA LB) (hn : L.Nodup)
    (hA : A.length = x1.length) (hB : B.length = x2.length) (hx : (x1 ++ y :: x2).length ≤ 6) (ht : okT d t) (hs : okT d s) (hsx : s.xs = z :: cl) (hsa : s.ts = tz ++ tc) (hk : c.bs = kz ++ kc) (hl : kz.length = tz.length)
    (hleaf : (t.ts = [] ∧ tz = [] ∧ tc = []) ∨ (t.ts.length = t.xs.length + 1 ∧ tz.length = 1 ∧ tc.length = cl.length + 1)) (h3 : 3 ≤ cl.length) (h2 : 2 ≤ t.xs.length) (h5 : t.xs.length ≤ 5) (hall : ∀ q ∈ A ++ B, okT d q ∧ 3 ≤ q.xs.length)
    (hr : RightR w (x.L ++ (a.L ++ c.L)) x a c x1 x2 cl y z kz kc w') : FillR w b d (x1 ++ y :: x2) (A ++ t :: s :: B) L w' := by
  obtain ⟨x', a', c', hT, e1, e2, e3, e4, e5, e6, e7, e8, e9⟩ := hr
  obtain ⟨q1, q2, q3, q4, q5, q6⟩ := h.beside hn hT
  rw [hsa, hk] at q2
  obtain ⟨k1, k2, L1, L2, hkk, p1, p2, pp⟩ := TreesP.parts tz q2
  obtain ⟨rfl, rfl⟩ := List.append_inj hkk (by rw [p1.len, hl])
  have ha' : TreesP w' a'.bs (t.ts ++ tz) (La ++ L1) := by rw [e6]; exact TreesP.append q1 p1
  have hc' : TreesP w' c'.bs tc L2 := by rw [e9]; exact p2
  have hb' : x'.bs = bA ++ a'.b :: c'.b :: bB := by rw [e3, h.xbs, e4, e7]
  have hcl := two_close hT.1 hT.2.1 hT.2.2.1 hb' ha' hc' q3 q4
  have hperm : ((x'.L ++ (a'.L ++ c'.L)) ++ (La ++ (Lc ++ (LA ++ LB)))).Perm ((x'.L ++ (a'.L ++ c'.L)) ++ ((La ++ L1) ++ (L2 ++ (LA ++ LB)))) := perm_count fun k => by
    have := List.perm_iff_count.1 pp k
    simp only [List.count_append] at this ⊢
    omega
  rw [e1, h.xb, e2, e5, e8, h.axs] at hcl
  have hall2 : ∀ q ∈ A ++ .mk (t.xs ++ [y]) (t.ts ++ tz) :: .mk cl tc :: B, okT d q ∧ 3 ≤ q.xs.length := by
    intro q hq
    rcases List.mem_append.1 hq with hq | hq
    · exact hall q (List.mem_append_left _ hq)
    · rcases List.mem_cons.1 hq with rfl | hq
      · refine ⟨ht.mk (by simp; omega) (fun e => ?_) (fun e => ?_) (fun q hq => ?_), by simp; omega⟩
        · rcases hleaf with ⟨r1, r2, r3⟩ | ⟨r3, _, _⟩
          · rw [r2, r1]; rfl
          · rw [e] at r3; simp at r3
        · rcases hleaf with ⟨r1, r2, r3⟩ | ⟨r3, r2, _⟩
          · exact absurd r1 e
          · simp [r2, r3]
        · rcases List.mem_append.1 hq with hq | hq
          · exact ht.kid hq
          · exact hs.kid (by rw [hsa]; exact List.mem_append_left _ hq)
      · rcases List.mem_cons.1 hq with rfl | hq
        · refine ⟨hs.mk (by have := hs.wide; rw [hsx] at this; simp at this; omega) (fun e => ?_) (fun e => ?_) (fun q hq => hs.kid (by rw [hsa]; exact List.mem_append_right _ hq)), h3⟩
          · rw [hsa] at e; exact (List.append_eq_nil_iff.1 e).2
          · rcases hleaf with ⟨r1, r2, r3⟩ | ⟨_, _, r3⟩
            · exact absurd (by rw [hsa, r2, r3]; rfl) e
            · exact r3
        · exact hall q (List.mem_append_right _ hq)
  refine ⟨_, _, hcl.perm hperm, ?_, q5, q6, ?_, by simp⟩
  · unfold okT
    exact ⟨by simp [hA, hB]; omega, by simpa using hx, hall2⟩
  · rw [its_pair hA hB, its_pair hA hB]
    congr 2
    have := its_right (al := t.xs) (bl := cl) (ta := t.ts) (tz := tz) (tb := tc) (y := y) (z := z) hleaf
    rw [← hsx, ← hsa] at this
    obtain ⟨tx, tt⟩ := t
    obtain ⟨sx, st⟩ := s
    exact this

/-- behind merge -/
theorem merge_tree {w w' : World} {b d : Nat} {x1 x2 : List Itm} {y : Itm} {A B : List Tree} {t s : Tree} {L : List Nat} {x a c : Nd} {bA bB La Lc LA LB : List Nat} (h : Two w b (x1 ++ y :: x2) A t s B L x a c bA bB La Lc LA LB) (hn : L.Nodup)
    (hA : A.length = x1.length) (hB : B.length = x2.length) (hx : (x1 ++ y :: x2).length ≤ 6) (ht : okT d t) (hs : okT d s) (h2 : 3 ≤ t.xs.length + s.xs.length + 1) (h5 : t.xs.length + s.xs.length ≤ 5) (hall : ∀ q ∈ A ++ B, okT d q ∧ 3 ≤ q.xs.length)
    (hr : MergeR w (x.L ++ (a.L ++ c.L)) x a c x1 x2 y bA bB w') : FillR w b d (x1 ++ y :: x2) (A ++ t :: s :: B) L w' := by
  obtain ⟨x', a', hT, e1, e2, e3, e4, e5, e6⟩ := hr
  obtain ⟨q1, q2, q3, q4, q5, q6⟩ := h.beside hn hT
  have ha' : TreesP w' a'.bs (t.ts ++ s.ts) (La ++ Lc) := by rw [e6]; exact TreesP.append q1 q2
  have hb' : x'.bs = bA ++ a'.b :: bB := by rw [e3, e4]
  have hcl := one_close hT.1 hT.2.1 hb' ha' q3 q4
  have hperm : ((x'.L ++ a'.L) ++ ((La ++ Lc) ++ (LA ++ LB))).Perm ((x'.L ++ a'.L) ++ ((La ++ Lc) ++ (LA ++ LB))) := List.Perm.refl _
  rw [e1, h.xb, e2, e5, h.axs, h.cxs] at hcl
  have hsub : ∀ k, k ∈ (x'.L ++ a'.L) ++ ((La ++ Lc) ++ (LA ++ LB)) → k ∈ (x'.L ++ (a'.L ++ c.L)) ++ (La ++ (Lc ++ (LA ++ LB))) := fun k hk => by
    have := List.count_pos_iff.2 hk
    refine List.count_pos_iff.1 ?_
    simp only [List.count_append] at this ⊢
    omega
  have hnd : ((x'.L ++ a'.L) ++ ((La ++ Lc) ++ (LA ++ LB))).Nodup := by
    rw [List.nodup_iff_count] at q5 ⊢
    intro k
    have := q5 k
    simp only [List.count_append] at this ⊢
    omega
  have htwo := ht.two hs
  have hall2 : ∀ q ∈ A ++ .mk (t.xs ++ y :: s.xs) (t.ts ++ s.ts) :: B, okT d q ∧ 3 ≤ q.xs.length := by
    intro q hq
    rcases List.mem_append.1 hq with hq | hq
    · exact hall q (List.mem_append_left _ hq)
    · rcases List.mem_cons.1 hq with rfl | hq
      · refine ⟨ht.mk (by simp; omega) (fun e => ?_) (fun e => ?_) (fun q hq => ?_), by simp; omega⟩
        · rcases htwo with ⟨r1, r2⟩ | ⟨r1, _⟩
          · rw [r1, r2]; rfl
          · rw [e] at r1; simp at r1
        · rcases htwo with ⟨r1, r2⟩ | ⟨r1, r2⟩
          · exact absurd r1 e
          · simp [r1, r2]; omega
        · rcases List.mem_append.1 hq with hq | hq
          · exact ht.kid hq
          · exact hs.kid hq
      · exact hall q (List.mem_append_right _ hq)
  refine ⟨_, _, hcl, ?_, hnd, ⟨q6.1, fun k hk => q6.2 k (hsub k hk)⟩, ?_, by simp; omega⟩
  · unfold okT
    exact ⟨by simp [hA, hB]; omega, by simp at hx ⊢; omega, hall2⟩
  · rw [its_pair hA hB, its_focus hA hB]
    congr 2
    have := its_merge (al := t.xs) (bl := s.xs) (ta := t.ts) (tb := s.ts) (y := y) htwo
    obtain ⟨tx, tt⟩ := t
    obtain ⟨sx, st⟩ := s
    exact this

/-- a row cut in two beside another one of its length -/
theorem split_last {d : Nat} {t s : Tree} {al : List Itm} {z : Itm} {kb cb : List Nat} (ht : okT d t) (hs : okT d s) (htx : t.xs = al ++ [z]) (hk : kb.length = t.ts.length) (hc : cb.length = s.ts.length) :
    ∃ ta tz ka kz, t.ts = ta ++ tz ∧ kb = ka ++ kz ∧ ka.length = ta.length ∧ ((ta = [] ∧ tz = [] ∧ s.ts = []) ∨ (ta.length = al.length + 1 ∧ tz.length = 1 ∧ s.ts.length = s.xs.length + 1)) ∧
      ((ka = [] ∧ kz = [] ∧ cb = []) ∨ (ka.length = al.length + 1 ∧ kz.length = 1 ∧ cb ≠ [])) := by
  rcases ht.two hs with ⟨r1, r2⟩ | ⟨r1, r2⟩
  · rw [r1] at hk
    rw [r2] at hc
    exact ⟨[], [], [], [], r1, List.eq_nil_of_length_eq_zero hk, rfl, .inl ⟨rfl, rfl, r2⟩, .inl ⟨rfl, rfl, List.eq_nil_of_length_eq_zero hc⟩⟩
  · have e : t.xs.length = al.length + 1 := by rw [htx]; simp
    refine ⟨t.ts.take (al.length + 1), t.ts.drop (al.length + 1), kb.take (al.length + 1), kb.drop (al.length + 1), (List.take_append_drop _ _).symm, (List.take_append_drop _ _).symm, by simp; omega, .inr ⟨by simp; omega, by simp; omega, r2⟩, .inr ⟨by simp; omega, by simp; omega, fun e => ?_⟩⟩
    rw [e] at hc
    simp at hc
    omega

theorem split_first {d : Nat} {t s : Tree} {cl : List Itm} {z : Itm} {ab cb : List Nat} (ht : okT d t) (hs : okT d s) (hsx : s.xs = z :: cl) (hk : cb.length = s.ts.length) (ha : ab.length = t.ts.length) :
    ∃ tz tc kz kc, s.ts = tz ++ tc ∧ cb = kz ++ kc ∧ kz.length = tz.length ∧ ((t.ts = [] ∧ tz = [] ∧ tc = []) ∨ (t.ts.length = t.xs.length + 1 ∧ tz.length = 1 ∧ tc.length = cl.length + 1)) ∧
      ((kc = [] ∧ kz = [] ∧ ab = []) ∨ (kz.length = 1 ∧ ab ≠ [])) := by
  rcases ht.two hs with ⟨r1, r2⟩ | ⟨r1, r2⟩
  · rw [r1] at ha
    rw [r2] at hk
    exact ⟨[], [], [], [], r2, List.eq_nil_of_length_eq_zero hk, rfl, .inl ⟨r1, rfl, rfl⟩, .inl ⟨rfl, rfl, List.eq_nil_of_length_eq_zero ha⟩⟩
  · have e : s.xs.length = cl.length + 1 := by rw [hsx]; simp
    refine ⟨s.ts.take 1, s.ts.drop 1, cb.take 1, cb.drop 1, (List.take_append_drop _ _).symm, (List.take_append_drop _ _).symm, by simp; omega, .inr ⟨r1, by simp; omega, by simp; omega⟩, .inr ⟨by simp; omega, fun e => ?_⟩⟩
    rw [e] at ha
    simp at ha
    omega

theorem kids_le {d : Nat} {t : Tree} (h : okT d t) : t.ts.length ≤ 7 := by
  obtain ⟨tx, tt⟩ := t
  have := h.wide
  rcases h.kids with e | e
  · simp [e]
  · simp only [Tree.ts, Tree.xs] at this ⊢
    omega

/-- a row of items cut at a place -/
theorem cut_items (xs : List Itm) (i n : Nat) (h : xs.length = i + n + 1) : ∃ x1 y x2, xs = x1 ++ y :: x2 ∧ x1.length = i ∧ x2.length = n := by
  refine ⟨xs.take i, xs[i]'(by omega), xs.drop (i + 1), ?_, by simp; omega, by simp; omega⟩
  rw [List.getElem_cons_drop, List.take_append_drop]

theorem left_calls {w : World} {b d : Nat} {xs : List Itm} {A B : List Tree} {t s : Tree} {L : List Nat} (h : TreeP w b (.mk xs (A ++ t :: s :: B)) L) (hn : L.Nodup) (hl : (A ++ t :: s :: B).length = xs.length + 1) (hx : xs.length ≤ 6) (ht : okT d t) (hs : okT d s) (h3 : 4 ≤ t.xs.length) (h2 : 2 ≤ s.xs.length) (h5 : s.xs.length ≤ 5) (hall : ∀ q ∈ A ++ B, okT d q ∧ 3 ≤ q.xs.length) :
    Calls Tryz.prog 217 #[.pointer (some ⟨b, 0, none⟩), .int .i64 ((A.length : Int) + 1)] w fun e w' => (∃ v, e = .returned v) ∧ FillR w b d xs (A ++ t :: s :: B) L w' := by
  obtain ⟨x, a, c, bA, bB, La, Lc, LA, LB, hT⟩ := two_open h
  have hl2 : xs.length = A.length + B.length + 1 := by simp at hl; omega
  obtain ⟨x1, y, x2, rfl, hx1, hx2⟩ := cut_items xs A.length B.length hl2
  obtain ⟨al, z, htx⟩ : ∃ al z, t.xs = al ++ [z] := ⟨t.xs.dropLast, t.xs.getLast (by intro e; rw [e] at h3; simp at h3), (List.dropLast_concat_getLast _).symm⟩
  have ka := hT.ta.len
  have kc := hT.tc.len
  obtain ⟨ta, tz, ka2, kz, r1, r2, r3, r4, r5⟩ := split_last ht hs htx ka kc
  have e1 : t.xs.length = al.length + 1 := by rw [htx]; simp
  have hbs : x.bs.length ≤ 10 := by rw [hT.xbs]; have := hT.lA; have := hT.tB.len; simp; omega
  have hcall := fromLeft_ok (hT.three hn) (x1 := x1) (x2 := x2) (al := al) (y := y) (z := z) (bA := bA) (bB := bB) (ka := ka2) (kz := kz) hT.xxs hT.xbs (by rw [hT.lA, hx1]) (by rw [hT.axs, htx]) r2 r5 (by rw [hT.cxs]; intro e; rw [e] at h2; simp at h2) hbs (by rw [hT.xxs]; omega) (by rw [hT.axs]; have := ht.wide; omega) (by rw [ka]; have := kids_le ht; omega) (by rw [hT.cxs]; omega) (by rw [kc]; have := kids_le hs; omega) rfl
  rw [hT.xb, hx1] at hcall
  refine hcall.mono ?_
  rintro e w' ⟨hv, hr⟩
  exact ⟨hv, left_tree hT hn hx1.symm hx2.symm hx ht hs htx r1 r2 r3 r4 (by omega) h2 h5 hall hr⟩

theorem right_calls {w : World} {b d : Nat} {xs : List Itm} {A B : List Tree} {t s : Tree} {L : List Nat} (h : TreeP w b (.mk xs (A ++ t :: s :: B)) L) (hn : L.Nodup) (hl : (A ++ t :: s :: B).length = xs.length + 1) (hx : xs.length ≤ 6) (ht : okT d t) (hs : okT d s) (h3 : 4 ≤ s.xs.length) (h2 : 2 ≤ t.xs.length) (h5 : t.xs.length ≤ 5) (hall : ∀ q ∈ A ++ B, okT d q ∧ 3 ≤ q.xs.length) :
    Calls Tryz.prog 218 #[.pointer (some ⟨b, 0, none⟩), .int .i64 (A.length : Int)] w fun e w' => (∃ v, e = .returned v) ∧ FillR w b d xs (A ++ t :: s :: B) L w' := by
  obtain ⟨x, a, c, bA, bB, La, Lc, LA, LB, hT⟩ := two_open h
  have hl2 : xs.length = A.length + B.length + 1 := by simp at hl; omega
  obtain ⟨x1, y, x2, rfl, hx1, hx2⟩ := cut_items xs A.length B.length hl2
  obtain ⟨z, cl, hsx⟩ : ∃ z cl, s.xs = z :: cl := by
    cases hs : s.xs with
    | nil => rw [hs] at h3; simp at h3
    | cons z cl => exact ⟨z, cl, rfl⟩
  have ka := hT.ta.len
  have kc := hT.tc.len
  obtain ⟨tz, tc, kz, kc2, r1, r2, r3, r4, r5⟩ := split_first ht hs hsx kc ka
  have e1 : s.xs.length = cl.length + 1 := by rw [hsx]; simp
  have hbs : x.bs.length ≤ 10 := by rw [hT.xbs]; have := hT.lA; have := hT.tB.len; simp; omega
  have hcall := fromRight_ok (hT.three hn) (x1 := x1) (x2 := x2) (cl := cl) (y := y) (z := z) (bA := bA) (bB := bB) (kc := kc2) (kz := kz) hT.xxs hT.xbs (by rw [hT.lA, hx1]) (by rw [hT.cxs, hsx]) r2 r5 (by rw [hT.axs]; intro e; rw [e] at h2; simp at h2) hbs (by rw [hT.xxs]; omega) (by rw [hT.axs]; omega) (by rw [ka]; have := kids_le ht; omega) (by rw [hT.cxs]; have := hs.wide; omega) (by rw [kc]; have := kids_le hs; omega) rfl
  rw [hT.xb, hx1] at hcall
  refine hcall.mono ?_
  rintro e w' ⟨hv, hr⟩
  exact ⟨hv, right_tree hT hn hx1.symm hx2.symm hx ht hs hsx r1 r2 r3 r4 (by omega) h2 h5 hall hr⟩

theorem merge_calls {w : World} {b d : Nat} {xs : List Itm} {A B : List Tree} {t s : Tree} {L : List Nat} (h : TreeP w b (.mk xs (A ++ t :: s :: B)) L) (hn : L.Nodup) (hl : (A ++ t :: s :: B).length = xs.length + 1) (hx : xs.length ≤ 6) (ht : okT d t) (hs : okT d s) (h3 : 2 ≤ s.xs.length) (h2 : 2 ≤ t.xs.length) (h5 : t.xs.length + s.xs.length ≤ 5) (hall : ∀ q ∈ A ++ B, okT d q ∧ 3 ≤ q.xs.length) :
    Calls Tryz.prog 219 #[.pointer (some ⟨b, 0, none⟩), .int .i64 (A.length : Int)] w fun e w' => (∃ v, e = .returned v) ∧ FillR w b d xs (A ++ t :: s :: B) L w' := by
  obtain ⟨x, a, c, bA, bB, La, Lc, LA, LB, hT⟩ := two_open h
  have hl2 : xs.length = A.length + B.length + 1 := by simp at hl; omega
  obtain ⟨x1, y, x2, rfl, hx1, hx2⟩ := cut_items xs A.length B.length hl2
  have ka := hT.ta.len
  have kc := hT.tc.len
  have hbs : x.bs.length ≤ 10 := by rw [hT.xbs]; have := hT.lA; have := hT.tB.len; simp; omega
  have hcall := merge_ok (hT.three hn) (x1 := x1) (x2 := x2) (y := y) (bA := bA) (bB := bB) hT.xxs hT.xbs (by rw [hT.lA, hx1]) (by rw [hT.cxs]; intro e; rw [e] at h3; simp at h3) (by rw [hT.axs]; intro e; rw [e] at h2; simp at h2) hbs (by rw [hT.xxs]; omega) (by rw [hT.axs]; omega) (by rw [ka]; have := kids_le ht; omega) (by rw [hT.cxs]; omega) (by rw [kc]; have := kids_le hs; omega) rfl
  rw [hT.xb, hx1] at hcall
  refine hcall.mono ?_
  rintro e w' ⟨hv, hr⟩
  exact ⟨hv, merge_tree hT hn hx1.symm hx2.symm hx ht hs (by omega) h5 hall hr⟩

/-- what a node's cells say of one of its children -/
theorem kid_cells {w : World} {b : Nat} {xs : List Itm} {A B : List Tree} {t : Tree} {L : List Nat} {gu nu cu : Nat} (h : TreeP w b (.mk xs (A ++ t :: B)) L) (hu : w.cell? ⟨b, 1, none⟩ = some (.slice (some ⟨gu, 0, none⟩) nu cu)) :
    ∃ c oc cap, w.cell? ⟨gu, A.length, none⟩ = some (.pointer (some ⟨c, 0, none⟩)) ∧ w.cell? ⟨c, 0, none⟩ = some (.slice oc t.xs.length cap) := by
  obtain ⟨v, u, bs, Ls, h1, h2, hp⟩ := h.open
  obtain ⟨bA, ca, bR, LA, Lt, LR, rfl, hbA, k1, k2, k3, kp⟩ := h2.mid
  obtain ⟨tx, tt⟩ := t
  obtain ⟨va, ua, ka, La, n1, n2, np⟩ := k2.open
  have x1 := Nd.cv (x := ⟨b, v, xs, u, bA ++ ca :: bR⟩) h1
  have hu2 : u = .slice (some ⟨gu, 0, none⟩) nu cu := by
    have := x1.2.1.symm.trans hu
    simpa using this
  have hk := Nd.kid (x := ⟨b, v, xs, u, bA ++ ca :: bR⟩) h1 hu2 (b1 := bA) (c := ca) (b2 := bR) rfl
  rw [hbA] at hk
  obtain ⟨oc, cap, e⟩ := Nd.vany (x := ⟨ca, va, tx, ua, ka⟩) n1
  have x2 := Nd.cv (x := ⟨ca, va, tx, ua, ka⟩) n1
  dsimp only at e x2
  rw [e] at x2
  exact ⟨ca, oc, cap, hk, x2.1⟩

theorem below_cells {w : World} {b : Nat} {xs : List Itm} {ts : List Tree} {L : List Nat} (h : TreeP w b (.mk xs ts) L) (hts : ts ≠ []) : ∃ gu cu, w.cell? ⟨b, 1, none⟩ = some (.slice (some ⟨gu, 0, none⟩) ts.length cu) ∧ ts.length ≤ cu := by
  obtain ⟨v, u, bs, Ls, h1, h2, hp⟩ := h.open
  have hl := h2.len
  obtain ⟨g, cap, e, hc, _⟩ := Nd.uform (x := ⟨b, v, xs, u, bs⟩) h1 (by intro e; dsimp only at e; rw [e] at hl; exact hts (List.eq_nil_of_length_eq_zero hl.symm))
  dsimp only at e hc
  have x1 := (Nd.cv (x := ⟨b, v, xs, u, bs⟩) h1).2.1
  dsimp only at x1
  rw [e, hl] at x1
  exact ⟨g, cap, x1, by omega⟩

theorem FillR.same {w w' : World} {b d : Nat} {xs : List Itm} {ts : List Tree} {L : List Nat} (h : TreeP w b (.mk xs ts) L) (hn : L.Nodup) (ho : okT (d + 1) (.mk xs ts)) (hm : Mod NoB w w') : FillR w b d xs ts L w' :=
  ⟨_, _, h.mod hm (fun _ _ e => e), ho, hn, Turn.of_no hm, rfl, Nat.le_succ _⟩

theorem j_small {x j n : Nat} (h : x = j + 1 + n) (hx : x ≤ 6) : j ≤ 100 := by omega
theorem wraps_small (j : Nat) (hj : j ≤ 100) : IntKind.i64.wrap (j : Int) = (j : Int) ∧ IntKind.i64.wrap ((j : Int) + 1) = (j : Int) + 1 ∧ IntKind.i64.wrap ((j : Int) + 1 + 1) = (j : Int) + 2 :=
  ⟨IntWalk.i64_in _ ⟨by omega, by omega⟩, IntWalk.i64_in _ ⟨by omega, by omega⟩, (IntWalk.i64_in ((j : Int) + 1 + 1) ⟨by omega, by omega⟩).trans (by omega)⟩

set_option maxRecDepth 100000 in
set_option maxHeartbeats 8000000 in
theorem fill_ok {w : World} {b d : Nat} {xs : List Itm} {A B : List Tree} {tc : Tree} {L : List Nat} (h : TreeP w b (.mk xs (A ++ tc :: B)) L) (hn : L.Nodup) (hl : (A ++ tc :: B).length = xs.length + 1) (hx : xs.length ≤ 6) (h1 : 1 ≤ xs.length) (hc : okT d tc) (hc2 : 2 ≤ tc.xs.length) (hall : ∀ q ∈ A ++ B, okT d q ∧ 3 ≤ q.xs.length) :
    Calls Tryz.prog 197 #[.pointer (some ⟨b, 0, none⟩), .int .i64 (A.length : Int)] w fun e w' => (∃ v, e = .returned v) ∧ FillR w b d xs (A ++ tc :: B) L w' := by
  obtain ⟨gu, cu, bc, hcu⟩ := below_cells h (by simp)
  obtain ⟨c, oc, ccap, k1, k2⟩ := kid_cells h bc
  rw [hl] at bc hcu
  have hAl : A.length < xs.length + 1 := by simp at hl; omega
  have hAl2 : (A.length : Int) < (xs.length : Int) + 1 := by omega
  have H := Lib.hid h; have HN := Lib.hid hn; have HL := Lib.hid hl; have HALL := Lib.hid hall; have HC := Lib.hid hc
  by_cases h3 : 3 ≤ tc.xs.length
  · have HF := Lib.hid (fun W (hm : Mod NoB w W) => FillR.same (d := d) h hn (by
      unfold okT
      refine ⟨hl, hx, fun s hs => ?_⟩
      rcases List.mem_append.1 hs with hs | hs
      · exact hall s (List.mem_append_left _ hs)
      · rcases List.mem_cons.1 hs with rfl | hs
        · exact ⟨hc, h3⟩
        · exact hall s (List.mem_append_right _ hs)) hm)
    clear h hn hl hall hc
    go_enter Tryz.func197, Tryz.ntmps197
    go_wp2_with fail
    refine bodyPost_ret (results_none rfl _ _ _) rfl ⟨⟨_, rfl⟩, HF.out _ (by repeat (first | exact Mod.refl _ _ | refine Mod.alloc ?_ _ | refine Mod.drew ?_ | refine Mod.drewN ?_ _))⟩
  · have h23 : tc.xs.length = 2 := by omega
    rcases List.eq_nil_or_concat A with rfl | ⟨A', t, hA'⟩
    · cases B with
      | nil => simp only [List.nil_append, List.length_cons, List.length_nil] at hl; omega
      | cons s B' =>
        obtain ⟨cs, ocs, cscap, m1, m2⟩ := kid_cells (A := [tc]) (t := s) (B := B') h bc
        have hs := hall s (by simp)
        have hall2 : ∀ q ∈ [] ++ B', okT d q ∧ 3 ≤ q.xs.length := fun q hq => hall q (by simp at hq; simp [hq])
        have hxx : (0 : Int) + 1 < (xs.length : Int) + 1 := by omega
        simp only [List.length_nil, List.length_cons, Nat.zero_add] at k1 m1 hAl hAl2 ⊢
        by_cases h4 : 3 < s.xs.length
        · have HR := Lib.hid (right_calls (A := []) h hn hl hx hc hs.1 (by omega) hc2 (by omega) hall2)
          clear h hn hl hall hc hs hall2
          go_enter Tryz.func197, Tryz.ntmps197
          go_wp2_with (go_at_call 218; refine HR.out.mono ?_; rintro e w1 ⟨⟨v, rfl⟩, hr⟩; have HR1 := Lib.hid hr; clear hr)
          refine bodyPost_end (results_none rfl _ _ _) rfl ⟨⟨_, rfl⟩, HR1.out⟩
        · have HR := Lib.hid (merge_calls (A := []) h hn hl hx hc hs.1 (by omega) hc2 (by omega) hall2)
          clear h hn hl hall hc hs hall2
          go_enter Tryz.func197, Tryz.ntmps197
          go_wp2_with (go_at_call 219; refine HR.out.mono ?_; rintro e w1 ⟨⟨v, rfl⟩, hr⟩; have HR1 := Lib.hid hr; clear hr)
          refine bodyPost_end (results_none rfl _ _ _) rfl ⟨⟨_, rfl⟩, HR1.out⟩
    · rw [List.concat_eq_append] at hA'; subst hA'
      have e1 : A' ++ [t] ++ tc :: B = A' ++ t :: tc :: B := by simp
      have h' := h
      have hl' := hl
      rw [e1] at h' hl'
      obtain ⟨ct, oct, ctcap, m1, m2⟩ := kid_cells (A := A') (t := t) (B := tc :: B) h' bc
      have ht := hall t (by simp)
      have ht6 := ht.1.wide
      have hall2 : ∀ q ∈ A' ++ B, okT d q ∧ 3 ≤ q.xs.length := fun q hq => hall q (by simp at hq ⊢; rcases hq with e | e <;> simp [e])
      obtain ⟨j, hj⟩ : ∃ j, j = A'.length := ⟨_, rfl⟩
      have hjl : (A' ++ [t]).length = j + 1 := by rw [hj]; simp
      have hjx : xs.length = j + 1 + B.length := by rw [hj]; simp at hl'; omega
      have HW := Lib.hid (wraps_small j (j_small hjx hx))
      have hi2 : ((j : Int) + 2).toNat = j + 2 := by omega
      have hp4 : (0 : Int) ≤ (j : Int) + 2 := by omega
      have hp1 : (0 : Int) < (j : Int) + 1 := by omega
      have hp2 : (j : Int) < (j : Int) + 1 + (B.length : Int) + 1 := by omega
      have hp3 : (j : Int) + 1 < (j : Int) + 1 + (B.length : Int) + 1 := by omega
      rw [hjl] at k1 hAl hAl2
      rw [← hj] at m1
      rw [hjl, e1, show ((j + 1 : Nat) : Int) = (j : Int) + 1 by omega]
      have HJX := Lib.hid hjx
      obtain ⟨nx, hnx⟩ : ∃ nx, nx = j + 1 + B.length + 1 := ⟨_, rfl⟩
      rw [show xs.length + 1 = nx by omega] at bc hcu
      have hn1 : (j : Int) + 1 < (nx : Int) := by omega
      have hn2 : (j : Int) < (nx : Int) := by omega
      have hn3 : j < nx := by omega
      have hn4 : j + 1 < nx := by omega
      clear hAl hAl2 hp2 hp3
      by_cases h4 : 3 < t.xs.length
      · have HR := Lib.hid (left_calls h' hn hl' hx ht.1 hc h4 hc2 (by omega) hall2)
        rw [← hj] at HR
        clear h h' hn hl hl' hall hc ht hall2 hjl hjx hnx e1 hj
        obtain ⟨hw1, hw2, hw3⟩ := HW.out
        go_enter Tryz.func197, Tryz.ntmps197
        go_wp2_with (go_at_call 217; refine HR.out.mono ?_; rintro e w1 ⟨⟨v, rfl⟩, hr⟩; have HR1 := Lib.hid hr; clear hr)
        refine bodyPost_end (results_none rfl _ _ _) rfl ⟨⟨_, rfl⟩, HR1.out⟩
      · have h5 : t.xs.length = 3 := by omega
        have HM := Lib.hid (merge_calls h' hn hl' hx ht.1 hc hc2 (by omega) (by omega) hall2)
        rw [← hj] at HM
        cases B with
        | nil =>
          have hn5 : ¬ (j : Int) + 2 < (nx : Int) := by simp at hnx; omega
          clear h h' hn hl hl' hall hc ht hall2 hjl hjx hnx e1 hj
          obtain ⟨hw1, hw2, hw3⟩ := HW.out
          go_enter Tryz.func197, Tryz.ntmps197
          go_wp2_with (go_at_call 219; refine HM.out.mono ?_; rintro e w1 ⟨⟨v, rfl⟩, hr⟩; have HR1 := Lib.hid hr; clear hr)
          refine bodyPost_end (results_none rfl _ _ _) rfl ⟨⟨_, rfl⟩, HR1.out⟩
        | cons s B' =>
          obtain ⟨cs, ocs, cscap, p1, p2⟩ := kid_cells (A := A' ++ [t] ++ [tc]) (t := s) (B := B') (by simpa using h) bc
          rw [show (A' ++ [t] ++ [tc]).length = j + 2 by rw [hj]; simp] at p1
          have hs := hall s (by simp)
          have hall3 : ∀ q ∈ (A' ++ [t]) ++ B', okT d q ∧ 3 ≤ q.xs.length := fun q hq => hall q (by simp at hq ⊢; rcases hq with e | e | e <;> simp [e])
          have hn5 : (j : Int) + 2 < (nx : Int) := by simp at hnx; omega
          have hn6 : j + 2 < nx := by simp at hnx; omega
          by_cases h6 : 3 < s.xs.length
          · have HR := Lib.hid (right_calls (A := A' ++ [t]) h hn hl hx hc hs.1 h6 hc2 (by omega) hall3)
            rw [hjl, e1, show ((j + 1 : Nat) : Int) = (j : Int) + 1 by omega] at HR
            clear h h' hn hl hl' hall hc ht hall2 hjl hjx hnx e1 hj hs hall3
            obtain ⟨hw1, hw2, hw3⟩ := HW.out
            go_enter Tryz.func197, Tryz.ntmps197
            go_wp2_with (go_at_call 218; refine HR.out.mono ?_; rintro e w1 ⟨⟨v, rfl⟩, hr⟩; have HR1 := Lib.hid hr; clear hr)
            refine bodyPost_end (results_none rfl _ _ _) rfl ⟨⟨_, rfl⟩, HR1.out⟩
          · have h7 : s.xs.length = 3 := by omega
            clear h h' hn hl hl' hall hc ht hall2 hjl hjx hnx e1 hj hs hall3
            obtain ⟨hw1, hw2, hw3⟩ := HW.out
            go_enter Tryz.func197, Tryz.ntmps197
            go_wp2_with (go_at_call 219; refine HM.out.mono ?_; rintro e w1 ⟨⟨v, rfl⟩, hr⟩; have HR1 := Lib.hid hr; clear hr)
            refine bodyPost_end (results_none rfl _ _ _) rfl ⟨⟨_, rfl⟩, HR1.out⟩
end Go.Proofs.YtpcmbnbdppembaaGreatDoor
