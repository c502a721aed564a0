/- Put together out of: HoldMem, HoldMem2. -/
import Derived.Test.YtpcmbnbdppembaaGreatDoorHoldMay
/- What stores into a hold's cells, and an append to one of its rows, make of it. -/
namespace Go.Proofs.YtpcmbnbdppembaaGreatDoor
set_option linter.unusedSimpArgs false
set_option linter.unusedVariables false
open Go.RowKit

theorem heap_set {w : World} {b : Nat} {cs : Array Value} {e : TypeId} (h : w.heap[b]? = some (.cells cs e (0, 0))) (i : Nat) (v : Value) :
    (w.setCell ⟨b, i, none⟩ v).heap[b]? = some (.cells (cs.setIfInBounds i v) e (0, 0)) := by
  simp only [World.setCell]
  rw [Array.getElem?_modify]
  simp [h]

theorem heap_set_other {w : World} {b k : Nat} (hk : k ≠ b) (i : Nat) (v : Value) : (w.setCell ⟨b, i, none⟩ v).heap[k]? = w.heap[k]? :=
  Below.heap_setCell _ _ _ _ hk

theorem slAt_modS {α : Type} {k : Nat} {enc : α → List Value} {S : Nat → Prop} {w w' : World} {b o n cap : Nat} {xs : List α} (h : SlAt k enc w (.slice (some ⟨b, o, none⟩) n cap) xs) (hm : Mod S w w') (hb : ¬ S b) :
    SlAt k enc w' (.slice (some ⟨b, o, none⟩) n cap) xs := by
  obtain ⟨a, cap', hv, hx⟩ := h
  simp only [Value.slice.injEq] at hv
  obtain ⟨rfl, rfl, rfl⟩ := hv
  refine ⟨_, _, rfl, fun i x hi => ?_⟩
  obtain ⟨b', o', hb', hc⟩ := hx i x hi
  simp only [Option.some.injEq, Addr.mk.injEq] at hb'
  obtain ⟨rfl, rfl, _⟩ := hb'
  refine ⟨_, _, rfl, fun j u hu => ?_⟩
  have h1 := hc j u hu
  rw [hm.cell (cell_lt' h1) hb]
  exact h1

mutual
theorem TreeAt.lts {w : World} : {b : Nat} → {t : Tree} → {L : List Nat} → TreeAt w b t L → ∀ k ∈ L, k < w.heap.size
  | b, .mk xs ts, L, h => by
    unfold TreeAt at h
    obtain ⟨v, u, bs, Ls, h1, h2, h3, h4, rfl⟩ := h
    intro k hk
    simp only [List.mem_cons, List.mem_append] at hk
    rcases hk with rfl | (hk | hk) | hk
    · exact (Array.getElem?_eq_some_iff.1 h1).1
    · exact own_lt h2 k hk
    · exact own_lt h3 k hk
    · exact TreesAt.lts h4 k hk
theorem TreesAt.lts {w : World} : {bs : List Nat} → {ts : List Tree} → {L : List Nat} → TreesAt w bs ts L → ∀ k ∈ L, k < w.heap.size
  | [], [], _, h => by unfold TreesAt at h; subst h; intro k hk; cases hk
  | b :: bs, t :: ts, L, h => by
    unfold TreesAt at h
    obtain ⟨L1, L2, h1, h2, rfl⟩ := h
    intro k hk
    rcases List.mem_append.1 hk with hk | hk
    · exact TreeAt.lts h1 k hk
    · exact TreesAt.lts h2 k hk
  | [], _ :: _, _, h => by unfold TreesAt at h; exact h.elim
  | _ :: _, [], _, h => by unfold TreesAt at h; exact h.elim
end

theorem ShelfAt.lts {w : World} {s : Nat} {most : Int} {tr : Option Tree} {n : Nat} {L : List Nat} (h : ShelfAt w s most tr n L) : ∀ k ∈ L, k < w.heap.size := by
  unfold ShelfAt at h
  cases tr with
  | none =>
    obtain ⟨h1, rfl⟩ := h
    intro k hk
    simp at hk
    subst hk
    exact (Array.getElem?_eq_some_iff.1 h1).1
  | some t =>
    obtain ⟨b, Lt, h1, h2, rfl⟩ := h
    intro k hk
    rcases List.mem_cons.1 hk with rfl | hk
    · exact (Array.getElem?_eq_some_iff.1 h1).1
    · exact h2.lts k hk

theorem HoldAt.lts {w : World} {h : Nat} {st : HSt} {tr : Option Tree} {n : Nat} {B : List Nat} (hh : HoldAt w h st tr n B) : ∀ k ∈ B, k < w.heap.size := by
  obtain ⟨vo, vp, s, L, h1, h2, h3, h4, rfl, h5⟩ := hh
  intro k hk
  simp only [List.mem_cons, List.mem_append] at hk
  rcases hk with rfl | (hk | hk) | hk
  · exact (Array.getElem?_eq_some_iff.1 h1).1
  · exact own_lt h2 k hk
  · exact own_lt h3 k hk
  · exact h4.lts k hk

theorem grown_modS {S : Nat → Prop} {a w w' : World} {v : Value} (h : Mod S a w) (hg : w.grownBy w' v.ownBlock) (hv : ∀ k ∈ ownL v, S k) : Mod S a w' :=
  ⟨hg.os.trans h.os, hg.tape.trans h.tape, hg.output.trans h.output, Nat.le_trans h.size hg.size, fun k hk hn => by
    rw [hg.block k (Nat.lt_of_lt_of_le hk h.size) (fun e => hn (hv k (by simp [ownL, ← e])))]
    exact h.block k hk hn⟩

/-- behind an append to the row of what is owned -/
theorem hold_owned {w W1 W2 : World} {h : Nat} {st : HSt} {tr : Option Tree} {n : Nat} {vo vp : Value} {s : Nat} {L : List Nat} {news : List Ow} {g cap : Nat}
    (h1 : w.heap[h]? = some (.cells #[.int .i64 st.node, .int .i64 st.most, .int .i64 st.kept, vo, .pointer (some ⟨s, 0, none⟩), .bool st.shut, .int .u64 st.a.f, .int .u64 st.a.t, vp] 119 (0, 0)))
    (h2 : w.ownsRow 0 128 4 vo st.own.length (st.own.flatMap encOw))
    (h3 : w.ownsRow 0 180 4 vp st.pts.length (st.pts.flatMap encPtr)) (h4 : ShelfAt w s st.most tr n L) (h5 : (h :: (ownL vo ++ ownL vp ++ L)).Nodup)
    (hm : Mod NoB w W1) (hg : W1.grownBy W2 vo.ownBlock) (hown : W2.ownsRow 0 128 4 (.slice (some ⟨g, 0, none⟩) (st.own.length + news.length) cap) (st.own.length + news.length) (st.own.flatMap encOw ++ news.flatMap encOw))
    (hat : vo.ownBlock = some g ∨ g = W1.heap.size) :
    HoldAt (W2.setCell ⟨h, 3, none⟩ (.slice (some ⟨g, 0, none⟩) (st.own.length + news.length) cap)) h { st with own := st.own ++ news } tr n (h :: ([g] ++ ownL vp ++ L)) ∧
      Turn (h :: (ownL vo ++ ownL vp ++ L)) w (W2.setCell ⟨h, 3, none⟩ (.slice (some ⟨g, 0, none⟩) (st.own.length + news.length) cap)) (h :: ([g] ++ ownL vp ++ L)) := by
  have hlt : h < w.heap.size := (Array.getElem?_eq_some_iff.1 h1).1
  have hlp := own_lt h3
  have hlL := h4.lts
  have hlo := own_lt h2
  have h5' := h5
  simp only [List.nodup_cons, List.mem_append, not_or, List.nodup_append] at h5
  obtain ⟨⟨⟨ho, hp⟩, hL⟩, ⟨_, hvp, hop⟩, hLL, hrest⟩ := h5
  have hgh : g ≠ h := by
    rcases hat with e | e
    · intro hgh; exact ho (by simp [ownL, e, hgh])
    · have := hm.size; omega
  have hgp : g ∉ ownL vp := by
    rcases hat with e | e
    · intro hgh; exact hop g (by simp [ownL, e]) g hgh rfl
    · intro hgh; have := hlp g hgh; have := hm.size; omega
  have hgL : g ∉ L := by
    rcases hat with e | e
    · intro hgh; exact hrest g (.inl (by simp [ownL, e])) g hgh rfl
    · intro hgh; have := hlL g hgh; have := hm.size; omega
  have hM2 : Mod (· ∈ ownL vo) w W2 := grown_modS (hm.mono (fun _ _ x => x.elim)) hg (fun k hk => hk)
  have hh2 : W2.heap[h]? = some (.cells #[.int .i64 st.node, .int .i64 st.most, .int .i64 st.kept, vo, .pointer (some ⟨s, 0, none⟩), .bool st.shut, .int .u64 st.a.f, .int .u64 st.a.t, vp] 119 (0, 0)) := by
    rw [hM2.block h hlt ho]; exact h1
  have hM3 : Mod (fun k => k ∈ ownL vo ∨ k = h) w (W2.setCell ⟨h, 3, none⟩ (.slice (some ⟨g, 0, none⟩) (st.own.length + news.length) cap)) :=
    (hM2.mono (fun _ _ x => .inl x)).setCell (fun _ => .inr rfl) _
  have hself : Mod (· = h) W2 (W2.setCell ⟨h, 3, none⟩ (.slice (some ⟨g, 0, none⟩) (st.own.length + news.length) cap)) := (Mod.refl (· = h) W2).setCell (p := ⟨h, 3, none⟩) (fun _ => rfl) _
  refine ⟨⟨.slice (some ⟨g, 0, none⟩) (st.own.length + news.length) cap, vp, s, L, ?_, ?_, own_mod' h3 hM3 ?_, h4.mod hM3 ?_, rfl, ?_⟩, hM3.mono ?_, ?_⟩
  · have := heap_set hh2 3 (.slice (some ⟨g, 0, none⟩) (st.own.length + news.length) cap)
    simpa using this
  · have := own_mod' hown hself (fun k hk => by simp [ownL, Value.ownBlock] at hk; omega)
    simpa using this
  · rintro k hk (e | e)
    · exact hop k e k hk rfl
    · subst e; exact hp hk
  · rintro k hk (e | e)
    · exact hrest k (.inl e) k hk rfl
    · subst e; exact hL hk
  · simp only [ownL, Value.ownBlock, Option.toList_some, List.nodup_cons, List.mem_append, not_or, List.nodup_append, List.mem_singleton, List.not_mem_nil, not_false_eq_true, List.nodup_nil, and_true, true_and]
    refine ⟨⟨⟨fun e => hgh e.symm, hp⟩, hL⟩, ⟨hvp, ?_⟩, hLL, ?_⟩
    · rintro a rfl b hb e
      subst e; exact hgp hb
    · rintro a (rfl | ha) b hb e
      · subst e; exact hgL hb
      · exact hrest a (.inr ha) b hb e
  · rintro k _ (e | rfl)
    · simp [e]
    · simp
  · intro k hk
    simp only [List.mem_cons, List.mem_append, List.cons_append, List.nil_append] at hk ⊢
    rcases hk with rfl | rfl | hk | hk
    · exact .inl (.inl rfl)
    · rcases hat with e | e
      · exact .inl (.inr (.inl (.inl (by simp [ownL, e]))))
      · exact .inr (by rw [e]; exact hm.size)
    · exact .inl (.inr (.inl (.inr hk)))
    · exact .inl (.inr (.inr hk))
end Go.Proofs.YtpcmbnbdppembaaGreatDoor

/- What stores into a hold's cells, and an append to the row of its pointers, make of it. -/
namespace Go.Proofs.YtpcmbnbdppembaaGreatDoor
set_option linter.unusedSimpArgs false
set_option linter.unusedVariables false
open Go.RowKit

/-- a hold of which cells alone have turned -/
theorem hold_cells {w w' : World} {h : Nat} {st st' : HSt} {tr : Option Tree} {n : Nat} {vo vp : Value} {s : Nat} {L : List Nat}
    (h2 : w.ownsRow 0 128 4 vo st.own.length (st.own.flatMap encOw))
    (h3 : w.ownsRow 0 180 4 vp st.pts.length (st.pts.flatMap encPtr)) (h4 : ShelfAt w s st.most tr n L) (h5 : (h :: (ownL vo ++ ownL vp ++ L)).Nodup)
    (hm : Mod (· = h) w w') (ho : st'.own = st.own) (hp : st'.pts = st.pts) (hmo : st'.most = st.most)
    (hh : w'.heap[h]? = some (.cells #[.int .i64 st'.node, .int .i64 st'.most, .int .i64 st'.kept, vo, .pointer (some ⟨s, 0, none⟩), .bool st'.shut, .int .u64 st'.a.f, .int .u64 st'.a.t, vp] 119 (0, 0))) :
    HoldAt w' h st' tr n (h :: (ownL vo ++ ownL vp ++ L)) ∧ Turn (h :: (ownL vo ++ ownL vp ++ L)) w w' (h :: (ownL vo ++ ownL vp ++ L)) := by
  have h5' := h5
  simp only [List.nodup_cons, List.mem_append, not_or] at h5
  obtain ⟨⟨⟨q1, q2⟩, q3⟩, _⟩ := h5
  refine ⟨⟨vo, vp, s, L, hh, ?_, ?_, ?_, rfl, h5'⟩, hm.mono (fun k _ e => by simp [e]), fun _ hk => .inl hk⟩
  · rw [ho]; exact own_mod' h2 hm (fun k hk e => q1 (e ▸ hk))
  · rw [hp]; exact own_mod' h3 hm (fun k hk e => q2 (e ▸ hk))
  · rw [hmo]; exact h4.mod hm (fun k hk e => q3 (e ▸ hk))

/-- behind an append to the row of the pointers -/
theorem hold_pointed {w W1 W2 : World} {h : Nat} {st : HSt} {tr : Option Tree} {n : Nat} {vo vp : Value} {s : Nat} {L : List Nat} {news : List Ptr} {g cap : Nat}
    (h1 : w.heap[h]? = some (.cells #[.int .i64 st.node, .int .i64 st.most, .int .i64 st.kept, vo, .pointer (some ⟨s, 0, none⟩), .bool st.shut, .int .u64 st.a.f, .int .u64 st.a.t, vp] 119 (0, 0)))
    (h2 : w.ownsRow 0 128 4 vo st.own.length (st.own.flatMap encOw))
    (h3 : w.ownsRow 0 180 4 vp st.pts.length (st.pts.flatMap encPtr)) (h4 : ShelfAt w s st.most tr n L) (h5 : (h :: (ownL vo ++ ownL vp ++ L)).Nodup)
    (hm : Mod NoB w W1) (hg : W1.grownBy W2 vp.ownBlock) (hown : W2.ownsRow 0 180 4 (.slice (some ⟨g, 0, none⟩) (st.pts.length + news.length) cap) (st.pts.length + news.length) (st.pts.flatMap encPtr ++ news.flatMap encPtr))
    (hat : vp.ownBlock = some g ∨ g = W1.heap.size) :
    HoldAt (W2.setCell ⟨h, 8, none⟩ (.slice (some ⟨g, 0, none⟩) (st.pts.length + news.length) cap)) h { st with pts := st.pts ++ news } tr n (h :: (ownL vo ++ [g] ++ L)) ∧
      Turn (h :: (ownL vo ++ ownL vp ++ L)) w (W2.setCell ⟨h, 8, none⟩ (.slice (some ⟨g, 0, none⟩) (st.pts.length + news.length) cap)) (h :: (ownL vo ++ [g] ++ L)) := by
  have hlt : h < w.heap.size := (Array.getElem?_eq_some_iff.1 h1).1
  have hlo := own_lt h2
  have hlL := h4.lts
  have h5' := h5
  simp only [List.nodup_cons, List.mem_append, not_or, List.nodup_append] at h5
  obtain ⟨⟨⟨ho, hp⟩, hL⟩, ⟨hvo, _, hop⟩, hLL, hrest⟩ := h5
  have hgh : g ≠ h := by
    rcases hat with e | e
    · intro hgh; exact hp (by simp [ownL, e, hgh])
    · have := hm.size; omega
  have hgo : g ∉ ownL vo := by
    rcases hat with e | e
    · intro hgh; exact hop g hgh g (by simp [ownL, e]) rfl
    · intro hgh; have := hlo g hgh; have := hm.size; omega
  have hgL : g ∉ L := by
    rcases hat with e | e
    · intro hgh; exact hrest g (.inr (by simp [ownL, e])) g hgh rfl
    · intro hgh; have := hlL g hgh; have := hm.size; omega
  have hM2 : Mod (· ∈ ownL vp) w W2 := grown_modS (hm.mono (fun _ _ x => x.elim)) hg (fun k hk => hk)
  have hh2 : W2.heap[h]? = some (.cells #[.int .i64 st.node, .int .i64 st.most, .int .i64 st.kept, vo, .pointer (some ⟨s, 0, none⟩), .bool st.shut, .int .u64 st.a.f, .int .u64 st.a.t, vp] 119 (0, 0)) := by
    rw [hM2.block h hlt hp]; exact h1
  have hM3 : Mod (fun k => k ∈ ownL vp ∨ k = h) w (W2.setCell ⟨h, 8, none⟩ (.slice (some ⟨g, 0, none⟩) (st.pts.length + news.length) cap)) :=
    (hM2.mono (fun _ _ x => .inl x)).setCell (fun _ => .inr rfl) _
  have hself : Mod (· = h) W2 (W2.setCell ⟨h, 8, none⟩ (.slice (some ⟨g, 0, none⟩) (st.pts.length + news.length) cap)) := (Mod.refl (· = h) W2).setCell (p := ⟨h, 8, none⟩) (fun _ => rfl) _
  refine ⟨⟨vo, .slice (some ⟨g, 0, none⟩) (st.pts.length + news.length) cap, s, L, ?_, own_mod' h2 hM3 ?_, ?_, h4.mod hM3 ?_, rfl, ?_⟩, hM3.mono ?_, ?_⟩
  · have := heap_set hh2 8 (.slice (some ⟨g, 0, none⟩) (st.pts.length + news.length) cap)
    simpa using this
  · rintro k hk (e | e)
    · exact hop k hk k e rfl
    · subst e; exact ho hk
  · have := own_mod' hown hself (fun k hk => by simp [ownL, Value.ownBlock] at hk; omega)
    simpa using this
  · rintro k hk (e | e)
    · exact hrest k (.inr e) k hk rfl
    · subst e; exact hL hk
  · simp only [ownL, Value.ownBlock, Option.toList_some, List.nodup_cons, List.mem_append, not_or, List.nodup_append, List.mem_singleton, List.not_mem_nil, not_false_eq_true, List.nodup_nil, and_true, true_and]
    refine ⟨⟨⟨ho, fun e => hgh e.symm⟩, hL⟩, ⟨hvo, ?_⟩, hLL, ?_⟩
    · rintro a ha b rfl e
      subst e; exact hgo ha
    · rintro a (ha | rfl) b hb e
      · exact hrest a (.inl ha) b hb e
      · subst e; exact hgL hb
  · rintro k _ (e | rfl)
    · simp [e]
    · simp
  · intro k hk
    simp only [List.mem_cons, List.mem_append, List.not_mem_nil, or_false] at hk ⊢
    rcases hk with rfl | (hk | rfl) | hk
    · exact .inl (.inl rfl)
    · exact .inl (.inr (.inl (.inl hk)))
    · rcases hat with e | e
      · exact .inl (.inr (.inl (.inr (by simp [ownL, e]))))
      · exact .inr (by rw [e]; exact hm.size)
    · exact .inl (.inr (.inr hk))
end Go.Proofs.YtpcmbnbdppembaaGreatDoor
