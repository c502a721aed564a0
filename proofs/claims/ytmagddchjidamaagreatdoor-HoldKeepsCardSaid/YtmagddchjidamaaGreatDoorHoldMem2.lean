/- What stores into a hold's cells, and an append to the row of its pointers, make of it. -/
import Derived.Test.YtmagddchjidamaaGreatDoorHoldMem
namespace Go.Proofs.YtmagddchjidamaaGreatDoor
set_option linter.unusedSimpArgs false
set_option linter.unusedVariables false
open Go.RowKit

/-- a hold of which cells alone have turned -/
theorem hold_cells {w w' : World} {h : Nat} {st st' : HSt} {tr : Option Tree} {n : Nat} {vo vp : Value} {s : Nat} {L : List Nat}
    (h2 : w.ownsRow 0 66 4 vo st.own.length (st.own.flatMap encOw))
    (h3 : w.ownsRow 0 117 4 vp st.pts.length (st.pts.flatMap encPtr)) (h4 : ShelfAt w s st.most tr n L) (h5 : (h :: (ownL vo ++ ownL vp ++ L)).Nodup)
    (hm : Mod (· = h) w w') (ho : st'.own = st.own) (hp : st'.pts = st.pts) (hmo : st'.most = st.most)
    (hh : w'.heap[h]? = some (.cells #[.int .i64 st'.node, .int .i64 st'.most, .int .i64 st'.kept, vo, .pointer (some ⟨s, 0, none⟩), .bool st'.shut, .int .u64 st'.a.f, .int .u64 st'.a.t, vp] 75 (0, 0))) :
    HoldAt w' h st' tr n (h :: (ownL vo ++ ownL vp ++ L)) ∧ Turn (h :: (ownL vo ++ ownL vp ++ L)) w w' (h :: (ownL vo ++ ownL vp ++ L)) := by
  have h5' := h5
  simp only [List.nodup_cons, List.mem_append, not_or] at h5
  obtain ⟨⟨⟨q1, q2⟩, q3⟩, _⟩ := h5
  refine ⟨⟨vo, vp, s, L, hh, ?_, ?_, ?_, rfl, h5'⟩, hm.mono (fun k _ e => by simp [e]), fun _ hk => .inl hk⟩
  · rw [ho]; exact own_mod' h2 hm (fun k hk e => q1 (e ▸ hk))
  · rw [hp]; exact own_mod' h3 hm (fun k hk e => q2 (e ▸ hk))
  · rw [hmo]; exact h4.mod hm (fun k hk e => q3 (e ▸ hk))

/-- behind an append to the row of the pointers -/
theorem hold_pointed {w W1 W2 : World} {h : Nat} {st : HSt} {tr : Option Tree} {n : Nat} {vo vp : Value} {s : Nat} {L : List Nat} {news : List Ptr} {g cap : Nat}
    (h1 : w.heap[h]? = some (.cells #[.int .i64 st.node, .int .i64 st.most, .int .i64 st.kept, vo, .pointer (some ⟨s, 0, none⟩), .bool st.shut, .int .u64 st.a.f, .int .u64 st.a.t, vp] 75 (0, 0)))
    (h2 : w.ownsRow 0 66 4 vo st.own.length (st.own.flatMap encOw))
    (h3 : w.ownsRow 0 117 4 vp st.pts.length (st.pts.flatMap encPtr)) (h4 : ShelfAt w s st.most tr n L) (h5 : (h :: (ownL vo ++ ownL vp ++ L)).Nodup)
    (hm : Mod NoB w W1) (hg : W1.grownBy W2 vp.ownBlock) (hown : W2.ownsRow 0 117 4 (.slice (some ⟨g, 0, none⟩) (st.pts.length + news.length) cap) (st.pts.length + news.length) (st.pts.flatMap encPtr ++ news.flatMap encPtr))
    (hat : vp.ownBlock = some g ∨ g = W1.heap.size) :
    HoldAt (W2.setCell ⟨h, 8, none⟩ (.slice (some ⟨g, 0, none⟩) (st.pts.length + news.length) cap)) h { st with pts := st.pts ++ news } tr n (h :: (ownL vo ++ [g] ++ L)) ∧
      Turn (h :: (ownL vo ++ ownL vp ++ L)) w (W2.setCell ⟨h, 8, none⟩ (.slice (some ⟨g, 0, none⟩) (st.pts.length + news.length) cap)) (h :: (ownL vo ++ [g] ++ L)) := by
  have hlt : h < w.heap.size := (Array.getElem?_eq_some_iff.1 h1).1
  have hlo := own_lt h2
  have hlL := h4.lts
  have h5' := h5
  simp only [List.nodup_cons, List.mem_append, not_or, List.nodup_append] at h5
  obtain ⟨⟨⟨ho, hp⟩, hL⟩, ⟨hvo, _, hop⟩, hLL, hrest⟩ := h5
  have hgh : g ≠ h := by
    rcases hat with e | e
    · intro hgh; exact hp (by simp [ownL, e, hgh])
    · have := hm.size; omega
  have hgo : g ∉ ownL vo := by
    rcases hat with e | e
    · intro hgh; exact hop g hgh g (by simp [ownL, e]) rfl
    · intro hgh; have := hlo g hgh; have := hm.size; omega
  have hgL : g ∉ L := by
    rcases hat with e | e
    · intro hgh; exact hrest g (.inr (by simp [ownL, e])) g hgh rfl
    · intro hgh; have := hlL g hgh; have := hm.size; omega
  have hM2 : Mod (· ∈ ownL vp) w W2 := grown_modS (hm.mono (fun _ _ x => x.elim)) hg (fun k hk => hk)
  have hh2 : W2.heap[h]? = some (.cells #[.int .i64 st.node, .int .i64 st.most, .int .i64 st.kept, vo, .pointer (some ⟨s, 0, none⟩), .bool st.shut, .int .u64 st.a.f, .int .u64 st.a.t, vp] 75 (0, 0)) := by
    rw [hM2.block h hlt hp]; exact h1
  have hM3 : Mod (fun k => k ∈ ownL vp ∨ k = h) w (W2.setCell ⟨h, 8, none⟩ (.slice (some ⟨g, 0, none⟩) (st.pts.length + news.length) cap)) :=
    (hM2.mono (fun _ _ x => .inl x)).setCell (fun _ => .inr rfl) _
  have hself : Mod (· = h) W2 (W2.setCell ⟨h, 8, none⟩ (.slice (some ⟨g, 0, none⟩) (st.pts.length + news.length) cap)) := (Mod.refl (· = h) W2).setCell (p := ⟨h, 8, none⟩) (fun _ => rfl) _
  refine ⟨⟨vo, .slice (some ⟨g, 0, none⟩) (st.pts.length + news.length) cap, s, L, ?_, own_mod' h2 hM3 ?_, ?_, h4.mod hM3 ?_, rfl, ?_⟩, hM3.mono ?_, ?_⟩
  · have := heap_set hh2 8 (.slice (some ⟨g, 0, none⟩) (st.pts.length + news.length) cap)
    simpa using this
  · rintro k hk (e | e)
    · exact hop k hk k e rfl
    · subst e; exact ho hk
  · have := own_mod' hown hself (fun k hk => by simp [ownL, Value.ownBlock] at hk; omega)
    simpa using this
  · rintro k hk (e | e)
    · exact hrest k (.inr e) k hk rfl
    · subst e; exact hL hk
  · simp only [ownL, Value.ownBlock, Option.toList_some, List.nodup_cons, List.mem_append, not_or, List.nodup_append, List.mem_singleton, List.not_mem_nil, not_false_eq_true, List.nodup_nil, and_true, true_and]
    refine ⟨⟨⟨ho, fun e => hgh e.symm⟩, hL⟩, ⟨hvo, ?_⟩, hLL, ?_⟩
    · rintro a ha b rfl e
      subst e; exact hgo ha
    · rintro a (ha | rfl) b hb e
      · exact hrest a (.inl ha) b hb e
      · subst e; exact hgL hb
  · rintro k _ (e | rfl)
    · simp [e]
    · simp
  · intro k hk
    simp only [List.mem_cons, List.mem_append, List.not_mem_nil, or_false] at hk ⊢
    rcases hk with rfl | (hk | rfl) | hk
    · exact .inl (.inl rfl)
    · exact .inl (.inr (.inl (.inl hk)))
    · rcases hat with e | e
      · exact .inl (.inr (.inl (.inr (by simp [ownL, e]))))
      · exact .inr (by rw [e]; exact hm.size)
    · exact .inl (.inr (.inr hk))
end Go.Proofs.YtmagddchjidamaaGreatDoor
