/- Package truth: the items of a map, by key: what range, append and the sort leave. -/
import Derived.Test.YtcpbcggfbopobaaTruthB
import Derived.Shelf.SlSortCmp.WholeK
import Derived.Shelf.SlSortCmp.NoneTotal
namespace Go.Proofs.Ytcpbcggfbopobaa
open Go.RowKit Go.Proofs Go.Sort Go.Shelf

def flatIt (l : SMap) : List Value := l.flatMap encIt

theorem flatIt_len (l : SMap) : (flatIt l).length = l.length * 2 := by
  induction l with
  | nil => rfl
  | cons x l ih => simp [flatIt, List.flatMap_cons] at ih ⊢; omega

theorem flatIt_get : (l : SMap) → (i : Nat) → (x : ByteArray × ByteArray) → l[i]? = some x → (flatIt l)[i * 2]? = some (.string x.1) ∧ (flatIt l)[i * 2 + 1]? = some (.string x.2)
  | y :: l, 0, x, h => by
    simp at h; subst h
    exact ⟨rfl, rfl⟩
  | y :: l, i + 1, x, h => by
    have := flatIt_get l i x (by simpa using h)
    have e : (i + 1) * 2 = i * 2 + 2 := by omega
    rw [e]
    exact this

theorem flatK_it (l : SMap) : (flatK encIt 2 l.toArray).toList = flatIt l := by
  apply List.ext_getElem?
  intro t
  by_cases ht : t < l.length * 2
  · have hi : t / 2 < l.length := by omega
    have hx : l[t / 2]? = some l[t / 2] := List.getElem?_eq_getElem hi
    obtain ⟨h0, h1⟩ := flatIt_get l (t / 2) _ hx
    have e := get_flatK encIt 2 l.toArray t (by simpa using ht)
    have hs : t < (flatK encIt 2 l.toArray).size := by simpa using ht
    rw [Array.getElem?_toList, Array.getElem?_eq_getElem hs, ← getElem!_pos _ t hs, e]
    have hg : l.toArray[t / 2]! = l[t / 2] := by simp [hi]
    rw [hg]
    rcases Nat.mod_two_eq_zero_or_one t with hm | hm
    · have : t = t / 2 * 2 := by omega
      rw [hm]
      conv => rhs; rw [this]
      rw [h0]; rfl
    · have : t = t / 2 * 2 + 1 := by omega
      rw [hm]
      conv => rhs; rw [this]
      rw [h1]; rfl
  · rw [List.getElem?_eq_none (by simp; omega), List.getElem?_eq_none (by rw [flatIt_len]; omega)]

theorem holdsK_of_owns {w : World} {base : Nat} {e : TypeId} {g cap : Nat} {acc : SMap} (h : w.ownsRow base e 2 (.slice (some ⟨g, 0, none⟩) acc.length cap) acc.length (flatIt acc)) :
    HoldsK encIt 2 w g 0 acc.toArray := by
  intro j hj
  have hj' : j < acc.length * 2 := by simpa using hj
  have hc := h.cellAt j hj'
  have hf := h.frozenAt j
  rw [Nat.zero_add]
  refine ⟨?_, hf⟩
  rw [hc, ← flatK_it, Array.getElem?_toList, Array.getElem?_eq_getElem hj, ← getElem!_pos _ j hj]
  rfl

theorem sortWorldK_mod {w : World} {g n : Nat} {d : Array (ByteArray × ByteArray)} {os : Array Obj} : Mod (· = g) w (sortWorldK encIt 2 w g 0 n d os) := by
  refine ⟨rfl, rfl, rfl, ?_, fun k hk hn => ?_⟩
  · simp [sortWorldK, putRowK]
  · unfold sortWorldK
    rw [heap_grow_old _ _ (by simpa [putRowK] using hk)]
    simp only [putRowK, putRow, mapBlock, Array.getElem?_modify]
    rw [if_neg (fun e => hn e.symm)]
    rfl

theorem itemsAt_of_holds {w : World} {g cap : Nat} {d : Array (ByteArray × ByteArray)} (h : HoldsK encIt 2 w g 0 d) : ItemsAt w (.slice (some ⟨g, 0, none⟩) d.size cap) d.toList := by
  refine ⟨some ⟨g, 0, none⟩, cap, by simp, fun i x hi => ⟨g, 0, rfl, fun j u hu => ?_⟩⟩
  have hi' : i < d.size := by
    have := (List.getElem?_eq_some_iff.1 hi).1
    simpa using this
  have hx : d[i]! = x := by
    rw [Array.getElem?_toList] at hi
    rw [getElem!_pos _ i hi']
    exact Option.some.inj ((Array.getElem?_eq_getElem hi').symm.trans hi)
  have hj : j < 2 := by
    have := (List.getElem?_eq_some_iff.1 hu).1
    simpa using this
  have := (h.cell hi' hj).1
  rw [hx] at this
  rw [this, getElem!_pos _ j (by simpa using hj)]
  exact (List.getElem?_eq_getElem (by simpa using hj)).symm.trans hu

/-- sorted by key -/
def SortedS (l : SMap) : Prop := l.Pairwise fun x y => ltS y.1 x.1 = false

theorem sortedS_of {d : Array (ByteArray × ByteArray)} (h : SortedIn (ltOf fun x y : ByteArray × ByteArray => cmpS x.1 y.1) 0 d.size d) : SortedS d.toList := by
  unfold SortedS
  rw [List.pairwise_iff_getElem]
  intro i j hi hj hij
  have hi' : i < d.size := by simpa using hi
  have hj' : j < d.size := by simpa using hj
  have := h i j (Nat.zero_le _) hij hj'
  rw [ltOf_cmpS, getElem!_pos _ j hj', getElem!_pos _ i hi'] at this
  simpa using this

theorem sorted_perm_eq {l l' : SMap} (hp : l.Perm l') (h : SortedS l) (h' : SortedS l') (hn : (l.map (·.1)).Nodup) : l = l' := by
  refine hp.eq_of_pairwise ?_ h h'
  intro a b ha hb h1 h2
  have e := ltS_total h2 h1
  have hb' : b ∈ l := hp.mem_iff.2 hb
  obtain ⟨i, hi⟩ := List.mem_iff_getElem?.1 ha
  obtain ⟨j, hj⟩ := List.mem_iff_getElem?.1 hb'
  have h3 : (l.map (·.1))[i]? = some a.1 := by simp [hi]
  have h4 : (l.map (·.1))[j]? = some a.1 := by simp [hj, e]
  have : i = j := (List.getElem?_inj (List.getElem?_eq_some_iff.1 h3).1 hn).1 (h3.trans h4.symm)
  subst this
  exact Option.some.inj (hi.symm.trans hj)
end Go.Proofs.Ytcpbcggfbopobaa
