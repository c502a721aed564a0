/- Package truth, plain laws: events of unlike keys may change places; what a key has, by its map. -/
import Derived.Test.YtcpbcggfbopobaaTruthPlain
namespace Go.Proofs.Ytcpbcggfbopobaa
open Go.RowKit Go.Proofs

theorem get_append (m n : SMap) (k : ByteArray) : SMap.get (m ++ n) k = (m.get k).or (SMap.get n k) := by
  unfold SMap.get
  rw [List.find?_append]
  cases List.find? (fun x => decide (x.1 = k)) m <;> simp

theorem get_map (m : SMap) (k v k' : ByteArray) : SMap.get (m.map (fun x => if x.1 = k then (k, v) else x)) k' = if k = k' then (m.get k).map (fun _ => v) else m.get k' := by
  induction m with
  | nil => simp [SMap.get]
  | cons x m ih =>
    unfold SMap.get at ih ⊢
    rw [List.map_cons]
    by_cases hx : x.1 = k
    · rw [if_pos hx]
      by_cases hk : k = k'
      · subst hk
        simp [hx]
      · rw [List.find?_cons_of_neg (by simpa using hk), ih, if_neg hk, if_neg hk, List.find?_cons_of_neg (by simpa [hx] using hk)]
    · rw [if_neg hx]
      by_cases hk : k = k'
      · subst hk
        rw [if_pos rfl] at ih ⊢
        rw [List.find?_cons_of_neg (by simpa using hx), List.find?_cons_of_neg (by simpa using hx), ih]
      · rw [if_neg hk] at ih ⊢
        by_cases hx' : x.1 = k'
        · rw [List.find?_cons_of_pos (by simpa using hx'), List.find?_cons_of_pos (by simpa using hx')]
        · rw [List.find?_cons_of_neg (by simpa using hx'), List.find?_cons_of_neg (by simpa using hx'), ih]

theorem get_put (m : SMap) (k v k' : ByteArray) : (m.put k v).get k' = if k = k' then some v else m.get k' := by
  cases hg : m.get k with
  | none =>
    rw [put_new hg, get_append]
    by_cases hk : k = k'
    · subst hk; rw [hg]; simp [SMap.get]
    · rw [if_neg hk]; simp [SMap.get, hk]
  | some u =>
    rw [put_old hg, get_map, hg]; rfl

theorem get_del (m : SMap) (k k' : ByteArray) : (m.del k).get k' = if k = k' then none else m.get k' := by
  induction m with
  | nil => simp [SMap.get, SMap.del]
  | cons x m ih =>
    unfold SMap.get SMap.del at ih ⊢
    by_cases hx : x.1 = k
    · rw [List.filter_cons_of_neg (by simp [hx]), ih]
      by_cases hk : k = k'
      · rw [if_pos hk, if_pos hk]
      · rw [if_neg hk, if_neg hk, List.find?_cons_of_neg (by simpa [hx] using hk)]
    · rw [List.filter_cons_of_pos (by simpa using hx)]
      by_cases hx' : x.1 = k'
      · rw [List.find?_cons_of_pos (by simpa using hx'), List.find?_cons_of_pos (by simpa using hx'), if_neg (fun e => hx (hx'.trans e.symm))]
      · rw [List.find?_cons_of_neg (by simpa using hx'), List.find?_cons_of_neg (by simpa using hx'), ih]

/-- alike as maps -/
def MEq (m n : SMap) : Prop := ∀ k, m.get k = n.get k

theorem mEq_step {m n : SMap} (h : MEq m n) (e : Ev) : MEq (evStep m e) (evStep n e) := by
  intro k
  unfold evStep
  split
  · split
    · rw [get_put, get_put, h k]
    · split
      · rw [get_del, get_del, h k]
      · exact h k
  · exact h k
theorem mEq_foldl (l : List Ev) : ∀ {m n : SMap}, MEq m n → MEq (l.foldl evStep m) (l.foldl evStep n) := by
  induction l with
  | nil => intro m n h; exact h
  | cons e l ih => intro m n h; exact ih (mEq_step h e)

theorem mEq_swap (m : SMap) (a b : Ev) (h : ¬ a.key = b.key) : MEq (evStep (evStep m a) b) (evStep (evStep m b) a) := by
  intro k
  have h' : ¬ b.key = a.key := fun e => h e.symm
  unfold evStep
  by_cases ha : a.key = k
  · have hb : ¬ b.key = k := fun e => h (ha.trans e.symm)
    split <;> split <;> (try split) <;> (try split) <;> (try split) <;> (try split) <;> simp [get_put, get_del, ha, hb]
  · split <;> split <;> (try split) <;> (try split) <;> (try split) <;> (try split) <;> simp [get_put, get_del, ha]

theorem mEq_perm {m n : SMap} (hm : Keys m) (hn : Keys n) (h : MEq m n) : m.Perm n := by
  have nd : ∀ {m : SMap}, Keys m → m.Nodup := fun {m} hm => (List.pairwise_map.1 hm).imp fun h e => h (by rw [e])
  rw [List.perm_ext_iff_of_nodup (nd hm) (nd hn)]
  intro x
  constructor
  · intro hx
    have := get_of_mem hm hx
    rw [h] at this
    exact get_mem this
  · intro hx
    have := get_of_mem hn hx
    rw [← h] at this
    exact get_mem this

theorem fold_swap (l : List Ev) (k : Nat) (a b : Ev) (ha : l[k]? = some a) (hb : l[k + 1]? = some b) (hk : ¬ a.key = b.key) : (foldM l).Perm (foldM ((l.set k b).set (k + 1) a)) := by
  apply mEq_perm (keys_fold _) (keys_fold _)
  have hlt := (List.getElem?_eq_some_iff.1 ha).1
  have hlt2 := (List.getElem?_eq_some_iff.1 hb).1
  have e1 : l = l.take k ++ a :: b :: l.drop (k + 2) := by
    have h1 := (List.getElem?_eq_some_iff.1 ha).2
    have h2 := (List.getElem?_eq_some_iff.1 hb).2
    have := List.take_append_drop k l
    rw [List.drop_eq_getElem_cons hlt, List.drop_eq_getElem_cons hlt2, h1, h2] at this
    exact this.symm
  have hlen : (l.take k).length = k := by rw [List.length_take]; omega
  have e2 : (l.set k b).set (k + 1) a = l.take k ++ b :: a :: l.drop (k + 2) := by
    conv => lhs; rw [e1]
    rw [List.set_append_right _ _ (by omega), hlen, Nat.sub_self, List.set_cons_zero, List.set_append_right _ _ (by omega), hlen, show k + 1 - k = 1 from by omega, List.set_cons_succ, List.set_cons_zero]
  rw [e2]
  unfold foldM
  conv => lhs; rw [e1]
  rw [List.foldl_append, List.foldl_append, List.foldl_cons, List.foldl_cons, List.foldl_cons, List.foldl_cons]
  exact mEq_foldl _ (mEq_swap _ _ _ hk)
end Go.Proofs.Ytcpbcggfbopobaa
