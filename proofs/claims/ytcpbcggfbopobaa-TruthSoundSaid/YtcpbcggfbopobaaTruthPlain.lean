/- Package truth, plain laws: what a key has at a step is among what it held; what it never had is not; no value stands twice side by side. -/
import Derived.Test.YtcpbcggfbopobaaTruthK
namespace Go.Proofs.Ytcpbcggfbopobaa
open Go.RowKit Go.Proofs

def Keys (m : SMap) : Prop := (m.map (·.1)).Nodup

theorem keys_put {m : SMap} (h : Keys m) (k v : ByteArray) : Keys (m.put k v) := by
  unfold Keys at *
  cases hg : m.get k with
  | none =>
    rw [put_new hg, List.map_append, List.nodup_append]
    refine ⟨h, by simp, fun x hx y hy => ?_⟩
    simp only [List.map_cons, List.map_nil, List.mem_singleton] at hy
    obtain ⟨z, hz, rfl⟩ := List.mem_map.1 hx
    subst hy
    exact get_none_any hg z hz
  | some u =>
    rw [put_old hg]
    have : (m.map (fun x => if x.1 = k then (k, v) else x)).map (·.1) = m.map (·.1) := by
      rw [List.map_map]
      apply List.map_congr_left
      intro x _
      by_cases hx : x.1 = k <;> simp [hx]
    rw [this]; exact h

theorem keys_del {m : SMap} (h : Keys m) (k : ByteArray) : Keys (m.del k) := by
  unfold Keys SMap.del at *
  exact h.sublist (List.Sublist.map _ List.filter_sublist)

theorem keys_step {m : SMap} (h : Keys m) (e : Ev) : Keys (evStep m e) := by
  unfold evStep
  split
  · split
    · exact keys_put h _ _
    · split
      · exact keys_del h _
      · exact h
  · exact h

theorem keys_foldl (l : List Ev) : ∀ {m : SMap}, Keys m → Keys (l.foldl evStep m) := by
  induction l with
  | nil => intro m h; exact h
  | cons e l ih => intro m h; exact ih (keys_step h e)
theorem keys_fold (l : List Ev) : Keys (foldM l) := keys_foldl l List.nodup_nil

theorem get_of_mem : {m : SMap} → Keys m → {x : ByteArray × ByteArray} → x ∈ m → m.get x.1 = some x.2
  | y :: m, h, x, hx => by
    unfold Keys at h
    simp only [List.map_cons, List.nodup_cons] at h
    rcases List.mem_cons.1 hx with rfl | hx
    · simp [SMap.get]
    · have hne : ¬ y.1 = x.1 := fun e => h.1 (e ▸ List.mem_map_of_mem hx)
      have := get_of_mem (m := m) h.2 hx
      simp only [SMap.get] at this ⊢
      rw [List.find?_cons_of_neg (by simpa using hne)]
      exact this

theorem get_mem {m : SMap} {k v : ByteArray} (h : m.get k = some v) : (k, v) ∈ m := by
  simp only [SMap.get, Option.map_eq_some_iff] at h
  obtain ⟨x, hx, rfl⟩ := h
  have h1 := List.find?_some hx
  have : x.1 = k := by simpa using h1
  subst this
  exact List.mem_of_find?_eq_some hx

/-! tell -/
theorem tell_mono (m : SMap) (k : ByteArray) (out : List ByteArray) {v : ByteArray} (h : v ∈ out) : v ∈ tellL m k out := by
  unfold tellL
  split
  · exact h
  · split
    · exact h
    · exact List.mem_append_left _ h
theorem tell_has {m : SMap} {k v : ByteArray} (out : List ByteArray) (h : m.get k = some v) : v ∈ tellL m k out := by
  unfold tellL
  rw [h]
  simp only
  split
  · rename_i hl; exact List.mem_of_getLast? hl
  · simp

theorem step_mono (k : ByteArray) (fr to : Int) (s : HState) (e : Ev) {v : ByteArray} (h : v ∈ s.out) : v ∈ (heldStep k fr to s e).out := by
  have h1 : v ∈ (if s.begun then s.out else tellL s.m k s.out) := by
    split
    · exact h
    · exact tell_mono _ _ _ h
  unfold heldStep
  split
  · exact h
  · split
    · exact tell_mono _ _ _ h1
    · exact h1
theorem foldl_mono (k : ByteArray) (fr to : Int) (l : List Ev) : ∀ (s : HState) {v : ByteArray}, v ∈ s.out → v ∈ (l.foldl (heldStep k fr to) s).out := by
  induction l with
  | nil => intro s v h; exact h
  | cons e l ih => intro s v h; exact ih _ (step_mono k fr to s e h)

def heldEnd (k : ByteArray) (f : HState) : List ByteArray := if f.begun then f.out else tellL f.m k f.out
theorem heldEnd_eq (k : ByteArray) (fr to : Int) (l : List Ev) : heldL k fr to l = heldEnd k (heldS k fr to l) := rfl
theorem heldEnd_out (k : ByteArray) (f : HState) {v : ByteArray} (h : v ∈ f.out) : v ∈ heldEnd k f := by
  unfold heldEnd
  cases f.begun
  · exact tell_mono _ _ _ h
  · exact h
theorem heldEnd_has (k : ByteArray) (f : HState) {v : ByteArray} (hb : f.begun = true → v ∈ f.out) (hg : f.m.get k = some v) : v ∈ heldEnd k f := by
  unfold heldEnd
  cases h : f.begun
  · exact tell_has _ hg
  · exact hb h

/-- the events from here on, the state 's' behind those ahead: what the map says at a step is told -/
theorem held_from (k : ByteArray) (fr at' to : Int) (h1 : fr ≤ at') (h2 : at' ≤ to) (v : ByteArray) : ∀ (l : List Ev) (s : HState), l.Pairwise (fun a b => a.step ≤ b.step) →
    (s.begun = true → ∀ e ∈ l, fr < e.step) →
    ((upTo at' l).foldl evStep s.m).get k = some v → (s.begun = true → s.m.get k = some v → v ∈ s.out) →
    v ∈ heldEnd k (l.foldl (heldStep k fr to) s) := by
  intro l
  induction l with
  | nil =>
    intro s _ _ hv hb
    simp only [upTo, List.filter_nil, List.foldl_nil] at hv ⊢
    exact heldEnd_has k s (fun h => hb h hv) hv
  | cons e l ih =>
    intro s hp hbs hv hb
    rw [List.pairwise_cons] at hp
    simp only [List.foldl_cons]
    by_cases he : e.step ≤ at'
    · -- the event counts
      have hu : upTo at' (e :: l) = e :: upTo at' l := by simp [upTo, he]
      rw [hu, List.foldl_cons] at hv
      by_cases hf : e.step ≤ fr
      · have hst : heldStep k fr to s e = ⟨evStep s.m e, s.out, s.begun⟩ := by unfold heldStep; rw [if_pos hf]
        have hnb : ¬ s.begun = true := fun h => by have := hbs h e List.mem_cons_self; omega
        rw [hst]
        exact ih _ hp.2 (fun h => absurd h hnb) hv (fun h => absurd h hnb)
      · have ht : e.step ≤ to := Int.le_trans he h2
        have hst : heldStep k fr to s e = ⟨evStep s.m e, tellL (evStep s.m e) k (if s.begun then s.out else tellL s.m k s.out), true⟩ := by
          unfold heldStep; rw [if_neg hf, if_pos ht]
        rw [hst]
        exact ih _ hp.2 (fun _ x hx => by have := hp.1 x hx; omega) hv (fun _ hg => tell_has _ hg)
    · -- it comes later, and so do all behind it: the map is at its value now
      have hno : upTo at' (e :: l) = [] := by
        unfold upTo
        rw [List.filter_eq_nil_iff]
        intro x hx
        rcases List.mem_cons.1 hx with rfl | hx
        · simpa using he
        · have := hp.1 x hx
          simp; omega
      rw [hno, List.foldl_nil] at hv
      have hf : ¬ e.step ≤ fr := by omega
      have hin : v ∈ heldEnd k s := heldEnd_has k s (fun h => hb h hv) hv
      have hst : v ∈ (heldStep k fr to s e).out := by
        unfold heldStep
        rw [if_neg hf]
        split
        · exact tell_mono _ _ _ hin
        · exact hin
      exact heldEnd_out k _ (foldl_mono k fr to l _ hst)

theorem held_has (k : ByteArray) (fr at' to : Int) (h1 : fr ≤ at') (h2 : at' ≤ to) (v : ByteArray) (l : List Ev) (hp : l.Pairwise (fun a b => a.step ≤ b.step)) (hv : (foldM (upTo at' l)).get k = some v) :
    v ∈ heldL k fr to l := by
  rw [heldEnd_eq]
  exact held_from k fr at' to h1 h2 v l ⟨[], [], false⟩ hp (fun h => nomatch h) hv (fun h => nomatch h)

/-! what it never had -/
def NoVal (never : ByteArray) (m : SMap) : Prop := ∀ x ∈ m, ¬ x.2 = never
theorem noVal_step {never : ByteArray} {m : SMap} (h : NoVal never m) {e : Ev} (he : ¬ e.value = never) : NoVal never (evStep m e) := by
  unfold evStep
  split
  · split
    · intro x hx
      cases hg : m.get e.key with
      | none =>
        rw [put_new hg] at hx
        rcases List.mem_append.1 hx with hx | hx
        · exact h x hx
        · simp at hx; subst hx; exact he
      | some u =>
        rw [put_old hg] at hx
        obtain ⟨y, hy, rfl⟩ := List.mem_map.1 hx
        split
        · exact he
        · exact h y hy
    · split
      · intro x hx
        exact h x (List.mem_filter.1 hx).1
      · exact h
  · exact h
def OutOk (never : ByteArray) (out : List ByteArray) : Prop := (¬ never ∈ out) ∧ ∀ i a b, out[i]? = some a → out[i + 1]? = some b → ¬ a = b
theorem tell_ok {never : ByteArray} {m : SMap} {k : ByteArray} {out : List ByteArray} (hm : NoVal never m) (h : OutOk never out) : OutOk never (tellL m k out) := by
  unfold tellL
  split
  · exact h
  · rename_i v hg
    split
    · exact h
    · rename_i hl
      refine ⟨fun hn => ?_, fun i a b ha hb => ?_⟩
      · rcases List.mem_append.1 hn with hn | hn
        · exact h.1 hn
        · simp at hn
          exact hm _ (get_mem hg) hn.symm
      · by_cases hi : i + 1 < out.length
        · rw [List.getElem?_append_left (by omega)] at ha
          rw [List.getElem?_append_left hi] at hb
          exact h.2 i a b ha hb
        · have hlen := (List.getElem?_eq_some_iff.1 hb).1
          simp at hlen
          have hi2 : i + 1 = out.length := by omega
          rw [List.getElem?_append_left (by omega)] at ha
          rw [hi2, List.getElem?_append_right (Nat.le_refl _)] at hb
          simp at hb
          subst hb
          intro e
          subst e
          apply hl
          rw [List.getLast?_eq_getElem?, show out.length - 1 = i from by omega]
          exact ha
theorem heldStep_ok {never : ByteArray} (k : ByteArray) (fr to : Int) {s : HState} {e : Ev} (hm : NoVal never s.m) (ho : OutOk never s.out) (he : ¬ e.value = never) :
    NoVal never (heldStep k fr to s e).m ∧ OutOk never (heldStep k fr to s e).out := by
  have h1 : OutOk never (heldEnd k s) := by
    unfold heldEnd
    split
    · exact ho
    · exact tell_ok hm ho
  unfold heldStep
  split
  · exact ⟨noVal_step hm he, ho⟩
  · split
    · exact ⟨noVal_step hm he, tell_ok (noVal_step hm he) h1⟩
    · exact ⟨hm, h1⟩
theorem held_ok (never k : ByteArray) (fr to : Int) (l : List Ev) (h : ∀ e ∈ l, ¬ e.value = never) : OutOk never (heldL k fr to l) := by
  have : ∀ (l : List Ev) (s : HState), (∀ e ∈ l, ¬ e.value = never) → NoVal never s.m → OutOk never s.out →
      NoVal never (l.foldl (heldStep k fr to) s).m ∧ OutOk never (l.foldl (heldStep k fr to) s).out := by
    intro l
    induction l with
    | nil => intro s _ h1 h2; exact ⟨h1, h2⟩
    | cons e l ih =>
      intro s h h1 h2
      have := heldStep_ok k fr to h1 h2 (h e List.mem_cons_self)
      exact ih _ (fun x hx => h x (List.mem_cons_of_mem _ hx)) this.1 this.2
  have h2 := this l ⟨[], [], false⟩ h (fun x hx => by cases hx) ⟨by simp, fun i a b ha => by simp at ha⟩
  rw [heldEnd_eq]
  unfold heldEnd
  split
  · exact h2.2
  · exact tell_ok h2.1 h2.2

/-- events in order: those up to a step lie ahead of the others -/
theorem upTo_take (step : Int) : ∀ (l : List Ev) (n : Nat), n ≤ l.length → (∀ i e, i < n → l[i]? = some e → e.step ≤ step) → (∀ i e, n ≤ i → l[i]? = some e → ¬ e.step ≤ step) → upTo step l = l.take n := by
  intro l
  induction l with
  | nil => intro n _ _ _; simp [upTo]
  | cons e l ih =>
    intro n hn h1 h2
    cases n with
    | zero =>
      unfold upTo
      rw [List.take_zero, List.filter_eq_nil_iff]
      intro x hx
      obtain ⟨i, hi⟩ := List.mem_iff_getElem?.1 hx
      simpa using h2 i x (Nat.zero_le _) hi
    | succ n =>
      have he := h1 0 e (by omega) rfl
      have := ih n (by simpa using hn) (fun i x hi hx => h1 (i + 1) x (by omega) (by simpa using hx)) (fun i x hi hx => h2 (i + 1) x (by omega) (by simpa using hx))
      unfold upTo at this ⊢
      rw [List.filter_cons_of_pos (by simpa using he), this, List.take_succ_cons]
end Go.Proofs.Ytcpbcggfbopobaa
