/- TruthSound, plain laws: a history that was made of asks is sound; with one answer turned it is not, from there on. -/
import Derived.Test.YtcpbcggfbopobaaTruthSwap
import Derived.Test.YtcpbcggfbopobaaTruthI
namespace Go.Proofs.Ytcpbcggfbopobaa
open Go.RowKit Go.Proofs

/-- an ask as it lies in memory -/
structure Ak where
  op : Int
  key : ByteArray
  value : ByteArray
  to : ByteArray
  most : Int
abbrev Ak.cells (x : Ak) : List Value := [.int .i64 x.op, .string x.key, .string x.value, .string x.to, .int .i64 x.most]
abbrev AsksAt : World → Value → List Ak → Prop := SlAt 5 Ak.cells

def mkEv (i : Nat) (x : Ak) (errno : Int) (tv : ByteArray) : Ev := ⟨i, 0, 0, 0, x.op, x.key, x.value, x.to, x.most, errno, tv, none, 0, 0, false, ⟨#[]⟩, 0⟩

/-- what was made so far: sound, plain -/
structure Made (had : SMap) (acc : List Ev) : Prop where
  eq : MEq had (foldM acc)
  sound : soundN [] acc = acc.length
  plain : ∀ e ∈ acc, (e.op = 1 ∨ e.op = 2 ∨ e.op = 3) ∧ (e.errno = 0 ∨ e.errno = 6)
  vals : ∀ x ∈ had, x.2.size ≤ 40
  tv : ∀ e ∈ acc, e.tvalue.size ≤ 40

theorem soundE_eq {m n : SMap} (h : MEq m n) (e : Ev) : soundE m e = soundE n e := by unfold soundE; rw [h e.key]

theorem soundN_append (l : List Ev) (e : Ev) : ∀ m : SMap, soundN m l = l.length → soundE (l.foldl evStep m) e = true → soundN m (l ++ [e]) = l.length + 1 := by
  induction l with
  | nil => intro m _ h; simp [soundN, show soundE m e = true from h]
  | cons x l ih =>
    intro m h1 h2
    simp only [soundN, List.length_cons, List.cons_append] at h1 ⊢
    by_cases hx : soundE m x = true
    · rw [if_pos hx] at h1 ⊢
      rw [ih _ (by omega) h2]
    · rw [if_neg hx] at h1; omega

/-- the step of the making -/
theorem Made.add {had had' : SMap} {acc : List Ev} {e : Ev} (h : Made had acc) (hs : soundE had e = true) (hop : e.op = 1 ∨ e.op = 2 ∨ e.op = 3) (her : e.errno = 0 ∨ e.errno = 6) (hm : MEq had' (evStep had e)) (hv : ∀ x ∈ had', x.2.size ≤ 40) (ht : e.tvalue.size ≤ 40) : Made had' (acc ++ [e]) := by
  refine ⟨?_, ?_, fun x hx => ?_, hv, fun x hx => by rcases List.mem_append.1 hx with hx | hx; exact h.tv x hx; simp at hx; subst hx; exact ht⟩
  · have : foldM (acc ++ [e]) = evStep (foldM acc) e := by simp [foldM]
    rw [this]
    exact fun k => (hm k).trans (mEq_step h.eq e k)
  · rw [soundN_append acc e [] h.sound ((soundE_eq h.eq e).symm.trans hs)]; simp
  · rcases List.mem_append.1 hx with hx | hx
    · exact h.plain x hx
    · simp at hx; subst hx; exact ⟨hop, her⟩

theorem made_get {had : SMap} {acc : List Ev} (h : Made had acc) (i : Nat) (x : Ak) (hop : x.op = 1) :
    Made had (acc ++ [mkEv i x (if (had.get x.key).isSome then 0 else 6) ((had.get x.key).getD ⟨#[]⟩)]) := by
  refine h.add ?_ (.inl hop) ?_ ?_ h.vals ?_
  · cases hg : had.get x.key <;> simp [soundE, soundV, nothB, mkEv, hop, hg]
  · cases had.get x.key <;> simp [mkEv]
  · intro k
    unfold evStep
    split
    · simp [mkEv, hop]
    · rfl
  · cases hg : had.get x.key with
    | none => exact Nat.zero_le _
    | some v => exact h.vals _ (get_mem hg)
theorem put_vals {m : SMap} (h : ∀ x ∈ m, x.2.size ≤ 40) (k v : ByteArray) (hv : v.size ≤ 40) : ∀ x ∈ m.put k v, x.2.size ≤ 40 := by
  intro x hx
  cases hg : m.get k with
  | none =>
    rw [put_new hg] at hx
    rcases List.mem_append.1 hx with hx | hx
    · exact h x hx
    · simp at hx; subst hx; exact hv
  | some u =>
    rw [put_old hg] at hx
    obtain ⟨y, hy, rfl⟩ := List.mem_map.1 hx
    split
    · exact hv
    · exact h y hy
theorem made_put {had : SMap} {acc : List Ev} (h : Made had acc) (i : Nat) (x : Ak) (hop : x.op = 2) (hv : x.value.size ≤ 40) : Made (had.put x.key x.value) (acc ++ [mkEv i x 0 ⟨#[]⟩]) := by
  refine h.add ?_ (.inr (.inl hop)) (.inl rfl) ?_ (put_vals h.vals _ _ hv) (Nat.zero_le _)
  · simp [soundE, soundV, nothB, mkEv, hop]
  · intro k; simp [evStep, mkEv, hop]
theorem made_del {had : SMap} {acc : List Ev} (h : Made had acc) (i : Nat) (x : Ak) (hop : x.op = 3) : Made (had.del x.key) (acc ++ [mkEv i x (if (had.get x.key).isSome then 0 else 6) ⟨#[]⟩]) := by
  refine h.add ?_ (.inr (.inr hop)) ?_ ?_ (fun y hy => h.vals y (List.mem_filter.1 hy).1) (Nat.zero_le _)
  · cases hg : had.get x.key <;> simp [soundE, soundV, nothB, mkEv, hop, hg]
  · cases had.get x.key <;> simp [mkEv]
  · intro k
    cases hg : had.get x.key with
    | none =>
      have : evStep had (mkEv i x 6 ⟨#[]⟩) = had := by simp [evStep, mkEv]
      simp only [Option.isSome_none]
      rw [show (if false = true then (0 : Int) else 6) = 6 from rfl, this, get_del]
      by_cases hk : x.key = k
      · subst hk; rw [if_pos rfl, hg]
      · rw [if_neg hk]
    | some v => simp [evStep, mkEv, hop]

theorem soundN_step {l : List Ev} : ∀ {m : SMap}, soundN m l = l.length → ∀ (k : Nat) (e : Ev), l[k]? = some e → soundE ((l.take k).foldl evStep m) e = true := by
  induction l with
  | nil => intro m _ k e h; simp at h
  | cons x l ih =>
    intro m h k e he
    simp only [soundN, List.length_cons] at h
    by_cases hx : soundE m x = true
    · rw [if_pos hx] at h
      cases k with
      | zero => simp at he; subst he; exact hx
      | succ k => exact ih (by omega) k e (by simpa using he)
    · rw [if_neg hx] at h; omega

theorem soundN_set {l : List Ev} : ∀ {m : SMap}, soundN m l = l.length → ∀ (k : Nat) (e : Ev), k < l.length → soundE ((l.take k).foldl evStep m) e = false → soundN m (l.set k e) = k := by
  induction l with
  | nil => intro m _ k e h; simp at h
  | cons x l ih =>
    intro m h k e hk he
    simp only [soundN, List.length_cons] at h hk
    by_cases hx : soundE m x = true
    · rw [if_pos hx] at h
      cases k with
      | zero => simp only [List.set_cons_zero, soundN]; rw [if_neg (by simpa using he)]
      | succ k =>
        simp only [List.set_cons_succ, soundN]
        rw [if_pos hx, ih (by omega) k e (by omega) (by simpa using he)]
    · rw [if_neg hx] at h; omega

/-- one answer turned -/
def turnE (e : Ev) : Ev :=
  if e.op = 2 then { e with errno := 6 } else if e.errno = 6 then { e with errno := 0 } else if e.op = 1 then { e with tvalue := e.tvalue ++ ⟨#[120]⟩ } else { e with errno := 6 }

theorem turn_unsound {m : SMap} {e : Ev} (h : soundE m e = true) (hop : e.op = 1 ∨ e.op = 2 ∨ e.op = 3) (her : e.errno = 0 ∨ e.errno = 6) : soundE m (turnE e) = false := by
  by_cases h1 : e.op = 1 ∧ e.errno = 0
  · obtain ⟨ho, hr⟩ := h1
    have ht : turnE e = { e with tvalue := e.tvalue ++ ⟨#[120]⟩ } := by unfold turnE; rw [if_neg (by omega), if_neg (by omega), if_pos ho]
    rw [ht]
    unfold soundE soundV at *
    simp only [ho, hr, nothB] at h ⊢
    simp at h ⊢
    intro _ hh
    rw [h.2] at hh
    have := congrArg List.length hh
    rw [Lib.toList_data, Lib.toList_data] at this
    simp at this
  · unfold turnE
    unfold soundE at *
    rcases hop with ho | ho | ho <;> rcases her with hr | hr <;> simp_all [soundV, nothB]

theorem turn_op (e : Ev) : (turnE e).op = e.op := by
  unfold turnE
  split
  · rfl
  · split
    · rfl
    · split <;> rfl

theorem Made.turned {had : SMap} {acc : List Ev} (h : Made had acc) {k : Nat} {e : Ev} (he : acc[k]? = some e) : soundN [] (acc.set k (turnE e)) = k := by
  have hp := h.plain e (List.mem_of_getElem? he)
  exact soundN_set h.sound k _ (List.getElem?_eq_some_iff.1 he).1 (turn_unsound (soundN_step h.sound k e he) hp.1 hp.2)
theorem Made.no4 {had : SMap} {acc : List Ev} (h : Made had acc) : ∀ e ∈ acc, ¬ e.op = 4 := fun e he h4 => by
  rcases (h.plain e he).1 with h | h | h <;> omega
theorem Made.no4' {had : SMap} {acc : List Ev} (h : Made had acc) {k : Nat} {e : Ev} (he : acc[k]? = some e) : ∀ x ∈ acc.set k (turnE e), ¬ x.op = 4 := fun x hx => by
  rcases List.mem_or_eq_of_mem_set hx with hx | rfl
  · exact h.no4 x hx
  · rw [turn_op]; exact h.no4 e (List.mem_of_getElem? he)
end Go.Proofs.Ytcpbcggfbopobaa
