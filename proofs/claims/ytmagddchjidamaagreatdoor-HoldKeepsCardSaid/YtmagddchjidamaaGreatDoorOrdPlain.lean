/- The order of texts, byte by byte; rising rows of items; what a look-up, a store, a taking away do to them: plain Lean. -/
import Derived.Test.YtmagddchjidamaaGreatDoorHoldRows
namespace Go.Proofs.YtmagddchjidamaaGreatDoor
set_option linter.unusedSimpArgs false
set_option linter.unusedVariables false

/-- is a row of bytes ahead of another one? -/
def lessB : List UInt8 → List UInt8 → Bool
  | [], [] => false
  | [], _ :: _ => true
  | _ :: _, [] => false
  | a :: al, b :: bs => if a < b then true else if b < a then false else lessB al bs

theorem lessB_irrefl : (l : List UInt8) → lessB l l = false
  | [] => rfl
  | a :: l => by unfold lessB; rw [if_neg (UInt8.lt_irrefl a), if_neg (UInt8.lt_irrefl a)]; exact lessB_irrefl l

theorem lessB_trans : {a b c : List UInt8} → lessB a b = true → lessB b c = true → lessB a c = true
  | [], [], _, h, _ => by simp [lessB] at h
  | [], _ :: _, [], _, h => by simp [lessB] at h
  | [], _ :: _, _ :: _, _, _ => rfl
  | _ :: _, [], _, h, _ => by simp [lessB] at h
  | _ :: _, _ :: _, [], _, h => by simp [lessB] at h
  | a :: al, b :: bs, c :: cs, h, k => by
    unfold lessB at h k ⊢
    by_cases h1 : a < b
    · by_cases h2 : b < c
      · rw [if_pos (UInt8.lt_trans h1 h2)]
      · rw [if_neg h2] at k
        by_cases h3 : c < b
        · rw [if_pos h3] at k; cases k
        · have : b = c := UInt8.le_antisymm (UInt8.not_lt.1 h3) (UInt8.not_lt.1 h2)
          rw [if_pos (this ▸ h1)]
    · rw [if_neg h1] at h
      by_cases h2 : b < a
      · rw [if_pos h2] at h; cases h
      · rw [if_neg h2] at h
        obtain rfl : a = b := UInt8.le_antisymm (UInt8.not_lt.1 h2) (UInt8.not_lt.1 h1)
        by_cases h3 : a < c
        · rw [if_pos h3]
        · rw [if_neg h3] at k ⊢
          by_cases h4 : c < a
          · rw [if_pos h4] at k; cases k
          · rw [if_neg h4] at k ⊢
            exact lessB_trans h k

theorem lessB_total : (a b : List UInt8) → lessB a b = true ∨ a = b ∨ lessB b a = true
  | [], [] => .inr (.inl rfl)
  | [], _ :: _ => .inl rfl
  | _ :: _, [] => .inr (.inr rfl)
  | a :: al, b :: bs => by
    by_cases h1 : a < b
    · left; unfold lessB; rw [if_pos h1]
    · by_cases h2 : b < a
      · right; right; unfold lessB; rw [if_pos h2]
      · obtain rfl : a = b := UInt8.le_antisymm (UInt8.not_lt.1 h2) (UInt8.not_lt.1 h1)
        unfold lessB
        simp only [h1, if_false]
        rcases lessB_total al bs with h | h | h
        · exact .inl h
        · exact .inr (.inl (by rw [h]))
        · exact .inr (.inr h)

/-- is a text ahead of another one? -/
def keyLt (a b : ByteArray) : Bool := lessB a.data.toList b.data.toList

theorem keyLt_irrefl (a : ByteArray) : keyLt a a = false := lessB_irrefl _
theorem keyLt_trans {a b c : ByteArray} (h : keyLt a b = true) (k : keyLt b c = true) : keyLt a c = true := lessB_trans h k
theorem keyLt_total (a b : ByteArray) : keyLt a b = true ∨ a = b ∨ keyLt b a = true := by
  rcases lessB_total a.data.toList b.data.toList with h | h | h
  · exact .inl h
  · refine .inr (.inl ?_)
    cases a; cases b
    simp only [ByteArray.mk.injEq] at h ⊢
    exact Array.ext' h
  · exact .inr (.inr h)
theorem keyLt_ne {a b : ByteArray} (h : keyLt a b = true) : a ≠ b := fun e => by rw [e, keyLt_irrefl] at h; cases h
theorem keyLt_asymm {a b : ByteArray} (h : keyLt a b = true) : keyLt b a = false := by
  cases hb : keyLt b a with
  | false => rfl
  | true => have := keyLt_trans h hb; rw [keyLt_irrefl] at this; cases this

/-! ### Rising rows -/
def Rising (l : List Itm) : Prop := l.Pairwise (fun x y => keyLt x.1 y.1 = true)

/-- all ahead of a key; all behind it -/
def AllLt (l : List Itm) (k : ByteArray) : Prop := ∀ x ∈ l, keyLt x.1 k = true
def AllGt (l : List Itm) (k : ByteArray) : Prop := ∀ x ∈ l, keyLt k x.1 = true

/-- an item put in between -/
def insS (x : Itm) (l : List Itm) : List Itm := l.filter (fun y => keyLt y.1 x.1) ++ x :: l.filter (fun y => keyLt x.1 y.1)
/-- a value put under a key that is there -/
def setS (k v : ByteArray) (l : List Itm) : List Itm := l.map (fun y => if y.1 = k then (k, v) else y)
abbrev getS (k : ByteArray) (l : List Itm) : Option ByteArray := SMap.get l k
abbrev delS (k : ByteArray) (l : List Itm) : List Itm := SMap.del l k

theorem Rising.nil : Rising [] := List.Pairwise.nil
theorem rising_append {a b : List Itm} : Rising (a ++ b) ↔ Rising a ∧ Rising b ∧ ∀ x ∈ a, ∀ y ∈ b, keyLt x.1 y.1 = true := List.pairwise_append
theorem rising_cons {x : Itm} {b : List Itm} : Rising (x :: b) ↔ AllGt b x.1 ∧ Rising b := List.pairwise_cons

theorem filter_none' {α : Type} {p : α → Bool} {l : List α} (h : ∀ x ∈ l, p x = false) : l.filter p = [] := by
  rw [List.filter_eq_nil_iff]
  intro x hx
  simp [h x hx]
theorem filter_all' {α : Type} {p : α → Bool} {l : List α} (h : ∀ x ∈ l, p x = true) : l.filter p = l := by
  rw [List.filter_eq_self]
  exact h

theorem insS_mid {x : Itm} {A C B : List Itm} (hA : AllLt A x.1) (hB : AllGt B x.1) : insS x (A ++ C ++ B) = A ++ insS x C ++ B := by
  unfold insS
  have e1 : A.filter (fun y => keyLt y.1 x.1) = A := filter_all' hA
  have e2 : A.filter (fun y => keyLt x.1 y.1) = [] := filter_none' fun y hy => keyLt_asymm (hA y hy)
  have e3 : B.filter (fun y => keyLt y.1 x.1) = [] := filter_none' fun y hy => keyLt_asymm (hB y hy)
  have e4 : B.filter (fun y => keyLt x.1 y.1) = B := filter_all' hB
  simp only [List.filter_append, e1, e2, e3, e4, List.append_nil, List.nil_append, List.append_assoc, List.cons_append]
theorem insS_nil (x : Itm) : insS x [] = [x] := rfl

theorem setS_append (k v : ByteArray) (A B : List Itm) : setS k v (A ++ B) = setS k v A ++ setS k v B := List.map_append
theorem setS_none {k v : ByteArray} {A : List Itm} (h : ∀ x ∈ A, x.1 ≠ k) : setS k v A = A := by
  unfold setS
  have : ∀ x ∈ A, (fun y : Itm => if y.1 = k then (k, v) else y) x = id x := fun x hx => by simp [h x hx]
  rw [List.map_congr_left this, List.map_id]
theorem AllLt.ne {l : List Itm} {k : ByteArray} (h : AllLt l k) : ∀ x ∈ l, x.1 ≠ k := fun x hx => keyLt_ne (h x hx)
theorem AllGt.ne {l : List Itm} {k : ByteArray} (h : AllGt l k) : ∀ x ∈ l, x.1 ≠ k := fun x hx e => keyLt_ne (h x hx) e.symm

theorem getS_none {k : ByteArray} {A : List Itm} (h : ∀ x ∈ A, x.1 ≠ k) : getS k A = none := by
  unfold getS SMap.get
  rw [Option.map_eq_none_iff, List.find?_eq_none]
  intro x hx
  simp [h x hx]
theorem getS_append_left {k : ByteArray} {A B : List Itm} (h : ∀ x ∈ A, x.1 ≠ k) : getS k (A ++ B) = getS k B := by
  unfold getS SMap.get
  rw [List.find?_append, List.find?_eq_none.2 (by intro x hx; simp [h x hx])]
  rfl
theorem getS_append_right {k : ByteArray} {A B : List Itm} (h : ∀ x ∈ B, x.1 ≠ k) : getS k (A ++ B) = getS k A := by
  unfold getS SMap.get
  have hB : B.find? (fun x => decide (x.1 = k)) = none := List.find?_eq_none.2 (by intro x hx; simp [h x hx])
  rw [List.find?_append, hB, Option.or_none]
theorem getS_mid {k : ByteArray} {A C B : List Itm} (hA : AllLt A k) (hB : AllGt B k) : getS k (A ++ C ++ B) = getS k C := by
  rw [getS_append_right hB.ne, getS_append_left hA.ne]
theorem getS_self {k v : ByteArray} {B : List Itm} : getS k ((k, v) :: B) = some v := by simp [getS, SMap.get]

theorem delS_append (k : ByteArray) (A B : List Itm) : delS k (A ++ B) = delS k A ++ delS k B := by
  unfold delS SMap.del; exact List.filter_append ..
theorem delS_none {k : ByteArray} {A : List Itm} (h : ∀ x ∈ A, x.1 ≠ k) : delS k A = A := by
  unfold delS SMap.del
  exact filter_all' fun x hx => by simp [h x hx]
theorem delS_self {k v : ByteArray} {B : List Itm} (h : AllGt B k) : delS k ((k, v) :: B) = B := by
  have := delS_none h.ne
  unfold delS SMap.del at this ⊢
  simp [this]
theorem delS_mid {k : ByteArray} {A C B : List Itm} (hA : AllLt A k) (hB : AllGt B k) : delS k (A ++ C ++ B) = A ++ delS k C ++ B := by
  rw [delS_append, delS_append, delS_none hA.ne, delS_none hB.ne]

theorem mem_insS {x y : Itm} {l : List Itm} (h : y ∈ insS x l) : y = x ∨ y ∈ l := by
  unfold insS at h
  rcases List.mem_append.1 h with h | h
  · exact .inr (List.mem_filter.1 h).1
  · rcases List.mem_cons.1 h with h | h
    · exact .inl h
    · exact .inr (List.mem_filter.1 h).1

theorem rising_insS {x : Itm} {l : List Itm} (h : Rising l) : Rising (insS x l) := by
  unfold insS
  rw [rising_append, rising_cons]
  have h1 : ∀ y ∈ l.filter (fun y => keyLt x.1 y.1), keyLt x.1 y.1 = true := fun y hy => by simpa using (List.mem_filter.1 hy).2
  refine ⟨List.Pairwise.filter _ h, ⟨h1, List.Pairwise.filter _ h⟩, fun y hy z hz => ?_⟩
  have hy2 : keyLt y.1 x.1 = true := by simpa using (List.mem_filter.1 hy).2
  rcases List.mem_cons.1 hz with rfl | hz
  · exact hy2
  · exact keyLt_trans hy2 (h1 z hz)
theorem setS_fst (k v : ByteArray) (l : List Itm) : (setS k v l).map (·.1) = l.map (·.1) := by
  unfold setS
  rw [List.map_map]
  apply List.map_congr_left
  intro x _
  by_cases hx : x.1 = k <;> simp [hx]
theorem rising_keys {l : List Itm} : Rising l ↔ (l.map (·.1)).Pairwise (fun a b => keyLt a b = true) := by
  unfold Rising; rw [List.pairwise_map]
theorem rising_setS {k v : ByteArray} {l : List Itm} (h : Rising l) : Rising (setS k v l) := by
  rw [rising_keys, setS_fst, ← rising_keys]; exact h
theorem rising_delS {k : ByteArray} {l : List Itm} (h : Rising l) : Rising (delS k l) := List.Pairwise.filter _ h

theorem insS_length {x : Itm} {l : List Itm} (h : Rising l) (hn : getS x.1 l = none) : (insS x l).length = l.length + 1 := by
  have hne := get_none_any hn
  unfold insS
  rw [List.length_append, List.length_cons]
  have : ∀ l : List Itm, (∀ y ∈ l, y.1 ≠ x.1) → (l.filter (fun y => keyLt y.1 x.1)).length + (l.filter (fun y => keyLt x.1 y.1)).length = l.length := by
    intro l
    induction l with
    | nil => intro _; rfl
    | cons y l ih =>
      intro h
      have ih := ih (fun z hz => h z (List.mem_cons_of_mem _ hz))
      rcases keyLt_total y.1 x.1 with h1 | h1 | h1
      · rw [List.filter_cons_of_pos (by simpa using h1), List.filter_cons_of_neg (by simp [keyLt_asymm h1])]
        simp; omega
      · exact absurd h1 (h y List.mem_cons_self)
      · rw [List.filter_cons_of_neg (by simp [keyLt_asymm h1]), List.filter_cons_of_pos (by simpa using h1)]
        simp; omega
  have := this l hne
  omega
theorem setS_length (k v : ByteArray) (l : List Itm) : (setS k v l).length = l.length := List.length_map _

theorem getS_insS_self {x : Itm} {l : List Itm} : getS x.1 (insS x l) = some x.2 := by
  unfold insS
  rw [getS_append_left]
  · exact getS_self
  · intro y hy
    have : keyLt y.1 x.1 = true := by simpa using (List.mem_filter.1 hy).2
    exact keyLt_ne this

theorem delS_length {k v : ByteArray} {l : List Itm} (h : Rising l) (hg : getS k l = some v) : (delS k l).length + 1 = l.length := by
  induction l with
  | nil => simp [getS, SMap.get] at hg
  | cons y l ih =>
    rw [rising_cons] at h
    by_cases hy : y.1 = k
    · obtain ⟨a, b⟩ := y
      simp only at hy
      subst hy
      rw [delS_self h.1]
      rfl
    · have hg' : getS k l = some v := by
        unfold getS SMap.get at hg ⊢
        rw [List.find?_cons_of_neg (by simpa using hy)] at hg
        exact hg
      have := ih h.2 hg'
      unfold delS SMap.del at this ⊢
      rw [List.filter_cons_of_pos (by simpa using hy)]
      simp only [List.length_cons]
      omega
end Go.Proofs.YtmagddchjidamaaGreatDoor
