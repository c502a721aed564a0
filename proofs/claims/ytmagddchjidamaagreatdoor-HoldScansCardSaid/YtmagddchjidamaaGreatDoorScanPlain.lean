/- Scans one behind the other, in plain Lean. -/
import Derived.Test.YtmagddchjidamaaGreatDoorScanDef
namespace Go.Proofs.YtmagddchjidamaaGreatDoor
set_option linter.unusedSimpArgs false
set_option linter.unusedVariables false

/-! ### Where what may be looked at ends -/
theorem endP_end {st : HSt} (hown : ∀ o ∈ st.own, Pt64 o.t) : (f : Nat) → (p : Int) → Pt64 p → endFuel p ≤ f → endP st f p = 0 ∨ (st.at (endP st f p) = none ∧ p ≤ endP st f p)
  | 0, p, hp, hf => by unfold endFuel at hf; obtain ⟨h1, h2⟩ := hp; omega
  | f + 1, p, hp, hf => by
    unfold endP
    cases hat : st.at p with
    | none => exact .inr ⟨hat, Int.le_refl _⟩
    | some o =>
      dsimp only
      split
      · exact .inl rfl
      · rename_i h0
        obtain ⟨h1, h2, h3⟩ := at_in hat
        have h4 : p < o.t := h3.resolve_left h0
        have hfu : endFuel o.t ≤ f := by unfold endFuel at hf ⊢; obtain ⟨h5, h6⟩ := hp; omega
        rcases endP_end hown f o.t (hown o h1) hfu with h | ⟨h, h'⟩
        · exact .inl h
        · exact .inr ⟨h, by omega⟩

theorem endA_open {st : HSt} (hs : st.shut = false) (x : Int) : endA st x = endP st (endFuel x) x := by
  unfold endA
  dsimp only
  rw [if_neg (by rw [hs]; simp)]
theorem endA_none {st : HSt} (hown : ∀ o ∈ st.own, Pt64 o.t) (hs : st.shut = false) {x : Int} (hx : Pt64 x) : endA st x = 0 ∨ st.at (endA st x) = none := by
  rw [endA_open hs]
  rcases endP_end hown _ x hx (Nat.le_refl _) with h | h
  · exact .inl h
  · exact .inr h.1
theorem endA_gt {st : HSt} (hown : ∀ o ∈ st.own, Pt64 o.t) (hs : st.shut = false) {x : Int} (hx : Pt64 x) (hat : (st.at x).isSome = true) : endA st x = 0 ∨ x < endA st x := by
  rcases endA_none hown hs hx with h | h
  · exact .inl h
  · rw [endA_open hs] at h ⊢
    rcases endP_end hown _ x hx (Nat.le_refl _) with h2 | h2
    · exact .inl h2
    · refine .inr ?_
      have : x ≠ endP st (endFuel x) x := fun e => by rw [← e] at h; rw [h] at hat; cases hat
      omega

/-! ### Rows that rise -/
theorem filter_two {xs : List Itm} (hr : Rising xs) {P Q : Itm → Bool} (h : ∀ x y : Itm, P x = true → Q y = true → keyLt x.1 y.1 = true) : xs.filter P ++ xs.filter Q = xs.filter (fun x => P x || Q x) := by
  induction xs with
  | nil => rfl
  | cons x xs ih =>
    obtain ⟨h1, h2⟩ := rising_cons.1 hr
    have ih := ih h2
    cases hp : P x with
    | true =>
      have hq : Q x = false := by
        cases hq : Q x with
        | false => rfl
        | true => have := h x x hp hq; rw [keyLt_irrefl] at this; cases this
      rw [List.filter_cons_of_pos (by simp [hp]), List.filter_cons_of_neg (by simp [hq]), List.filter_cons_of_pos (by simp [hp]), ← ih, List.cons_append]
    | false =>
      cases hq : Q x with
      | false => rw [List.filter_cons_of_neg (by simp [hp]), List.filter_cons_of_neg (by simp [hq]), List.filter_cons_of_neg (by simp [hp, hq]), ih]
      | true =>
        have hn : xs.filter P = [] := filter_none' (fun y hy => by
          cases hpy : P y with
          | false => rfl
          | true =>
            have e1 := h y x hpy hq
            have e2 : keyLt x.1 y.1 = true := h1 y hy
            rw [keyLt_asymm e1] at e2; cases e2)
        rw [List.filter_cons_of_neg (by simp [hp]), List.filter_cons_of_pos (by simp [hq]), List.filter_cons_of_pos (by simp [hq]), ← ih, hn]
        rfl

theorem takeWhile_rising {xs : List Itm} (hr : Rising xs) {q : Itm → Bool} (h : ∀ x y : Itm, keyLt x.1 y.1 = true → q y = true → q x = true) : xs.takeWhile q = xs.filter q := by
  induction xs with
  | nil => rfl
  | cons x xs ih =>
    obtain ⟨h1, h2⟩ := rising_cons.1 hr
    cases hq : q x with
    | true => rw [List.takeWhile_cons_of_pos hq, List.filter_cons_of_pos hq, ih h2]
    | false =>
      rw [List.takeWhile_cons_of_neg (by simp [hq]), List.filter_cons_of_neg (by simp [hq])]
      exact (filter_none' (fun y hy => by
        cases hy2 : q y with
        | false => rfl
        | true => rw [h x y (h1 y hy) hy2] at hq; cases hq)).symm

theorem toB_mono {b x y : ByteArray} (h : keyLt x y = true) (hy : toB b y = true) : toB b x = true := by
  unfold toB at hy ⊢
  simp only [Bool.or_eq_true, decide_eq_true_eq] at hy ⊢
  exact hy.imp id (fun k => keyLt_trans h k)
theorem aheadP_mono {e : Int} {x y : Itm} (h : keyLt x.1 y.1 = true) (hy : aheadP e y = true) : aheadP e x = true := by
  unfold aheadP at hy ⊢
  have := addr_mono h
  simp only [decide_eq_true_eq] at hy ⊢
  omega

theorem rising_filter {xs : List Itm} (hr : Rising xs) (P : Itm → Bool) : Rising (xs.filter P) := List.Pairwise.filter _ hr

theorem range_filter {a b : ByteArray} {xs : List Itm} (hr : Rising xs) : rangeIts a b xs = xs.filter (fun x => !keyLt x.1 a && toB b x.1) := by
  unfold rangeIts fromF
  rw [takeWhile_rising (rising_filter hr _) (fun x y h hy => toB_mono h hy), List.filter_filter]
  congr 1
  funext x
  rw [Bool.and_comm]

theorem ahead_filter {e : Int} {a b : ByteArray} {xs : List Itm} (hr : Rising xs) : (rangeIts a b xs).takeWhile (aheadP e) = xs.filter (fun x => !keyLt x.1 a && toB b x.1 && aheadP e x) := by
  rw [range_filter hr, takeWhile_rising (rising_filter hr _) (fun x y h hy => aheadP_mono h hy), List.filter_filter]
  congr 1
  funext x
  rw [Bool.and_comm]

theorem keyLt_le_trans {a b c : ByteArray} (h : keyLt b a = false) (k : keyLt b c = true) : keyLt a c = true := by
  rcases keyLt_total a b with h1 | h1 | h1
  · exact keyLt_trans h1 k
  · rw [h1]; exact k
  · rw [h1] at h; cases h
theorem keyLt_trans_le {a b c : ByteArray} (h : keyLt a b = true) (k : keyLt c b = false) : keyLt a c = true := by
  rcases keyLt_total b c with h1 | h1 | h1
  · exact keyLt_trans h h1
  · rw [← h1]; exact h
  · rw [h1] at k; cases k

theorem take_lt {L : List Itm} (hr : Rising L) {n : Nat} {x : Itm} (h : L[n]? = some x) : L.take n = L.filter (fun y => keyLt y.1 x.1) := by
  have hn : n < L.length := (List.getElem?_eq_some_iff.1 h).1
  have hs : L.take n ++ x :: L.drop (n + 1) = L := by
    rw [← (List.getElem?_eq_some_iff.1 h).2, ← List.drop_eq_getElem_cons hn, List.take_append_drop]
  have hr2 := hr
  rw [← hs] at hr2
  obtain ⟨_, h3, h4⟩ := rising_append.1 hr2
  obtain ⟨h5, _⟩ := rising_cons.1 h3
  have h6 : (L.take n ++ x :: L.drop (n + 1)).filter (fun y => keyLt y.1 x.1) = L.take n := by
    rw [List.filter_append, filter_all' (fun y hy => h4 y hy x List.mem_cons_self), filter_none' (fun y hy => ?_), List.append_nil]
    rcases List.mem_cons.1 hy with rfl | hy
    · exact keyLt_irrefl _
    · exact keyLt_asymm (h5 y hy)
  rw [hs] at h6
  exact h6.symm

/-! ### The scans -/
/-- what has come ahead of a text -/
def wentF (a b c : ByteArray) (x : Itm) : Bool := !keyLt x.1 a && keyLt x.1 c && toB b x.1
def budget (st : HSt) (xs : List Itm) (c : ByteArray) : Nat := (xs.filter (fun x => !keyLt x.1 c)).length + (if (st.at (addr c)).isSome then 1 else 0)

theorem wentF_start (a b : ByteArray) (xs : List Itm) : xs.filter (wentF a b a) = [] :=
  filter_none' (fun x _ => by unfold wentF; cases keyLt x.1 a <;> simp)

theorem went_more {xs : List Itm} (hr : Rising xs) {a b c d : ByteArray} (hac : keyLt c a = false) (hcd : keyLt c d = true) :
    xs.filter (wentF a b c) ++ xs.filter (fun x => !keyLt x.1 c && toB b x.1 && keyLt x.1 d) = xs.filter (wentF a b d) := by
  rw [filter_two hr]
  · congr 1
    funext x
    unfold wentF
    cases h1 : keyLt x.1 a with
    | true =>
      have : keyLt x.1 c = true := keyLt_trans_le h1 hac
      simp [this]
    | false =>
      cases h2 : keyLt x.1 c with
      | true => simp [keyLt_trans h2 hcd]
      | false => cases toB b x.1 <;> simp
  · intro x y hx hy
    simp only [wentF, Bool.and_eq_true, Bool.not_eq_true'] at hx hy
    exact keyLt_trans_le hx.1.2 hy.1.1

theorem budget_lt {st : HSt} {xs : List Itm} (hr : Rising xs) {c d : ByteArray} (hcd : keyLt c d = true) (hat : (st.at (addr c)).isSome = true)
    (h : (∃ x ∈ xs, keyLt x.1 c = false ∧ keyLt x.1 d = true) ∨ (st.at (addr d)).isSome = false) : budget st xs d < budget st xs c := by
  have hs : (xs.filter (fun x => !keyLt x.1 c && keyLt x.1 d)).length + (xs.filter (fun x => !keyLt x.1 d)).length = (xs.filter (fun x => !keyLt x.1 c)).length := by
    rw [← List.length_append, filter_two hr]
    · congr 2
      funext x
      cases h1 : keyLt x.1 c with
      | true => simp [keyLt_trans h1 hcd]
      | false => cases keyLt x.1 d <;> simp
    · intro x y hx hy
      simp only [Bool.and_eq_true, Bool.not_eq_true'] at hx hy
      exact keyLt_trans_le hx.2 hy
  unfold budget
  rw [if_pos hat]
  rcases h with ⟨x, hx, h1, h2⟩ | h
  · have hpos : 0 < (xs.filter (fun x => !keyLt x.1 c && keyLt x.1 d)).length := List.length_pos_of_mem (List.mem_filter.2 ⟨hx, by simp [h1, h2]⟩)
    split <;> omega
  · rw [if_neg (by rw [h]; simp)]
    omega

structure StepMore (st : HSt) (xs : List Itm) (a b c : ByteArray) (r : ScanR) (got : List Itm) : Prop where
  went : got ++ r.its = xs.filter (wentF a b r.next)
  rise : keyLt c r.next = true
  less : budget st xs r.next < budget st xs c
  short : r.next.size ≤ 16

theorem scan_step {st : HSt} {xs : List Itm} (hr : Rising xs) (hsz : ∀ x ∈ xs, x.1.size ≤ 16) (hown : ∀ o ∈ st.own, Pt64 o.t) (ha : Pt64 st.a.f) (hsh : st.shut = false) {a b c : ByteArray} {most : Nat} (hm : 1 ≤ most) (hat : (st.at (addr c)).isSome = true) (hac : keyLt c a = false)
    {got : List Itm} (hg : got = xs.filter (wentF a b c)) :
    ((scanR st c b most xs).more = true → StepMore st xs a b c (scanR st c b most xs) got) ∧
    ((scanR st c b most xs).more = false → ∃ P : Itm → Bool, got ++ (scanR st c b most xs).its = xs.filter P ∧ ∀ x, wentF a b c x = true → P x = true) ∧ (scanR st c b most xs).its.length ≤ most := by
  have hin := endA_in hown ha (addr_64 c)
  have hend := endA_none hown hsh (addr_64 c)
  have hgt := endA_gt hown hsh (addr_64 c) hat
  unfold scanR scanE
  dsimp only
  rw [ahead_filter hr]
  generalize endA st (addr c) = e at *
  have hL1 := rising_filter hr (fun x => !keyLt x.1 c && toB b x.1 && aheadP e x)
  cases hx : (xs.filter (fun x => !keyLt x.1 c && toB b x.1 && aheadP e x))[most]? with
  | some x =>
    dsimp only
    have hmem := List.mem_of_getElem? hx
    obtain ⟨hmx, hpx⟩ := List.mem_filter.1 hmem
    simp only [Bool.and_eq_true, Bool.not_eq_true'] at hpx
    obtain ⟨⟨p1, p2⟩, p3⟩ := hpx
    -- the items ahead of x
    have hlt : most < (xs.filter (fun x => !keyLt x.1 c && toB b x.1 && aheadP e x)).length := (List.getElem?_eq_some_iff.1 hx).1
    have htake : (xs.filter (fun x => !keyLt x.1 c && toB b x.1 && aheadP e x)).take most = xs.filter (fun y => !keyLt y.1 c && toB b y.1 && keyLt y.1 x.1) := by
      rw [take_lt hL1 hx, List.filter_filter]
      congr 1
      funext y
      cases hy : keyLt y.1 x.1 with
      | false => simp
      | true => simp [aheadP_mono hy p3]
    have htl : ((xs.filter (fun x => !keyLt x.1 c && toB b x.1 && aheadP e x)).take most).length = most := by rw [List.length_take]; omega
    obtain ⟨y, hy⟩ : ∃ y, y ∈ (xs.filter (fun x => !keyLt x.1 c && toB b x.1 && aheadP e x)).take most := by
      cases h : (xs.filter (fun x => !keyLt x.1 c && toB b x.1 && aheadP e x)).take most with
      | nil => rw [h] at htl; simp at htl; omega
      | cons y _ => exact ⟨y, List.mem_cons_self⟩
    have hy2 := hy
    rw [htake] at hy2
    obtain ⟨hym, hyp⟩ := List.mem_filter.1 hy2
    simp only [Bool.and_eq_true, Bool.not_eq_true'] at hyp
    have hcx : keyLt c x.1 = true := keyLt_le_trans hyp.1.1 hyp.2
    refine ⟨fun _ => ⟨?_, hcx, budget_lt hr hcx hat (.inl ⟨y, hym, hyp.1.1, hyp.2⟩), hsz x hmx⟩, (fun h => by cases h), by rw [htl]; exact Nat.le_refl _⟩
    dsimp only
    rw [htake, hg]
    exact went_more hr hac hcx
  | none =>
    dsimp only
    have hlen : (xs.filter (fun x => !keyLt x.1 c && toB b x.1 && aheadP e x)).length ≤ most := List.getElem?_eq_none_iff.1 hx
    split
    · rename_i hcond
      have hce : keyLt c (firstB e) = true := (first_lt hin c).2 (by rcases hgt with h | h <;> omega)
      have hne : st.at (addr (firstB e)) = none := by
        rw [addr_first hin]
        exact hend.resolve_left (by omega)
      refine ⟨fun _ => ⟨?_, hce, budget_lt hr hce hat (.inr (by dsimp only; rw [hne]; rfl)), Nat.le_trans (firstB_size e) (by decide)⟩, (fun h => by cases h), hlen⟩
      dsimp only
      rw [hg, ← went_more hr hac hce]
      congr 2
      funext x
      have h1 : aheadP e x = keyLt x.1 (firstB e) := by
        unfold aheadP
        rw [Bool.eq_iff_iff, first_lt hin, decide_eq_true_eq]
        omega
      rw [h1]
    · refine ⟨(fun h => by cases h), fun _ => ⟨fun x => wentF a b c x || (!keyLt x.1 c && toB b x.1 && aheadP e x), ?_, fun x h => by simp [h]⟩, hlen⟩
      dsimp only
      rw [hg]
      refine filter_two hr (fun x y hx hy => ?_)
      simp only [wentF, Bool.and_eq_true, Bool.not_eq_true'] at hx hy
      exact keyLt_trans_le hx.1.2 hy.1.1

/-! ### The last look -/
theorem filt_len {P : Itm → Bool} {xs : List Itm} {i : Nat} {x : Itm} (h : xs[i]? = some x) : ((xs.take (i + 1)).filter P).length = ((xs.take i).filter P).length + (if P x = true then 1 else 0) := by
  rw [List.take_add_one, h, List.filter_append, List.length_append]
  congr 1
  cases hp : P x <;> simp [hp]
theorem filt_split (P : Itm → Bool) (xs : List Itm) (i : Nat) : xs.filter P = (xs.take i).filter P ++ (xs.drop i).filter P := by rw [← List.filter_append, List.take_append_drop]
theorem filt_at {P : Itm → Bool} {xs : List Itm} {i : Nat} {x : Itm} (h : xs[i]? = some x) (hp : P x = true) : (xs.filter P)[((xs.take i).filter P).length]? = some x := by
  have hi : i < xs.length := (List.getElem?_eq_some_iff.1 h).1
  rw [filt_split P xs i, List.getElem?_append_right (Nat.le_refl _), Nat.sub_self, List.drop_eq_getElem_cons hi, (List.getElem?_eq_some_iff.1 h).2, List.filter_cons_of_pos hp]
  rfl
theorem filt_not {P : Itm → Bool} {xs : List Itm} (hr : Rising xs) {i : Nat} {x y : Itm} (h : xs[i]? = some x) (hp : P x = false) (hy : (xs.filter P)[((xs.take i).filter P).length]? = some y) : y.1 ≠ x.1 := by
  have hi : i < xs.length := (List.getElem?_eq_some_iff.1 h).1
  rw [filt_split P xs i, List.getElem?_append_right (Nat.le_refl _), Nat.sub_self, List.drop_eq_getElem_cons hi, (List.getElem?_eq_some_iff.1 h).2, List.filter_cons_of_neg (by simp [hp])] at hy
  have hm := (List.mem_filter.1 (List.mem_of_getElem? hy)).1
  have hr2 : Rising (xs.take i ++ x :: xs.drop (i + 1)) := by
    have : xs.take i ++ x :: xs.drop (i + 1) = xs := by
      rw [← (List.getElem?_eq_some_iff.1 h).2, ← List.drop_eq_getElem_cons hi, List.take_append_drop]
    rw [this]; exact hr
  obtain ⟨_, h3, _⟩ := rising_append.1 hr2
  obtain ⟨h5, _⟩ := rising_cons.1 h3
  exact fun e => by have := h5 y hm; rw [e, keyLt_irrefl] at this; cases this
end Go.Proofs.YtmagddchjidamaaGreatDoor
