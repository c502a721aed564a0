/- Put together out of: AgreePlain, GivesPlain, HoldGives. -/
import Derived.Test.YtmagddchjidamaaGreatDoorTreePut
import Derived.Test.YtmagddchjidamaaGreatDoorHoldCut
import Derived.Test.YtmagddchjidamaaGreatDoorHoldWin
import Derived.Test.YtmagddchjidamaaGreatDoorSameIt
/- A map, or any row of items with unlike keys, and a rising row that have the same items: plain Lean. -/
namespace Go.Proofs.YtmagddchjidamaaGreatDoor
set_option linter.unusedSimpArgs false
set_option linter.unusedVariables false

/-! ### A map and a row of items that are alike -/
theorem get_mem : {m : SMap} → (m.map (·.1)).Nodup → {k v : ByteArray} → (m.get k = some v ↔ (k, v) ∈ m)
  | [], _, k, v => by simp [SMap.get]
  | x :: m, h, k, v => by
    rw [List.map_cons, List.nodup_cons] at h
    have ih := get_mem (m := m) h.2 (k := k) (v := v)
    by_cases hx : x.1 = k
    · have e : SMap.get (x :: m) k = some x.2 := by simp [SMap.get, hx]
      rw [e, Option.some.injEq, List.mem_cons]
      constructor
      · rintro rfl
        exact .inl (by rw [← hx])
      · rintro (e | e)
        · rw [← e]
        · exact absurd (List.mem_map.2 ⟨(k, v), e, rfl⟩) (hx ▸ h.1)
    · have e : SMap.get (x :: m) k = SMap.get m k := by simp [SMap.get, hx]
      rw [e, ih, List.mem_cons]
      constructor
      · exact .inr
      · rintro (e | e)
        · exact absurd (by rw [← e]) hx
        · exact e

theorem rising_nodup {l : List Itm} (h : Rising l) : (l.map (·.1)).Nodup := by
  rw [rising_keys] at h
  exact h.imp (fun hab e => keyLt_ne hab e)

theorem agree_get {m : SMap} {xs : List Itm} (hp : m.Perm xs) (hr : Rising xs) (k : ByteArray) : m.get k = getS k xs := by
  have hx := rising_nodup hr
  have hm : (m.map (·.1)).Nodup := ((hp.map _).nodup_iff).2 hx
  cases hg : getS k xs with
  | some v => exact (get_mem hm).2 (hp.mem_iff.2 ((get_mem hx).1 hg))
  | none =>
    cases hg2 : SMap.get m k with
    | none => rfl
    | some v =>
      have := (get_mem hx).2 (hp.mem_iff.1 ((get_mem hm).1 hg2))
      unfold getS at hg
      rw [this] at hg
      cases hg

theorem insS_perm {x : Itm} {xs : List Itm} (hr : Rising xs) (hg : getS x.1 xs = none) : (insS x xs).Perm (x :: xs) := by
  obtain ⟨x1, x2, rfl, _, h1, h2⟩ := plc_none hr hg
  rw [insS_leaf h1 h2]
  exact List.perm_middle

theorem agree_put {m : SMap} {xs : List Itm} (hp : m.Perm xs) (hr : Rising xs) (k v : ByteArray) : (m.put k v).Perm (if (getS k xs).isSome then setS k v xs else insS (k, v) xs) := by
  have hg := agree_get hp hr k
  cases h : getS k xs with
  | none =>
    rw [h] at hg
    rw [put_new hg]
    simp only [Option.isSome_none, Bool.false_eq_true, if_false]
    refine List.Perm.trans ?_ (insS_perm (x := (k, v)) hr h).symm
    exact (List.perm_append_comm).trans (List.Perm.cons _ hp)
  | some u =>
    rw [h] at hg
    rw [put_old hg]
    simp only [Option.isSome_some, if_true]
    exact hp.map _

theorem agree_del {m : SMap} {xs : List Itm} (hp : m.Perm xs) (k : ByteArray) : (m.del k).Perm (delS k xs) := hp.filter _

end Go.Proofs.YtmagddchjidamaaGreatDoor

/- HoldGives: what is lost is not owned, what is won is; the items on both sides: plain Lean. -/
namespace Go.Proofs.YtmagddchjidamaaGreatDoor
set_option linter.unusedSimpArgs false
set_option linter.unusedVariables false
open Go.RowKit

/-! ### What is owned -/
def anyAt (own : List Ow) (x : Int) : Bool := own.any (fun o => hasP o.arc x)
theorem isSome_any (st : HSt) (x : Int) : (st.at x).isSome = anyAt st.own x := by
  unfold HSt.at anyAt
  rw [Bool.eq_iff_iff, List.find?_isSome, List.any_eq_true]

/-- a piece as it should be -/
def okP (f t : Int) : Prop := 0 ≤ f ∧ 0 ≤ t ∧ (t = 0 ∨ f < t)

theorem lessO_ok {o : Ow} {p : Arc} (ho : okP o.f o.t) (hp : okP p.f p.t) : ∀ q ∈ lessO o p, okP q.f q.t := by
  obtain ⟨of, ot, nd, ep⟩ := o
  obtain ⟨pf, pt⟩ := p
  unfold okP at *
  dsimp only at ho hp
  intro q hq
  unfold lessO at hq
  dsimp only at hq
  split at hq
  · simp only [List.mem_singleton] at hq; subst hq; exact ho
  · rcases List.mem_append.1 hq with hq | hq
    · split at hq
      · simp only [List.mem_singleton] at hq; subst hq; dsimp only; omega
      · cases hq
    · split at hq
      · simp only [List.mem_singleton] at hq; subst hq; dsimp only; omega
      · cases hq

theorem lessO_at {o : Ow} {p : Arc} (ho : okP o.f o.t) (hp : okP p.f p.t) {x : Int} (hx : 0 ≤ x) : anyAt (lessO o p) x = (hasP o.arc x && !hasP p x) := by
  obtain ⟨of, ot, nd, ep⟩ := o
  obtain ⟨pf, pt⟩ := p
  unfold okP at *
  dsimp only at ho hp
  have e1 : ∀ f t : Int, hasP ⟨f, t⟩ x = decide (f ≤ x ∧ (t = 0 ∨ x < t)) := fun f t => by
    rw [Bool.eq_iff_iff, hasP_iff, decide_eq_true_eq]
  unfold anyAt lessO
  dsimp only [Ow.arc]
  split
  · simp only [List.any_cons, List.any_nil, Bool.or_false, Ow.arc, e1]
    rw [Bool.eq_iff_iff]
    simp only [Bool.and_eq_true, Bool.not_eq_true', decide_eq_true_eq, decide_eq_false_iff_not]
    omega
  · rw [List.any_append, Bool.eq_iff_iff]
    split <;> split <;> simp only [List.any_cons, List.any_nil, Bool.or_false, Bool.false_or, Ow.arc, e1, Bool.and_eq_true, Bool.or_eq_true, Bool.not_eq_true', decide_eq_true_eq, decide_eq_false_iff_not, Bool.false_eq_true, false_iff] <;> omega

theorem less_all {p : Arc} (hp : okP p.f p.t) {x : Int} (hx : 0 ≤ x) : (own : List Ow) → (∀ o ∈ own, okP o.f o.t) → anyAt (own.flatMap (lessO · p)) x = (anyAt own x && !hasP p x) ∧ ∀ o ∈ own.flatMap (lessO · p), okP o.f o.t
  | [], _ => ⟨by simp [anyAt], by simp⟩
  | o :: own, h => by
    obtain ⟨i1, i2⟩ := less_all hp hx own (fun q hq => h q (List.mem_cons_of_mem _ hq))
    have h0 := h o List.mem_cons_self
    refine ⟨?_, fun q hq => ?_⟩
    · rw [List.flatMap_cons]
      have e : anyAt (lessO o p ++ own.flatMap (lessO · p)) x = (anyAt (lessO o p) x || anyAt (own.flatMap (lessO · p)) x) := by unfold anyAt; exact List.any_append
      have e2 : anyAt (o :: own) x = (hasP o.arc x || anyAt own x) := by unfold anyAt; rw [List.any_cons]
      rw [e, i1, lessO_at h0 hp hx, e2, Bool.and_or_distrib_right]
    · rw [List.flatMap_cons] at hq
      rcases List.mem_append.1 hq with hq | hq
      · exact lessO_ok h0 hp q hq
      · exact i2 q hq

theorem lost_at {x : Int} (hx : 0 ≤ x) : (l : List Arc) → (∀ p ∈ l, okP p.f p.t) → (own : List Ow) → (∀ o ∈ own, okP o.f o.t) → anyAt (lostTo own l) x = (anyAt own x && !l.any (fun p => hasP p x))
  | [], _, own, _ => by simp [lostTo]
  | p :: l, h, own, ho => by
    obtain ⟨i1, i2⟩ := less_all (h p List.mem_cons_self) hx own ho
    have ih := lost_at hx l (fun q hq => h q (List.mem_cons_of_mem _ hq)) (own.flatMap (lessO · p)) i2
    have e : lostTo own (p :: l) = lostTo (own.flatMap (lessO · p)) l := rfl
    rw [e, ih, i1, List.any_cons, Bool.not_or, Bool.and_assoc]

/-- behind Lose of a hold that had all -/
theorem lost_whole {a : Arc} (ha : a.ok) {x : Int} (hx : Pt64 x) (st : HSt) (h : st.own = lostTo [⟨0, 0, 1, 0⟩] (piecesA a)) : (st.at x).isSome = !inA a x := by
  rw [isSome_any, h, lost_at hx.1 _ (fun p hp => by obtain ⟨q1, q2⟩ := piecesA_ok ha p hp; exact ⟨q1.1.1, q1.2.1, q2⟩) _ (fun o ho => by simp only [List.mem_singleton] at ho; subst ho; exact ⟨Int.le_refl _, Int.le_refl _, .inl rfl⟩), pieces_in ha hx]
  have : anyAt [(⟨0, 0, 1, 0⟩ : Ow)] x = true := by simp [anyAt, hasP, Ow.arc, hx.1]
  rw [this, Bool.true_and]

/-! ### The items -/
theorem arcIts_iff {a : Arc} (ha : a.ok) {xs : List Itm} {x : Itm} : x ∈ arcIts a xs ↔ x ∈ xs ∧ inA a (addr x.1) = true := by
  unfold arcIts
  rw [List.mem_flatMap, ← pieces_in ha (addr_64 x.1), List.any_eq_true]
  constructor
  · rintro ⟨p, hp, hx⟩
    obtain ⟨h1, h2⟩ := List.mem_filter.1 hx
    exact ⟨h1, p, hp, h2⟩
  · rintro ⟨h1, p, hp, h2⟩
    exact ⟨p, hp, List.mem_filter.2 ⟨h1, h2⟩⟩

theorem arcIts_len (a : Arc) (xs : List Itm) : (arcIts a xs).length ≤ 2 * xs.length := by
  unfold arcIts piecesA
  split
  · have := List.length_filter_le (inP a) xs
    simp only [List.flatMap_cons, List.flatMap_nil, List.append_nil]
    omega
  · have h1 := List.length_filter_le (inP ⟨a.f, 0⟩) xs
    have h2 := List.length_filter_le (inP ⟨0, a.t⟩) xs
    simp only [List.flatMap_cons, List.flatMap_nil, List.append_nil, List.length_append]
    omega

theorem filter_keys {xs : List Itm} (h : (xs.map (·.1)).Nodup) (p : Itm → Bool) : ((xs.filter p).map (·.1)).Nodup := h.sublist ((List.filter_sublist).map _)

theorem arcIts_nodup {a : Arc} {xs : List Itm} (hr : Rising xs) : ((arcIts a xs).map (·.1)).Nodup := by
  have hn := rising_nodup hr
  unfold arcIts piecesA
  split
  · simp only [List.flatMap_cons, List.flatMap_nil, List.append_nil]
    exact filter_keys hn _
  · rename_i hc
    simp only [List.flatMap_cons, List.flatMap_nil, List.append_nil, List.map_append]
    refine List.nodup_append.2 ⟨filter_keys hn _, filter_keys hn _, fun k1 h1 k2 h2 e => ?_⟩
    obtain ⟨x, hx, rfl⟩ := List.mem_map.1 h1
    obtain ⟨y, hy, rfl⟩ := List.mem_map.1 h2
    have hx2 := (List.mem_filter.1 hx).2
    have hy2 := (List.mem_filter.1 hy).2
    unfold inP at hx2 hy2
    rw [← e] at hy2
    rw [hasP_iff] at hx2 hy2
    dsimp only at hx2 hy2
    have h3 := hx2.1
    have h4 := hy2.2
    have : a.t ≤ a.f := by omega
    omega

/-- items put into a shelf that has none -/
theorem putAll_perm {most : Int} {its : List Itm} (hn : (its.map (·.1)).Nodup) (hv : ∀ x ∈ its, 1 ≤ x.1.size ∧ x.1.size ≤ 16 ∧ x.2.size ≤ 16) (hm : (its.length : Int) ≤ most) : (j : Nat) → j ≤ its.length →
    (putAll most [] (its.take j)).Perm (its.take j) ∧ Rising (putAll most [] (its.take j)) ∧ ∀ it, its[j]? = some it → putErr most it.1 it.2 (putAll most [] (its.take j)) = 0 := by
  intro j
  induction j with
  | zero =>
    intro _
    refine ⟨List.Perm.refl _, Rising.nil, fun it hit => ?_⟩
    have hi := hv it (List.mem_of_getElem? hit)
    have hl : 0 < its.length := (List.getElem?_eq_some_iff.1 hit).1
    unfold putErr
    rw [if_neg (fun e => e ⟨hi.1, hi.2.1⟩), if_neg (fun e => e hi.2.2), if_neg (by simp [putAll, getS, SMap.get]), if_neg (by simp [putAll]; omega)]
  | succ j ih =>
    intro hj
    obtain ⟨p1, p2, p3⟩ := ih (by omega)
    have he : its[j]? = some its[j] := List.getElem?_eq_getElem (by omega)
    generalize its[j] = it at he
    have hi := hv it (List.mem_of_getElem? he)
    have htk : its.take (j + 1) = its.take j ++ [it] := by rw [List.take_add_one, he]; rfl
    have hnj : ((its.take (j + 1)).map (·.1)).Nodup := hn.sublist ((List.take_sublist _ _).map _)
    have hnew : getS it.1 (putAll most [] (its.take j)) = none := by
      refine getS_none fun x hx e => ?_
      rw [htk, List.map_append] at hnj
      exact (List.nodup_append.1 hnj).2.2 x.1 (List.mem_map.2 ⟨x, p1.mem_iff.1 hx, rfl⟩) it.1 (by simp) e
    have hlen := p1.length_eq
    have hput : putIts most it.1 it.2 (putAll most [] (its.take j)) = insS it (putAll most [] (its.take j)) := by
      unfold putIts
      rw [if_neg (fun e => e ⟨hi.1, hi.2.1⟩), if_neg (fun e => e hi.2.2), if_neg (by rw [hnew]; simp), if_neg (by rw [hlen, List.length_take]; omega)]
    have hs : putAll most [] (its.take (j + 1)) = insS it (putAll most [] (its.take j)) := by rw [putAll_snoc he, hput]
    have hp : (putAll most [] (its.take (j + 1))).Perm (its.take (j + 1)) := by
      rw [hs, htk]
      refine (insS_perm p2 hnew).trans ?_
      exact (List.Perm.cons _ p1).trans (List.perm_append_comm (l₁ := [it]))
    have hr : Rising (putAll most [] (its.take (j + 1))) := by rw [hs]; exact rising_insS p2
    refine ⟨hp, hr, fun it2 h2 => ?_⟩
    have hi2 := hv it2 (List.mem_of_getElem? h2)
    have hj2 := (List.getElem?_eq_some_iff.1 h2).1
    have hlen2 := hp.length_eq
    have hnew2 : getS it2.1 (putAll most [] (its.take (j + 1))) = none := by
      refine getS_none fun x hx e => ?_
      have hnj2 : ((its.take (j + 1 + 1)).map (·.1)).Nodup := hn.sublist ((List.take_sublist _ _).map _)
      rw [List.take_add_one, h2, List.map_append] at hnj2
      exact (List.nodup_append.1 hnj2).2.2 x.1 (List.mem_map.2 ⟨x, hp.mem_iff.1 hx, rfl⟩) it2.1 (by simp) e
    unfold putErr
    rw [if_neg (fun e => e ⟨hi2.1, hi2.2.1⟩), if_neg (fun e => e hi2.2.2), if_neg (by rw [hnew2]; simp), if_neg (by rw [hlen2, List.length_take]; omega)]

/-- what is won is what was there -/
theorem won_get {a : Arc} (ha : a.ok) {xs : List Itm} (hr : Rising xs) (hv : ∀ x ∈ xs, 1 ≤ x.1.size ∧ x.1.size ≤ 16 ∧ x.2.size ≤ 16) (hl : xs.length ≤ 40) {k : ByteArray} (hk : inA a (addr k) = true) : getS k (putAll 200 [] (arcIts a xs)) = getS k xs := by
  have hn := arcIts_nodup (a := a) hr
  have hlen := arcIts_len a xs
  obtain ⟨p1, p2, _⟩ := putAll_perm (most := 200) hn (fun x hx => hv x ((arcIts_iff ha).1 hx).1) (by omega) (arcIts a xs).length (Nat.le_refl _)
  rw [List.take_length] at p1 p2
  rw [← agree_get p1.symm p2 k]
  cases hg : getS k xs with
  | some v => exact (get_mem hn).2 ((arcIts_iff ha).2 ⟨(get_mem (rising_nodup hr)).1 hg, hk⟩)
  | none =>
    cases hg2 : SMap.get (arcIts a xs) k with
    | none => rfl
    | some v =>
      have := (get_mem (rising_nodup hr)).2 ((arcIts_iff ha).1 ((get_mem hn).1 hg2)).1
      unfold getS at hg
      rw [this] at hg
      cases hg

theorem getS_del_ne {k q : ByteArray} (h : q ≠ k) (l : List Itm) : getS k (delS q l) = getS k l := by
  induction l with
  | nil => rfl
  | cons y l ih =>
    by_cases hy : y.1 = q
    · have e1 : delS q (y :: l) = delS q l := by simp [delS, SMap.del, hy]
      have e2 : getS k (y :: l) = getS k l := by simp [getS, SMap.get, List.find?_cons, hy, h]
      rw [e1, e2, ih]
    · have e1 : delS q (y :: l) = y :: delS q l := by simp [delS, SMap.del, hy]
      rw [e1]
      by_cases hk : y.1 = k
      · simp [getS, SMap.get, List.find?_cons, hk]
      · have e2 : ∀ m : List Itm, getS k (y :: m) = getS k m := fun m => by simp [getS, SMap.get, List.find?_cons, hk]
        rw [e2, e2, ih]

/-- what is not lost stays -/
theorem kept_get {a : Arc} (ha : a.ok) {xs : List Itm} {k : ByteArray} (hk : inA a (addr k) = false) : getS k (outS a xs) = getS k xs := by
  unfold outS
  have : ∀ j, getS k (outK a xs j) = getS k xs := by
    intro j
    induction j with
    | zero => rfl
    | succ j ih =>
      cases h : ((arcIts a xs).take 200)[j]? with
      | none =>
        have hj := List.getElem?_eq_none_iff.1 h
        have e : outK a xs (j + 1) = outK a xs j := by
          unfold outK
          rw [List.take_of_length_le (by omega), List.take_of_length_le hj]
        rw [e, ih]
      | some x =>
        rw [outK_succ h, getS_del_ne ?_, ih]
        rintro rfl
        have := ((arcIts_iff ha).1 (List.mem_of_mem_take (List.mem_of_getElem? h))).2
        rw [hk] at this
        cases this
  exact this _
end Go.Proofs.YtmagddchjidamaaGreatDoor

/- HoldGives: the walk. -/
namespace Go.Proofs.YtmagddchjidamaaGreatDoor
set_option linter.unusedSimpArgs false
set_option linter.unusedVariables false
open Go.RowKit Go.Shelf
attribute [local go_sem ↓] Go.wp_at_zero Go.wp_at_succ

set_option maxRecDepth 100000 in
set_option maxHeartbeats 4000000 in
theorem sameTold_refl2 (e n : Int) (v : ByteArray) (w : World) : Calls Tryz.prog 15 #[encTold e v n, encTold e v n] w fun en w' => en = .returned (.bool true) ∧ Mod NoB w w' := by
  have hbe : (v == v) = true := (MapKept.bytes_beq v v).2 rfl
  have hsi := fun W => sameItems_eq [] (.slice none 0 0) (.slice none 0 0) W (SlAt.nil _ _ _ _ _) (SlAt.nil _ _ _ _ _) (by decide)
  go_enter Tryz.func15, Tryz.ntmps15
  go_wp2_with (go_at_call 24; refine (hsi _).mono ?_; rintro e w2 ⟨rfl, hm2⟩; obtain ⟨b1, b2, b3, b4⟩ := two_new hm2; have c3 : w2.cell? ⟨w.heap.size, 3, none⟩ = some (.bool false) := cell_of b1 3 rfl; have c4 : w2.cell? ⟨w.heap.size, 4, none⟩ = some (.string ⟨#[]⟩) := cell_of b1 4 rfl; have c5 : w2.cell? ⟨w.heap.size, 5, none⟩ = some (.int .i64 n) := cell_of b1 5 rfl; have d3 : w2.cell? ⟨w.heap.size + 1, 3, none⟩ = some (.bool false) := cell_of b2 3 rfl; have d4 : w2.cell? ⟨w.heap.size + 1, 4, none⟩ = some (.string ⟨#[]⟩) := cell_of b2 4 rfl; have d5 : w2.cell? ⟨w.heap.size + 1, 5, none⟩ = some (.int .i64 n) := cell_of b2 5 rfl; have HM2 := Lib.hid b4; clear hm2 b1 b2 b3 b4)
  go_ret
  exact ⟨rfl, HM2.out⟩

theorem told6g {w : World} {q : Nat} {e n : Int} {v : ByteArray} {T : TypeId} (h : w.heap[q]? = some (.cells #[.int .i64 e, .string v, .slice none 0 0, .bool false, .string ⟨#[]⟩, .int .i64 n] T (0, 0))) :
    w.cell? ⟨q, 0, none⟩ = some (.int .i64 e) ∧ w.cell? ⟨q, 1, none⟩ = some (.string v) ∧ w.cell? ⟨q, 2, none⟩ = some (.slice none 0 0) ∧ w.cell? ⟨q, 3, none⟩ = some (.bool false) ∧ w.cell? ⟨q, 4, none⟩ = some (.string ⟨#[]⟩) ∧ w.cell? ⟨q, 5, none⟩ = some (.int .i64 n) :=
  ⟨cell_of h 0 rfl, cell_of h 1 rfl, cell_of h 2 rfl, cell_of h 3 rfl, cell_of h 4 rfl, cell_of h 5 rfl⟩

def stX : HSt := ⟨1, 200, 0, [⟨0, 0, 1, 0⟩], false, ⟨0, 0⟩, []⟩
def stY : HSt := ⟨2, 200, 0, [], false, ⟨0, 0⟩, []⟩
def Valid (xs : List Itm) : Prop := ∀ x ∈ xs, 1 ≤ x.1.size ∧ x.1.size ≤ 16 ∧ x.2.size ≤ 16

/-- two holds side by side, new since a world -/
def TwoH (w W : World) (x y : Nat) (sx sy : HSt) (xs ys : List Itm) (Bx By : List Nat) : Prop := NewI w W x sx xs Bx ∧ NewI w W y sy ys By ∧ ∀ g ∈ By, g ∉ Bx

theorem TwoH.quiet {w W W' : World} {x y : Nat} {sx sy : HSt} {xs ys : List Itm} {Bx By : List Nat} (h : TwoH w W x y sx sy xs ys Bx By) (hm : Mod NoB W W') : TwoH w W' x y sx sy xs ys Bx By := ⟨h.1.quiet hm, h.2.1.quiet hm, h.2.2⟩
theorem TwoH.x {w W W' : World} {x y : Nat} {sx sx' sy : HSt} {xs xs' ys : List Itm} {Bx Bx' By : List Nat} (h : TwoH w W x y sx sy xs ys Bx By) (h1 : HoldI W' x sx' xs' Bx') (ht : Turn Bx W W' Bx') : TwoH w W' x y sx' sy xs' ys Bx' By := by
  have hlt := h.2.1.1.lts
  refine ⟨h.1.turn h1 ht, ⟨h.2.1.1.mod ht.1 h.2.2, (h.1.turn h1 ht).2.1, h.2.1.2.2⟩, fun g hg hb => ?_⟩
  rcases ht.2 g hb with e | e
  · exact h.2.2 g hg e
  · have := hlt g hg; omega
theorem TwoH.y {w W W' : World} {x y : Nat} {sx sy sy' : HSt} {xs ys ys' : List Itm} {Bx By By' : List Nat} (h : TwoH w W x y sx sy xs ys Bx By) (h1 : HoldI W' y sy' ys' By') (ht : Turn By W W' By') : TwoH w W' x y sx sy' xs ys' Bx By' := by
  have hlt := h.1.1.lts
  refine ⟨⟨h.1.1.mod ht.1 (fun g hg hb => h.2.2 g hb hg), (h.2.1.turn h1 ht).2.1, h.1.2.2⟩, h.2.1.turn h1 ht, fun g hg hb => ?_⟩
  rcases ht.2 g hg with e | e
  · exact h.2.2 g e hb
  · have := hlt g hb; omega

theorem valid_put {st : HSt} {xs : List Itm} {k v : ByteArray} (h : Valid xs) : Valid (pIts st k v xs) := by
  unfold pIts
  by_cases h1 : ¬ (1 ≤ k.size ∧ k.size ≤ 16)
  · rw [if_pos h1]; exact h
  · have h1' : 1 ≤ k.size ∧ k.size ≤ 16 := Decidable.not_not.1 h1
    rw [if_neg h1]
    split
    · exact h
    · split
      · exact h
      · unfold hIts
        by_cases h2 : ¬ v.size ≤ 16
        · rw [if_pos h2]; exact h
        · have h2' : v.size ≤ 16 := Decidable.not_not.1 h2
          rw [if_neg h2]
          split
          · intro x hx
            obtain ⟨y, hy, rfl⟩ := List.mem_map.1 hx
            by_cases hk : y.1 = k
            · rw [if_pos hk]; exact ⟨h1'.1, h1'.2, h2'⟩
            · rw [if_neg hk]; exact h y hy
          · split
            · exact h
            · intro x hx
              rcases mem_insS hx with rfl | hx
              · exact ⟨h1'.1, h1'.2, h2'⟩
              · exact h x hx

/-- what Get tells of a hold that is open -/
theorem get_open {w : World} {h : Nat} {st : HSt} {xs : List Itm} {B : List Nat} (hh : HoldI w h st xs B) (k v kt : ByteArray) (most : Int) (hk1 : 1 ≤ k.size) (hk2 : k.size ≤ 16) (hat : (st.at (addr k)).isSome = true) (hf : st.shut = false) :
    Calls Tryz.prog 14 #[.pointer (some ⟨h, 0, none⟩), encAsk 1 k v kt most] w fun e w' => e = .returned (encTold (if (getS k xs).isSome then 0 else 6) ((getS k xs).getD ⟨#[]⟩) 0) ∧ Mod NoB w w' := by
  have hf2 : (st.shut && inA st.a (addr k)) = false := by rw [hf]; rfl
  cases hg : getS k xs with
  | none => exact do_miss1 hh k v kt most hk1 hk2 hat hf2 hg
  | some u => exact do_get_in hh k v kt most hk1 hk2 hat hf2 hg

theorem get_away {w : World} {h : Nat} {st : HSt} {xs : List Itm} {B : List Nat} (hh : HoldI w h st xs B) (k v kt : ByteArray) (most : Int) (hk1 : 1 ≤ k.size) (hk2 : k.size ≤ 16) (hat : (st.at (addr k)).isSome = false) (hl : st.pts.length ≤ 1000000) :
    Calls Tryz.prog 14 #[.pointer (some ⟨h, 0, none⟩), encAsk 1 k v kt most] w fun e w' => e = .returned (encTold 8 ⟨#[]⟩ (wherN (st.whereP (addr k)))) ∧ Mod NoB w w' := by
  obtain ⟨tr, n, hh, _⟩ := hh
  exact do_else hh 1 (by decide) (by decide) k v kt most hk1 hk2 (by simpa using hat) hl

def GivesRel (w : World) (n x y : Nat) (i : Value) (wr : World) : Prop :=
  ∃ (j : Nat) (xs : List Itm) (Bx By : List Nat), j ≤ n ∧ i = .int .i64 j ∧ TwoH w wr x y stX stY xs [] Bx By ∧ Valid xs ∧ xs.length ≤ j

theorem stX_at (k : ByteArray) : (stX.at (addr k)).isSome = true := whole_some (ep := 0) ⟨rfl, Int.le_refl _⟩ k

set_option maxRecDepth 100000 in
set_option maxHeartbeats 16000000 in
theorem gives_walk {w : World} {v : Value} {l : List Itm} (hl : SlAt 2 encIt w v l) (hll : l.length ≤ 9223372036854775807) {a : Arc} (ha : a.ok) {k : ByteArray} (hk : k.size ≤ 9223372036854775807) :
    Calls Tryz.prog 7 #[v, .agg #[.int .u64 a.f, .int .u64 a.t], .string k] w fun e w' => e = .returned (.bool true) ∧ Mod NoB w w' := by
  obtain ⟨va, vcap, hv, hx⟩ := hl
  have HL := Lib.hid (show SlAt 2 encIt w v l from ⟨va, vcap, hv, hx⟩)
  subst hv
  clear hx
  by_cases hc : l.length ≤ 40 ∧ 1 ≤ k.size ∧ k.size ≤ 16
  case neg =>
    have hcc : (40 : Int) < l.length ∨ (¬ (40 : Int) < l.length ∧ k.size < 1) ∨ (¬ (40 : Int) < l.length ∧ ¬ k.size < 1 ∧ 16 < k.size) := by omega
    clear hc
    rcases hcc with h1 | ⟨h1, h2⟩ | ⟨h1, h2, h3⟩
    all_goals
      go_enter Tryz.func7, Tryz.ntmps7
      go_wp2_with fail
      refine (alive_any _).mono ?_
      rintro e w1 ⟨rfl, hm1⟩
      have M1 := Lib.hid hm1
      clear hm1
      go_wp2_with fail
      go_ret
      exact ⟨rfl, Mod.trans (by repeat (first | exact Mod.refl _ _ | refine Mod.alloc ?_ _ | refine Mod.drew ?_)) M1.out⟩
  obtain ⟨c1, c2, c3⟩ := hc
  have n1 : ¬ (40 : Int) < l.length := by omega
  have n2 : ¬ k.size < 1 := by omega
  have n3 : ¬ 16 < k.size := by omega
  go_enter Tryz.func7, Tryz.ntmps7
  go_wp2_with fail
  refine (alive_any _).mono ?_
  rintro e w1 ⟨rfl, hm1⟩
  obtain ⟨A, hA⟩ : ∃ A, A = w.heap.size := ⟨_, rfl⟩
  have M1 : Hid (Mod NoB w w1) := Lib.hid (((Mod.refl NoB w).alloc _).trans hm1)
  have hbox : w1.heap[A]? = some (.cells #[.int .u64 a.f, .int .u64 a.t] 29 (0, 0)) := by
    rw [hA, hm1.block _ (by simp) (fun x => x)]
    exact heap_alloc_new w _
  have HBX := Lib.hid hbox
  rw [← hA]
  clear hm1 hA hbox
  go_wp2_with fail
  refine (new_any 1 200 _ (by decide) (by decide)).mono ?_
  rintro e w2 ⟨x, B2, rfl, q1, q2, q3⟩
  have Q1 := Lib.hid q1; have Q2 := Lib.hid q2; have Q3 := Lib.hid q3
  clear q1 q2 q3
  go_wp2_with fail
  refine (new_any 2 200 _ (by decide) (by decide)).mono ?_
  rintro e w3 ⟨y, B3, rfl, r1, r2, r3⟩
  have T3 : Hid (TwoH w1 w3 x y ⟨1, 200, 0, [], false, ⟨0, 0⟩, []⟩ stY [] [] B2 B3) := Lib.hid
    ⟨⟨⟨none, 0, Q1.out.mod r2 (fun _ _ e => e), ShOK.start⟩, Q2.out.trans r2, Q3.out⟩, ⟨⟨none, 0, r1, ShOK.start⟩, Q2.out.trans r2, fun g hg => Nat.le_trans Q2.out.size (r3 g hg)⟩, fun g hg hb => by have := r3 g hg; have := Q1.out.lts g hb; omega⟩
  have Q3' := Lib.hid (Q1.out.mod r2 (fun _ _ e => e))
  clear r1 r2 r3 Q1 Q2 Q3
  go_wp2_with fail
  refine (own_any Q3'.out ⟨0, 0⟩ 0 (by simp)).mono ?_
  rintro e w4 ⟨rfl, B4, hh4, ht4⟩
  rw [may_none (by decide) rfl] at hh4 ⊢
  rw [if_pos rfl] at hh4
  have T4 : Hid (TwoH w1 w4 x y stX stY [] [] B4 B3) := Lib.hid (T3.out.x ⟨none, 0, hh4, ShOK.start⟩ ht4)
  clear hh4 ht4 Q3' T3
  go_wp2_with fail
  go_loopw [51] (fun i wr => GivesRel w1 l.length x y i wr) (fun i _ => l.length - (intOf i).toNat)
  case atStart => exact ⟨0, [], B4, B3, Nat.zero_le _, rfl, T4.out, fun x hx => absurd hx List.not_mem_nil, Nat.le_refl _⟩
  case round =>
    clear T4
    obtain ⟨j, xs, Bx, By, hj, rfl, hT, hval, hxl⟩ := hrel
    obtain ⟨Wr, rfl⟩ : ∃ Wr : World, Wr = wr := ⟨_, rfl⟩
    have TT := Lib.hid hT; have HV := Lib.hid hval
    have hmW : Mod NoB w1 Wr := hT.1.2.1
    have HMW := Lib.hid hmW
    clear hT hval
    by_cases hlt : j < l.length
    · have he : l[j]? = some l[j] := List.getElem?_eq_getElem hlt
      obtain ⟨pb, po, cap', hv, hbl, p0, p1⟩ := at2it (HL.out.mod (M1.out.trans hmW)) he
      generalize l[j] = it at *
      clear he
      simp only [Value.slice.injEq] at hv
      obtain ⟨rfl, _, rfl⟩ := hv
      clear hmW
      by_cases hc2 : it.1.size ≤ 40 ∧ it.2.size ≤ 40
      case neg =>
        have hcc : 40 < it.1.size ∨ (¬ 40 < it.1.size ∧ 40 < it.2.size) := by omega
        clear hc2
        have hfin : Mod NoB w Wr := M1.out.trans HMW.out
        rcases hcc with h1 | ⟨h1, h2⟩
        all_goals
          go_wp2_with fail
          go_ret
          exact ⟨rfl, hfin.alloc _⟩
      obtain ⟨d1, d2⟩ := hc2
      have e1 : ¬ 40 < it.1.size := by omega
      have e2 : ¬ 40 < it.2.size := by omega
      go_wp2_with fail
      have TA := Lib.hid (TT.out.quiet ((Mod.refl NoB Wr).alloc (.cells #[.string it.1, .string it.2] 43)))
      refine (do_put_any (st := stX) TA.out.1.1 it.1 it.2 ⟨#[]⟩ 0 (by omega) (by omega) (by omega) (by decide) (by decide) (by decide)).mono ?_
      rintro e w5 ⟨rfl, B5, hh5, ht5⟩
      have T5 := Lib.hid (TA.out.x hh5 ht5)
      have V5 := Lib.hid (valid_put (st := stX) (k := it.1) (v := it.2) HV.out)
      have hl5 := pput_any (st := stX) (k := it.1) (v := it.2) TA.out.1.1.rising
      clear hh5 ht5
      dsimp only [encTold]
      go_wp2_with fail
      exact ⟨⟨j + 1, _, B5, By, by omega, by go_num, T5.out, V5.out, by omega⟩, by simp [intOf]; omega⟩
    · obtain rfl : j = l.length := by omega
      have hx40 : xs.length ≤ 40 := by omega
      have hba : Wr.heap[A]? = some (.cells #[.int .u64 a.f, .int .u64 a.t] 29 (0, 0)) := by
        rw [hmW.block _ (Array.getElem?_eq_some_iff.1 HBX.out).1 (fun x => x)]; exact HBX.out
      have HBA := Lib.hid hba
      have hAW := (Array.getElem?_eq_some_iff.1 hba).1
      have hABx : A ∉ Bx := fun hb => by have := TT.out.1.2.2 _ hb; have := (Array.getElem?_eq_some_iff.1 HBX.out).1; omega
      have hABy : A ∉ By := fun hb => by have := TT.out.2.1.2.2 _ hb; have := (Array.getElem?_eq_some_iff.1 HBX.out).1; omega
      have HA1 := Lib.hid (Array.getElem?_eq_some_iff.1 HBX.out).1
      have hrise := TT.out.1.1.rising
      have HRI := Lib.hid hrise
      clear hba hmW hrise hlt hj
      go_wp2_with fail
      refine (get_open (st := stX) TT.out.1.1 k ⟨#[]⟩ ⟨#[]⟩ 0 c2 c3 (stX_at k) rfl).mono ?_
      rintro e w5 ⟨rfl, hm5⟩
      obtain ⟨ew, hew⟩ : ∃ ew : Int, ew = (if (getS k xs).isSome then 0 else 6) := ⟨_, rfl⟩
      obtain ⟨vw, hvw⟩ : ∃ vw, vw = (getS k xs).getD ⟨#[]⟩ := ⟨_, rfl⟩
      rw [← hew, ← hvw]
      have HEW := Lib.hid hew; have HVW := Lib.hid hvw
      obtain ⟨W6, hW6⟩ : ∃ W6, W6 = w5.alloc (.cells #[.int .i64 ew, .string vw, .slice none 0 0, .bool false, .string ⟨#[]⟩, .int .i64 0] 37) := ⟨_, rfl⟩
      have hmW6 : Mod NoB Wr W6 := by rw [hW6]; exact hm5.alloc _
      have htold : W6.heap[w5.heap.size]? = some (.cells #[.int .i64 ew, .string vw, .slice none 0 0, .bool false, .string ⟨#[]⟩, .int .i64 0] 37 (0, 0)) := by rw [hW6]; exact heap_alloc_new w5 _
      have T6 := Lib.hid (TT.out.quiet hmW6)
      have hba6 : W6.heap[A]? = some (.cells #[.int .u64 a.f, .int .u64 a.t] 29 (0, 0)) := by rw [hmW6.block _ hAW (fun x => x)]; exact HBA.out
      obtain ⟨g, hg⟩ : ∃ g, g = w5.heap.size := ⟨_, rfl⟩
      rw [← hg] at htold
      have hgW : Wr.heap.size ≤ g := by rw [hg]; exact hm5.size
      have hgx : g ∉ Bx := fun hb => by have := TT.out.1.1.lts _ hb; omega
      have hgy : g ∉ By := fun hb => by have := TT.out.2.1.1.lts _ hb; omega
      have HTD := Lib.hid htold; have HB6 := Lib.hid hba6; have HGW := Lib.hid hgW; have HGX := Lib.hid hgx; have HGY := Lib.hid hgy; have HMW6 := Lib.hid hmW6
      have a6 : W6.cell? ⟨A, 0, none⟩ = some (.int .u64 a.f) := cell_of hba6 0 rfl
      have b6 : W6.cell? ⟨A, 1, none⟩ = some (.int .u64 a.t) := cell_of hba6 1 rfl
      dsimp only [encTold]
      clear hew hvw hm5 hmW6 htold hba6 hgW hgx hgy HBA hAW
      go_upto_region 14 with (fail)
      rw [← hg, ← hW6]
      clear hg hW6
      obtain ⟨trx, nx, hhx, hox⟩ := T6.out.1.1
      have hlen80 : (arcIts a xs).length ≤ 80 := by have := arcIts_len a xs; omega
      have HHX := Lib.hid hhx; have HOX := Lib.hid hox
      clear hhx hox
      go_wp2_with fail
      refine (freeze_whole HHX.out (ep := 0) ⟨rfl, Int.le_refl _⟩ rfl ha (HOX.out.items (by omega)) (by omega)).mono ?_
      rintro e w7 ⟨vo, rfl, hrow, hnew, hh7, ht7⟩
      rw [List.take_of_length_le (show (arcIts a xs).length ≤ 200 by omega)] at hrow
      obtain ⟨av, acap, rfl⟩ : ∃ o cap, vo = .slice o (arcIts a xs).length cap := (ownsRow_form hrow).elim (fun h => ⟨none, 0, by rw [h.1, h.2]⟩) (fun ⟨g, cap, h⟩ => ⟨_, cap, h⟩)
      have hby : Beside w7 (.slice av (arcIts a xs).length acap) (arcIts a xs) By := ⟨hrow, fun q hq hb => by have := (hnew q hq).1; have := T6.out.2.1.1.lts q hb; omega⟩
      have HBY := Lib.hid hby
      have T7 := Lib.hid (T6.out.x (sx' := { stX with shut := true, a := a }) ⟨trx, nx, hh7, HOX.out⟩ ht7)
      have hk7 : ∀ q o, W6.heap[q]? = some o → q ∉ Bx → w7.heap[q]? = some o := fun q o h hq => by rw [ht7.1.block q (Array.getElem?_eq_some_iff.1 h).1 hq]; exact h
      have HA7 := Lib.hid (hk7 A _ HB6.out hABx); have HT7 := Lib.hid (hk7 g _ HTD.out HGX.out)
      have a7 : w7.cell? ⟨A, 0, none⟩ = some (.int .u64 a.f) := cell_of HA7.out 0 rfl
      have b7 : w7.cell? ⟨A, 1, none⟩ = some (.int .u64 a.t) := cell_of HA7.out 1 rfl
      have hg6 : g < W6.heap.size := (Array.getElem?_eq_some_iff.1 HTD.out).1
      have hA6 : A < W6.heap.size := (Array.getElem?_eq_some_iff.1 HB6.out).1
      have hs67 : W6.heap.size ≤ w7.heap.size := ht7.1.size
      have hgx7 : g ∉ Bx := HGX.out
      clear hrow hnew hh7 ht7 hby hk7 a6 b6
      have hperm := putAll_perm (most := 200) (arcIts_nodup (a := a) HRI.out) (fun x hx => HV.out x ((arcIts_iff ha).1 hx).1) (by omega)
      have HPM := Lib.hid hperm
      have HFIT : Hid (∀ (j : Nat) (it : Itm), (arcIts a xs)[j]? = some it → putErr 200 it.1 it.2 (putAll 200 [] ((arcIts a xs).take j)) = 0) := Lib.hid (fun j it h => (hperm j (Nat.le_of_lt (List.getElem?_eq_some_iff.1 h).1)).2.2 it h)
      clear hperm
      go_wp2_with fail
      refine (win_ok (st := stY) T7.out.2.1.1 (a := a) (ep := 1) HBY.out (may_none (by decide) rfl) (fun it h => ((arcIts_iff ha).1 h).2) (by omega) (by decide) (by decide) (by decide) (fun it h => by have := HV.out it ((arcIts_iff ha).1 h).1; omega) HFIT.out).mono ?_
      rintro e w8 ⟨rfl, B8, hh8, ht8⟩
      have T8 := Lib.hid (T7.out.y hh8 ht8)
      have hs78 := ht8.1.size
      have HA8 : Hid (w8.heap[A]? = some (.cells #[.int .u64 a.f, .int .u64 a.t] 29 (0, 0))) := Lib.hid (by rw [ht8.1.block A (Nat.lt_of_lt_of_le hA6 hs67) hABy]; exact HA7.out)
      have HT8 : Hid (w8.heap[g]? = some (.cells #[.int .i64 ew, .string vw, .slice none 0 0, .bool false, .string ⟨#[]⟩, .int .i64 0] 37 (0, 0))) := Lib.hid (by rw [ht8.1.block g (Nat.lt_of_lt_of_le hg6 hs67) HGY.out]; exact HT7.out)
      have hby8 : ∀ q ∈ B8, q ∈ By ∨ w7.heap.size ≤ q := ht8.2
      clear hh8 ht8 a7 b7
      go_wp2_with fail
      refine (lose_I (st := { stX with shut := true, a := a }) T8.out.1.1 rfl 2 ha (by omega) (show (1 : Nat) ≤ 100000 by decide) (show (0 : Nat) ≤ 1000000 by decide)).mono ?_
      rintro e w9 ⟨rfl, B9, hh9, ht9⟩
      have T9 := Lib.hid (T8.out.x hh9 ht9)
      have hA8s := (Array.getElem?_eq_some_iff.1 HA8.out).1
      have hT8s := (Array.getElem?_eq_some_iff.1 HT8.out).1
      have hgB9 : g ∉ B9 := fun hb => (ht9.2 g hb).elim hgx7 (fun h => by omega)
      have hAB9 : A ∉ B9 := fun hb => (ht9.2 A hb).elim hABx (fun h => by omega)
      have HA9 : Hid (w9.heap[A]? = some (.cells #[.int .u64 a.f, .int .u64 a.t] 29 (0, 0))) := Lib.hid (by rw [ht9.1.block A hA8s hABx]; exact HA8.out)
      have HT9 : Hid (w9.heap[g]? = some (.cells #[.int .i64 ew, .string vw, .slice none 0 0, .bool false, .string ⟨#[]⟩, .int .i64 0] 37 (0, 0))) := Lib.hid (by rw [ht9.1.block g hT8s hgx7]; exact HT8.out)
      clear hh9 ht9 hby8
      obtain ⟨sx, hsx⟩ : ∃ sx : HSt, sx = { ({ stX with shut := true, a := a } : HSt) with own := lostTo stX.own (piecesA a), shut := false, a := ⟨0, 0⟩, pts := [] ++ [⟨a.f, a.t, 2, 0⟩] } := ⟨_, rfl⟩
      obtain ⟨sy, hsy⟩ : ∃ sy : HSt, sy = { ownSt stY a 1 with kept := max (stY.kept - (arcIts a xs).length) 0 } := ⟨_, rfl⟩
      have T10 : Hid (TwoH w1 w9 x y sx sy (outS a xs) (putAll 200 [] (arcIts a xs)) B9 B8) := Lib.hid (by rw [hsx, hsy]; exact T9.out)
      have hsat : (sx.at (addr k)).isSome = !inA a (addr k) := lost_whole ha (addr_64 k) sx (by rw [hsx]; rfl)
      have hyat : (sy.at (addr k)).isSome = inA a (addr k) := by
        have h := at_own (st := stY) (ep := 1) ha (addr_64 k)
        rw [hsy]
        refine Eq.trans h ?_
        simp [stY, HSt.at]
      have hsx1 : sx.shut = false := by rw [hsx]
      have hsy1 : sy.shut = false := by rw [hsy]; rfl
      have hsx2 : sx.pts = [⟨a.f, a.t, 2, 0⟩] := by rw [hsx]; rfl
      have hsy2 : sy.pts = [] := by rw [hsy]; rfl
      have HM9 := Lib.hid T9.out.1.2.1
      clear T9 T8 T7 T6 hsx hsy hA8s hT8s hg6 hA6 hs67 hs78
      cases hin : inA a (addr k) with
      | true =>
        rw [hin] at hsat hyat
        have hwh : wherN (sx.whereP (addr k)) = 2 := by
          unfold HSt.whereP
          rw [hsx2]
          have h2 : inA (⟨a.f, a.t⟩ : Arc) (addr k) = true := hin
          simp [Ptr.arc, h2, wherN]
        have hgy : getS k (putAll 200 [] (arcIts a xs)) = getS k xs := won_get ha HRI.out HV.out hx40 hin
        have HIN := Lib.hid hin
        clear hin
        go_wp2_with fail
        refine (get_away T10.out.1.1 k ⟨#[]⟩ ⟨#[]⟩ 0 c2 c3 hsat (by rw [hsx2]; exact (show (1 : Nat) ≤ 1000000 by decide))).mono ?_
        rintro e w10 ⟨rfl, hm10⟩
        rw [hwh]
        have T11 := Lib.hid (T10.out.quiet hm10)
        have HM10 := Lib.hid hm10
        clear hm10
        go_wp2_with fail
        refine (get_open T11.out.2.1.1 k ⟨#[]⟩ ⟨#[]⟩ 0 c2 c3 hyat hsy1).mono ?_
        rintro e w11 ⟨rfl, hm11⟩
        rw [hgy, ← HEW.out, ← HVW.out]
        have HM11 := Lib.hid (HM10.out.trans hm11)
        have T12 := Lib.hid (T11.out.quiet hm11)
        clear hm11 T11 T10
        dsimp only [encTold]
        go_upto_region 18 with (fail)
        obtain ⟨W12, hW12⟩ : ∃ W12, W12 = (w11.alloc (.cells #[.int .i64 8, .string ⟨#[]⟩, .slice none 0 0, .bool false, .string ⟨#[]⟩, .int .i64 2] 37)).alloc (.cells #[.int .i64 ew, .string vw, .slice none 0 0, .bool false, .string ⟨#[]⟩, .int .i64 0] 37) := ⟨_, rfl⟩
        rw [← hW12]
        have hm12 : Mod NoB w9 W12 := by rw [hW12]; exact (HM11.out.alloc _).alloc _
        have hP : W12.heap[w11.heap.size]? = some (.cells #[.int .i64 8, .string ⟨#[]⟩, .slice none 0 0, .bool false, .string ⟨#[]⟩, .int .i64 2] 37 (0, 0)) := by rw [hW12, Below.heap_alloc _ _ _ (by simp)]; exact heap_alloc_new w11 _
        have hQ : W12.heap[w11.heap.size + 1]? = some (.cells #[.int .i64 ew, .string vw, .slice none 0 0, .bool false, .string ⟨#[]⟩, .int .i64 0] 37 (0, 0)) := by rw [hW12]; exact heap_two2 _ _ _
        have hA12 : W12.heap[A]? = some (.cells #[.int .u64 a.f, .int .u64 a.t] 29 (0, 0)) := by rw [hm12.block A (Array.getElem?_eq_some_iff.1 HA9.out).1 (fun x => x)]; exact HA9.out
        have hT12 : W12.heap[g]? = some (.cells #[.int .i64 ew, .string vw, .slice none 0 0, .bool false, .string ⟨#[]⟩, .int .i64 0] 37 (0, 0)) := by rw [hm12.block g (Array.getElem?_eq_some_iff.1 HT9.out).1 (fun x => x)]; exact HT9.out
        have hm1112 : Mod NoB w11 W12 := by rw [hW12]; exact ((Mod.refl _ _).alloc _).alloc _
        have T13 := Lib.hid (T12.out.quiet hm1112)
        have x0 : W12.cell? ⟨A, 0, none⟩ = some (.int .u64 a.f) := cell_of hA12 0 rfl
        have x1 : W12.cell? ⟨A, 1, none⟩ = some (.int .u64 a.t) := cell_of hA12 1 rfl
        have HPP := Lib.hid hP; have HQQ := Lib.hid hQ; have HTT := Lib.hid hT12; have HM12 := Lib.hid hm12
        obtain ⟨gp, hgp⟩ : ∃ gp, gp = w11.heap.size := ⟨_, rfl⟩
        rw [← hgp] at HPP HQQ ⊢
        clear hP hQ hA12 hT12 hm12 hm1112 hW12 T12 hgp
        go_cut [111] (fun s wx => s = .bool true ∧ Mod NoB W12 wx)
        case first =>
          go_region_law ((go_simp; (first | (go_at_call 23; refine (raddr_any k _).mono ?_; rintro e w13 ⟨rfl, rfl⟩) | (go_at_call 20; refine (in_any a (addr k) _).mono ?_; rintro e w13 ⟨rfl, hm13⟩; rw [HIN.out]; have M13 := Lib.hid (Mod.trans (S := NoB) (a := W12) (by repeat (first | exact Mod.refl _ _ | refine Mod.alloc ?_ _ | refine Mod.drew ?_ | refine Mod.drewN ?_ _)) hm13); clear hm13))))
          all_goals
            go_wp2_with fail
            go_meet
            exact ⟨rfl, M13.out.trans (by repeat (first | exact Mod.refl _ _ | refine Mod.alloc ?_ _ | refine Mod.drew ?_ | refine Mod.drewN ?_ _))⟩
        case rest =>
          obtain ⟨rfl, hm⟩ := hcut
          obtain ⟨W14, rfl⟩ : ∃ W14 : World, W14 = wc := ⟨_, rfl⟩
          have hk14 : ∀ q o, W12.heap[q]? = some o → W14.heap[q]? = some o := fun q o h => by rw [hm.block q (Array.getElem?_eq_some_iff.1 h).1 (fun x => x)]; exact h
          obtain ⟨p0, p1, p2, p3, p4, p5⟩ := told6g (hk14 _ _ HPP.out)
          obtain ⟨q0, q1, q2, q3, q4, q5⟩ := told6g (hk14 _ _ HQQ.out)
          obtain ⟨t0, t1, t2, t3, t4, t5⟩ := told6g (hk14 _ _ HTT.out)
          have T14 := Lib.hid (T13.out.quiet hm)
          have HM14 := Lib.hid (HM12.out.trans hm)
          clear hm hk14 x0 x1
          obtain ⟨trq, nq2, hhq, hoq⟩ := T14.out.2.1.1
          have HHQ := Lib.hid hhq
          clear hhq hoq
          have hfin : Mod NoB w W14 := (M1.out.trans HM9.out).trans HM14.out
          have HFIN := Lib.hid hfin
          clear hfin
          go_wp2_with (first
            | (go_at_call 15; refine (sameTold_refl2 ew 0 vw _).mono ?_; rintro en w15 ⟨rfl, hm15⟩; have HM15 := Lib.hid hm15; clear hm15)
            | (go_at_call 23; refine (raddr_any k _).mono ?_; rintro en w16 ⟨rfl, rfl⟩)
            | (go_at_call 19; refine (hasH_any (HHQ.out.mod HM15.out (fun _ _ x => x)) (addr k)).mono ?_; rintro en w17 ⟨rfl, hm17⟩; rw [hyat]; have HM17 := Lib.hid hm17; clear hm17))
          go_ret
          exact ⟨rfl, (HFIN.out.trans HM15.out).trans HM17.out⟩
      | false =>
        rw [hin] at hsat hyat
        have hwh : wherN (sy.whereP (addr k)) = -1 := by
          unfold HSt.whereP
          rw [hsy2]
          rfl
        have hgy : getS k (outS a xs) = getS k xs := kept_get ha hin
        have HIN := Lib.hid hin
        clear hin
        go_wp2_with fail
        refine (get_open T10.out.1.1 k ⟨#[]⟩ ⟨#[]⟩ 0 c2 c3 hsat hsx1).mono ?_
        rintro e w10 ⟨rfl, hm10⟩
        rw [hgy, ← HEW.out, ← HVW.out]
        have T11 := Lib.hid (T10.out.quiet hm10)
        have HM10 := Lib.hid hm10
        clear hm10
        go_wp2_with fail
        refine (get_away T11.out.2.1.1 k ⟨#[]⟩ ⟨#[]⟩ 0 c2 c3 hyat (by rw [hsy2]; decide)).mono ?_
        rintro e w11 ⟨rfl, hm11⟩
        rw [hwh]
        have HM11 := Lib.hid (HM10.out.trans hm11)
        have T12 := Lib.hid (T11.out.quiet hm11)
        clear hm11 T11 T10
        dsimp only [encTold]
        go_upto_region 18 with (fail)
        obtain ⟨W12, hW12⟩ : ∃ W12, W12 = (w11.alloc (.cells #[.int .i64 ew, .string vw, .slice none 0 0, .bool false, .string ⟨#[]⟩, .int .i64 0] 37)).alloc (.cells #[.int .i64 8, .string ⟨#[]⟩, .slice none 0 0, .bool false, .string ⟨#[]⟩, .int .i64 (-1)] 37) := ⟨_, rfl⟩
        rw [← hW12]
        have hm12 : Mod NoB w9 W12 := by rw [hW12]; exact (HM11.out.alloc _).alloc _
        have hP : W12.heap[w11.heap.size]? = some (.cells #[.int .i64 ew, .string vw, .slice none 0 0, .bool false, .string ⟨#[]⟩, .int .i64 0] 37 (0, 0)) := by rw [hW12, Below.heap_alloc _ _ _ (by simp)]; exact heap_alloc_new w11 _
        have hQ : W12.heap[w11.heap.size + 1]? = some (.cells #[.int .i64 8, .string ⟨#[]⟩, .slice none 0 0, .bool false, .string ⟨#[]⟩, .int .i64 (-1)] 37 (0, 0)) := by rw [hW12]; exact heap_two2 _ _ _
        have hA12 : W12.heap[A]? = some (.cells #[.int .u64 a.f, .int .u64 a.t] 29 (0, 0)) := by rw [hm12.block A (Array.getElem?_eq_some_iff.1 HA9.out).1 (fun x => x)]; exact HA9.out
        have hT12 : W12.heap[g]? = some (.cells #[.int .i64 ew, .string vw, .slice none 0 0, .bool false, .string ⟨#[]⟩, .int .i64 0] 37 (0, 0)) := by rw [hm12.block g (Array.getElem?_eq_some_iff.1 HT9.out).1 (fun x => x)]; exact HT9.out
        have hm1112 : Mod NoB w11 W12 := by rw [hW12]; exact ((Mod.refl _ _).alloc _).alloc _
        have T13 := Lib.hid (T12.out.quiet hm1112)
        have x0 : W12.cell? ⟨A, 0, none⟩ = some (.int .u64 a.f) := cell_of hA12 0 rfl
        have x1 : W12.cell? ⟨A, 1, none⟩ = some (.int .u64 a.t) := cell_of hA12 1 rfl
        have HPP := Lib.hid hP; have HQQ := Lib.hid hQ; have HTT := Lib.hid hT12; have HM12 := Lib.hid hm12
        obtain ⟨gp, hgp⟩ : ∃ gp, gp = w11.heap.size := ⟨_, rfl⟩
        rw [← hgp] at HPP HQQ ⊢
        clear hP hQ hA12 hT12 hm12 hm1112 hW12 T12 hgp
        go_cut [111] (fun s wx => s = .bool false ∧ Mod NoB W12 wx)
        case first =>
          go_region_law ((go_simp; (first | (go_at_call 23; refine (raddr_any k _).mono ?_; rintro e w13 ⟨rfl, rfl⟩) | (go_at_call 20; refine (in_any a (addr k) _).mono ?_; rintro e w13 ⟨rfl, hm13⟩; rw [HIN.out]; have M13 := Lib.hid (Mod.trans (S := NoB) (a := W12) (by repeat (first | exact Mod.refl _ _ | refine Mod.alloc ?_ _ | refine Mod.drew ?_ | refine Mod.drewN ?_ _)) hm13); clear hm13))))
          all_goals
            go_wp2_with fail
            go_meet
            exact ⟨rfl, M13.out.trans (by repeat (first | exact Mod.refl _ _ | refine Mod.alloc ?_ _ | refine Mod.drew ?_ | refine Mod.drewN ?_ _))⟩
        case rest =>
          obtain ⟨rfl, hm⟩ := hcut
          obtain ⟨W14, rfl⟩ : ∃ W14 : World, W14 = wc := ⟨_, rfl⟩
          have hk14 : ∀ q o, W12.heap[q]? = some o → W14.heap[q]? = some o := fun q o h => by rw [hm.block q (Array.getElem?_eq_some_iff.1 h).1 (fun x => x)]; exact h
          obtain ⟨p0, p1, p2, p3, p4, p5⟩ := told6g (hk14 _ _ HPP.out)
          obtain ⟨q0, q1, q2, q3, q4, q5⟩ := told6g (hk14 _ _ HQQ.out)
          obtain ⟨t0, t1, t2, t3, t4, t5⟩ := told6g (hk14 _ _ HTT.out)
          have T14 := Lib.hid (T13.out.quiet hm)
          have HM14 := Lib.hid (HM12.out.trans hm)
          clear hm hk14 x0 x1
          have hfin : Mod NoB w W14 := (M1.out.trans HM9.out).trans HM14.out
          have HFIN := Lib.hid hfin
          clear hfin
          go_wp2_with (first
            | (go_at_call 15; refine (sameTold_refl2 ew 0 vw _).mono ?_; rintro en w15 ⟨rfl, hm15⟩; have y0 := hm15.cellS q0; have y5 := hm15.cellS q5; have HM15 := Lib.hid hm15; clear hm15))
          go_ret
          exact ⟨rfl, HFIN.out.trans HM15.out⟩
end Go.Proofs.YtmagddchjidamaaGreatDoor
