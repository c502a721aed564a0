/- TruthSteps: what was there at a step is what the events up to it come to; at the last one all of them; for every input; no condition. -/
import Derived.Test.YtcpbcggfbopobaaRows
import Derived.Test.YtcpbcggfbopobaaArgs
import Derived.Test.YtcpbcggfbopobaaTruthPlain
import Derived.Test.YtcpbcggfbopobaaTruthAlive
import Derived.Test.YtcpbcggfbopobaaSame
import Derived.Deep.RegionHeld3
namespace Go.Proofs.Ytcpbcggfbopobaa
open Go.ChangeShapes Go.WideShapes Go.ChangeAt Go.RowKit Go.Proofs

/-- the events looked at so far are in order -/
def Ord2 (l : List Ev) (k : Nat) : Prop :=
  (∀ i a b, i + 1 < k → l[i]? = some a → l[i + 1]? = some b → a.step ≤ b.step) ∧ (∀ i a, i < k → l[i]? = some a → 0 ≤ a.step ∧ a.step ≤ 1099511627776)

def StepsRel1 (l : List Ev) (w : World) (i : Value) (wr : World) : Prop :=
  ∃ k : Nat, k ≤ l.length ∧ i = .int .i64 k ∧ Ord2 l k ∧ Mod NoB w wr

theorem ord2_step {l : List Ev} {j : Nat} {e : Ev} (h : Ord2 l j) (he : l[j]? = some e) (hg : 0 ≤ e.step ∧ e.step ≤ 1099511627776)
    (hp : j = 0 ∨ ∃ p, l[j - 1]? = some p ∧ p.step ≤ e.step) : Ord2 l (j + 1) := by
  refine ⟨fun i a b hi ha hb => ?_, fun i a hi ha => ?_⟩
  · by_cases hij : i + 1 < j
    · exact h.1 i a b hij ha hb
    · have hij2 : i + 1 = j := by omega
      rcases hp with hp | ⟨p, hp, hle⟩
      · omega
      · rw [hij2, he] at hb
        rw [show j - 1 = i from by omega, ha] at hp
        cases hb; cases hp
        exact hle
  · by_cases hij : i < j
    · exact h.2 i a hij ha
    · have : i = j := by omega
      subst this
      rw [he] at ha; cases ha
      exact hg

theorem ord2_sorted {l : List Ev} (h : ∀ i a b, i + 1 < l.length → l[i]? = some a → l[i + 1]? = some b → a.step ≤ b.step) : l.Pairwise (fun a b => a.step ≤ b.step) := by
  induction l with
  | nil => exact List.Pairwise.nil
  | cons e l ih =>
    have ih' := ih (fun i a b hi ha hb => h (i + 1) a b (by simp; omega) (by simpa using ha) (by simpa using hb))
    refine List.pairwise_cons.2 ⟨fun x hx => ?_, ih'⟩
    cases l with
    | nil => cases hx
    | cons y l =>
      have h0 := h 0 e y (by simp) rfl rfl
      rcases List.mem_cons.1 hx with rfl | hx
      · exact h0
      · have := (List.pairwise_cons.1 ih').1 x hx
        omega

/-- how many events lie at a step or ahead of it, counted so far -/
def StepsRel2 (step : Int) (l : List Ev) (w : World) (i : Value) (wr : World) : Prop :=
  ∃ n : Nat, n ≤ l.length ∧ i = .int .i64 n ∧ (∀ i e, i < n → l[i]? = some e → e.step ≤ step) ∧ w = wr

theorem upTo_all {s : Int} (l : List Ev) (h : ∀ (i : Nat) (e : Ev), l[i]? = some e → e.step ≤ s) : upTo s l = l := by
  unfold upTo
  rw [List.filter_eq_self]
  intro e he
  obtain ⟨i, hi⟩ := List.mem_iff_getElem?.1 he
  simpa using h i e hi
theorem upTo_none {s : Int} (l : List Ev) (h : ∀ (i : Nat) (e : Ev), l[i]? = some e → ¬ e.step ≤ s) : upTo s l = [] := by
  unfold upTo
  rw [List.filter_eq_nil_iff]
  intro e he
  obtain ⟨i, hi⟩ := List.mem_iff_getElem?.1 he
  simpa using h i e hi
/-- two sorted lists of the items of one map are alike -/
theorem sameItems_alike (m xs1 xs2 : SMap) (hk : Keys m) (hp1 : xs1.Perm m) (hs1 : SortedS xs1) (hp2 : xs2.Perm m) (hs2 : SortedS xs2) (hlen : m.length ≤ 1000000) (v1 v2 : Value) (w : World) (h1 : ItemsAt w v1 xs1) (h2 : ItemsAt w v2 xs2) :
    Calls Try.prog 15 #[v1, v2] w fun e w' => e = .returned (.bool true) ∧ Mod NoB w w' := by
  have hk1 : (xs1.map (·.1)).Nodup := ((hp1.map (fun x : ByteArray × ByteArray => x.1)).nodup_iff).2 hk
  obtain rfl := sorted_perm_eq (hp1.trans hp2.symm) hs1 hs2 hk1
  exact sameItems_eq xs1 v1 v2 w h1 h2 (by rw [hp1.length_eq]; exact hlen)

theorem rd_cap {w : World} {e : Shp} {v : Value} (h : RdV w (.sl e) v) : ∀ a len cap, v = .slice a len cap → len ≤ cap := by
  intro a len cap hv
  rcases rd_slice h with rfl | ⟨a', len', cap', rfl, hl, _⟩
  · simp only [Value.slice.injEq] at hv
    omega
  · simp only [Value.slice.injEq] at hv
    omega

theorem SlAt.take {α : Type} {k : Nat} {enc : α → List Value} {w : World} {a : Option Addr} {cap : Nat} {l : List α} (h : SlAt k enc w (.slice a l.length cap) l) {n : Nat} (hn : n ≤ l.length) :
    SlAt k enc w (.slice a n cap) (l.take n) := by
  obtain ⟨a', cap', hv, hx⟩ := h
  simp only [Value.slice.injEq] at hv
  obtain ⟨rfl, _, rfl⟩ := hv
  refine ⟨a, cap, by rw [List.length_take, Nat.min_eq_left hn], fun i x hi => hx i x ?_⟩
  rw [List.getElem?_take] at hi
  split at hi
  · exact hi
  · cases hi

set_option maxRecDepth 100000 in
set_option maxHeartbeats 4000000 in
theorem steps_walk (l : List Ev) (v : Value) (k : Int) (w : World) (h : EvsAt w v l) (hll : l.length ≤ 9223372036854775807) (hcap : ∀ a len cap, v = .slice a len cap → len ≤ cap) :
    Calls Try.prog 7 #[v, .int .i64 k] w fun e w' => e = .returned (.bool true) ∧ Mod NoB w w' := by
  obtain ⟨a, cap, rfl, hx⟩ := id h
  have HE := Lib.hid h; clear h
  clear hx
  have hcp := hcap _ _ _ rfl
  clear hcap
  go_enter Try.func7, Try.ntmps7
  go_wp2_with fail
  refine (light_any l _ _ HE.out hll).mono ?_; rintro e w' ⟨b, rfl, hb, rfl⟩
  cases b with
  | false =>
    clear hb
    go_wp2_with fail
    refine (truthAlive _).mono ?_; rintro e w1 ⟨rfl, hm⟩
    go_wp2_with fail
    go_ret
    exact ⟨rfl, hm⟩
  | true =>
    have hl : l.length ≤ 200 := hb rfl
    clear hb
    go_wp2_with fail
    refine (truthAlive _).mono ?_; rintro e w1 ⟨rfl, hm1⟩
    go_wp2_with fail
    have HM1 := Lib.hid hm1; clear hm1
    go_loopw [17] (fun i wr => StepsRel1 l w i wr) (fun i _ => l.length - (intOf i).toNat)
    case atStart => exact ⟨0, Nat.zero_le _, rfl, ⟨fun i _ _ hi => absurd hi (by omega), fun i _ hi => absurd hi (by omega)⟩, HM1.out⟩
    case round =>
      obtain ⟨j, hj, rfl, ho, hm⟩ := hrel
      have HO := Lib.hid ho; clear ho
      have HM := Lib.hid hm; clear hm HM1
      by_cases hlt : j < l.length
      · have he : l[j]? = some l[j] := List.getElem?_eq_getElem hlt
        obtain ⟨b, o, cap', hv, hbl, c0, _⟩ := (HE.out.mod HM.out).at15 he
        have HE0 := Lib.hid he
        generalize l[j] = e at *
        clear he
        simp only [Value.slice.injEq] at hv
        obtain ⟨rfl, _, rfl⟩ := hv
        have hi0 : (0 : Int) ≤ j := by omega
        have hi1 : (j : Int) < l.length := by omega
        by_cases h0 : e.step < 0
        · have d0 : decide (e.step < 0) = true := by simpa using h0
          go_wp2_with fail
          go_quiet (fail)
          go_wp2_with fail
          go_ret
          exact ⟨rfl, HM.out.drewN _⟩
        · have d0 : decide (e.step < 0) = false := by simpa using h0
          by_cases h1 : 1099511627776 < e.step
          · have d1 : decide (1099511627776 < e.step) = true := by simpa using h1
            go_wp2_with fail
            go_quiet (fail)
            go_wp2_with fail
            go_ret
            exact ⟨rfl, HM.out.drewN _⟩
          · have d1 : decide (1099511627776 < e.step) = false := by simpa using h1
            have hgood : Hid (0 ≤ e.step ∧ e.step ≤ 1099511627776) := ⟨by omega, by omega⟩
            by_cases hj0 : j = 0
            · have d2 : decide (0 < j) = false := by simp; omega
              have HJ := Lib.hid hj0; clear hj0
              go_wp2_with fail
              go_quiet (fail)
              go_wp2_with fail
              exact ⟨⟨j + 1, by omega, by go_num, ord2_step HO.out HE0.out hgood.out (.inl HJ.out), HM.out.drewN _⟩, by simp [intOf]; omega⟩
            · have d2 : decide (0 < j) = true := by simp; omega
              obtain ⟨p, hp⟩ : ∃ p, l[j - 1]? = some p := ⟨_, List.getElem?_eq_getElem (by omega)⟩
              obtain ⟨b2, o2, cap2, hv2, _, q0, _⟩ := (HE.out.mod HM.out).at15 hp
              simp only [Value.slice.injEq, Option.some.injEq, Addr.mk.injEq] at hv2
              obtain ⟨⟨rfl, rfl, _⟩, _, rfl⟩ := hv2
              have HP := Lib.hid hp; clear hp
              have hi2 : (0 : Int) ≤ (j : Int) - 1 := by omega
              have hi3 : (j : Int) - 1 < l.length := by omega
              by_cases hps : e.step < p.step
              · have d3 : decide (e.step < p.step) = true := by simpa using hps
                go_wp2_with fail
                go_quiet (fail)
                go_wp2_with fail
                go_ret
                exact ⟨rfl, HM.out.drewN _⟩
              · have d3 : decide (e.step < p.step) = false := by simpa using hps
                go_wp2_with fail
                go_quiet (fail)
                go_wp2_with fail
                exact ⟨⟨j + 1, by omega, by go_num, ord2_step HO.out HE0.out hgood.out (.inr ⟨p, HP.out, by omega⟩), HM.out.drewN _⟩, by simp [intOf]; omega⟩
      · obtain rfl : j = l.length := by omega
        have hsort := Lib.hid (ord2_sorted HO.out.1)
        have hrng := Lib.hid (fun i (e : Ev) (he : l[i]? = some e) => HO.out.2 i e (List.getElem?_eq_some_iff.1 he).1 he)
        have EW := Lib.hid (HE.out.mod HM.out)
        clear HE HO
        go_wp2_with fail
        go_loopw [6] (fun i wr2 => StepsRel2 k l wr i wr2) (fun i _ => l.length - (intOf i).toNat)
        case atStart => exact ⟨0, Nat.zero_le _, rfl, fun i e hi => absurd hi (by omega), rfl⟩
        case round =>
          obtain ⟨n, hn, rfl, hle, rfl⟩ := hrel
          have HL := Lib.hid hle; clear hle
          by_cases hgo : ∃ hlt : n < l.length, l[n].step ≤ k
          · obtain ⟨hlt, hsk⟩ := hgo
            have he : l[n]? = some l[n] := List.getElem?_eq_getElem hlt
            obtain ⟨b, o, cap', hv, hbl, c0, _⟩ := EW.out.at15 he
            have HN : Hid (∀ i e, i < n + 1 → l[i]? = some e → e.step ≤ k) := by
              intro i e hi hie
              by_cases hin : i < n
              · exact HL.out i e hin hie
              · have : i = n := by omega
                subst this
                rw [he] at hie; cases hie; exact hsk
            generalize l[n] = e at *
            clear he
            simp only [Value.slice.injEq] at hv
            obtain ⟨rfl, _, rfl⟩ := hv
            have hi0 : (0 : Int) ≤ n := by omega
            have hi1 : (n : Int) < l.length := by omega
            go_wp2_with fail
            exact ⟨⟨n + 1, by omega, by go_num, HN.out, rfl⟩, by simp [intOf]; omega⟩
          · have HT : Hid (upTo k l = l.take n) := by
              refine upTo_take k l n hn HL.out (fun i e hi hie hle => ?_)
              have hil := (List.getElem?_eq_some_iff.1 hie).1
              refine hgo ⟨by omega, ?_⟩
              by_cases hin : i = n
              · subst hin
                rw [List.getElem?_eq_getElem hil] at hie
                cases hie; exact hle
              · have := List.pairwise_iff_getElem.1 hsort.out n i (by omega) hil (by omega)
                rw [List.getElem?_eq_getElem hil] at hie
                cases hie
                omega
            have hge : ∀ hlt : n < l.length, ¬ l[n].step ≤ k := fun hlt h => hgo ⟨hlt, h⟩
            clear hgo
            have TW := Lib.hid (EW.out.take hn)
            have hn0 : (0 : Int) ≤ n := by omega
            have hn1 : (n : Int) ≤ l.length := by omega
            have hn2 : (n : Int) ≤ cap := by omega
            have hn3 : n ≤ cap := by omega
            by_cases hlt : n < l.length
            · have he : l[n]? = some l[n] := List.getElem?_eq_getElem hlt
              obtain ⟨b, o, cap', hv, hbl, c0, _⟩ := EW.out.at15 he
              have hsk := hge hlt
              clear hge
              generalize l[n] = e at *
              clear he
              simp only [Value.slice.injEq] at hv
              obtain ⟨rfl, _, rfl⟩ := hv
              have hi1 : (n : Int) < l.length := by omega
              go_wp2_with fail
              have hD : Mod NoB wr wr.drew := (Mod.refl _ _).drew
              have E1 := Lib.hid (EW.out.mod hD)
              have T1 := Lib.hid (TW.out.mod hD)
              have HD := Lib.hid (HM.out.trans hD)
              clear hD hn
              have hl6 : l.length ≤ 1000000 := by omega
              have ht6 : (l.take n).length ≤ 1000000 := by rw [List.length_take]; omega
              have HT2 : foldM (upTo k l) = foldM (l.take n) := by rw [HT.out]
              have HU2 : foldM (upTo 2199023255552 l) = foldM l := by rw [upTo_all l fun i e he => by have := hrng.out i e he; omega]
              have HV2 : foldM (upTo (-1) l) = [] := by rw [upTo_none l fun i e he => by have := hrng.out i e he; omega]; rfl
              have HT := Lib.hid HT2; clear HT2
              have HU := Lib.hid HU2; clear HU2
              have HV := Lib.hid HV2; clear HV2
              go_region_held3 (fun _ => True) (exact trivial) ((first
                | ((fail_if_success (revert M1)); go_at_call 18; refine (at_any k l _ _ E1.out hl6).mono ?_; rintro e w2 ⟨r1, xs1, rfl, hp1, hs1, hx1, hm1⟩
                   rw [HT.out] at hp1
                   have P1 := Lib.hid hp1; clear hp1; have S1 := Lib.hid hs1; clear hs1; have X1 := Lib.hid hx1; clear hx1; have M1 := Lib.hid hm1; clear hm1)
                | ((fail_if_success (revert M2)); go_at_call 16; refine (fold_any (l.take n) _ _ (T1.out.mod M1.out) ht6).mono ?_; rintro e w3 ⟨r2, xs2, rfl, hp1, hs1, hx1, hm1⟩
                   have P2 := Lib.hid hp1; clear hp1; have S2 := Lib.hid hs1; clear hs1; have X2 := Lib.hid hx1; clear hx1; have M2 := Lib.hid hm1; clear hm1)
                | ((fail_if_success (revert M4)); go_at_call 15; refine (sameItems_alike _ _ _ (keys_fold (l.take n)) P1.out S1.out P2.out S2.out (Nat.le_trans (foldM_len _) ht6) _ _ _ (X1.out.mod M2.out) X2.out).mono ?_; rintro e w4 ⟨rfl, hm1⟩
                   have M4 := Lib.hid (M1.out.trans (M2.out.trans hm1)); clear hm1)
                | ((fail_if_success (revert M5)); go_at_call 18; refine (at_any 2199023255552 l _ _ (E1.out.mod M4.out) hl6).mono ?_; rintro e w5 ⟨r5, xs5, rfl, hp1, hs1, hx1, hm1⟩
                   rw [HU.out] at hp1
                   have P5 := Lib.hid hp1; clear hp1; have S5 := Lib.hid hs1; clear hs1; have X5 := Lib.hid hx1; clear hx1; have M5 := Lib.hid hm1; clear hm1)
                | ((fail_if_success (revert M6)); go_at_call 16; refine (fold_any l _ _ (E1.out.mod (M4.out.trans M5.out)) hl6).mono ?_; rintro e w6 ⟨r6, xs6, rfl, hp1, hs1, hx1, hm1⟩
                   have P6 := Lib.hid hp1; clear hp1; have S6 := Lib.hid hs1; clear hs1; have X6 := Lib.hid hx1; clear hx1; have M6 := Lib.hid hm1; clear hm1)
                | ((fail_if_success (revert M7)); go_at_call 15; refine (sameItems_alike _ _ _ (keys_fold l) P5.out S5.out P6.out S6.out (Nat.le_trans (foldM_len _) hl6) _ _ _ (X5.out.mod M6.out) X6.out).mono ?_; rintro e w7 ⟨rfl, hm1⟩
                   have M7 := Lib.hid ((M4.out.trans M5.out).trans (M6.out.trans hm1)); clear hm1)
                | ((fail_if_success (revert M8)); go_at_call 18; refine (at_any (-1) l _ _ (E1.out.mod M7.out) hl6).mono ?_; rintro e w8 ⟨r8, xs8, rfl, hp1, hs1, hx1, hm1⟩
                   have h0 : xs8 = [] := by rw [HV.out] at hp1; exact hp1.eq_nil
                   have M8 := Lib.hid (M7.out.trans hm1); clear hm1 hs1 hp1
                   subst h0
                   obtain ⟨a8, cap8, rfl, hx8⟩ := hx1
                   clear hx8)))
              all_goals go_wp2_with fail
              go_ret
              exact ⟨rfl, HD.out.trans M8.out⟩
            · have hnl : n = l.length := by omega
              clear hge
              subst hnl
              go_wp2_with fail
              have hD : Mod NoB wr wr.drew := (Mod.refl _ _).drew
              have E1 := Lib.hid (EW.out.mod hD)
              have T1 := Lib.hid (TW.out.mod hD)
              have HD := Lib.hid (HM.out.trans hD)
              clear hD hn
              have hl6 : l.length ≤ 1000000 := by omega
              have ht6 : (l.take l.length).length ≤ 1000000 := by rw [List.length_take]; omega
              have HT2 : foldM (upTo k l) = foldM (l.take l.length) := by rw [HT.out]
              have HU2 : foldM (upTo 2199023255552 l) = foldM l := by rw [upTo_all l fun i e he => by have := hrng.out i e he; omega]
              have HV2 : foldM (upTo (-1) l) = [] := by rw [upTo_none l fun i e he => by have := hrng.out i e he; omega]; rfl
              have HT := Lib.hid HT2; clear HT2
              have HU := Lib.hid HU2; clear HU2
              have HV := Lib.hid HV2; clear HV2
              go_region_held3 (fun _ => True) (exact trivial) ((first
                | ((fail_if_success (revert M1)); go_at_call 18; refine (at_any k l _ _ E1.out hl6).mono ?_; rintro e w2 ⟨r1, xs1, rfl, hp1, hs1, hx1, hm1⟩
                   rw [HT.out] at hp1
                   have P1 := Lib.hid hp1; clear hp1; have S1 := Lib.hid hs1; clear hs1; have X1 := Lib.hid hx1; clear hx1; have M1 := Lib.hid hm1; clear hm1)
                | ((fail_if_success (revert M2)); go_at_call 16; refine (fold_any (l.take l.length) _ _ (T1.out.mod M1.out) ht6).mono ?_; rintro e w3 ⟨r2, xs2, rfl, hp1, hs1, hx1, hm1⟩
                   have P2 := Lib.hid hp1; clear hp1; have S2 := Lib.hid hs1; clear hs1; have X2 := Lib.hid hx1; clear hx1; have M2 := Lib.hid hm1; clear hm1)
                | ((fail_if_success (revert M4)); go_at_call 15; refine (sameItems_alike _ _ _ (keys_fold (l.take l.length)) P1.out S1.out P2.out S2.out (Nat.le_trans (foldM_len _) ht6) _ _ _ (X1.out.mod M2.out) X2.out).mono ?_; rintro e w4 ⟨rfl, hm1⟩
                   have M4 := Lib.hid (M1.out.trans (M2.out.trans hm1)); clear hm1)
                | ((fail_if_success (revert M5)); go_at_call 18; refine (at_any 2199023255552 l _ _ (E1.out.mod M4.out) hl6).mono ?_; rintro e w5 ⟨r5, xs5, rfl, hp1, hs1, hx1, hm1⟩
                   rw [HU.out] at hp1
                   have P5 := Lib.hid hp1; clear hp1; have S5 := Lib.hid hs1; clear hs1; have X5 := Lib.hid hx1; clear hx1; have M5 := Lib.hid hm1; clear hm1)
                | ((fail_if_success (revert M6)); go_at_call 16; refine (fold_any l _ _ (E1.out.mod (M4.out.trans M5.out)) hl6).mono ?_; rintro e w6 ⟨r6, xs6, rfl, hp1, hs1, hx1, hm1⟩
                   have P6 := Lib.hid hp1; clear hp1; have S6 := Lib.hid hs1; clear hs1; have X6 := Lib.hid hx1; clear hx1; have M6 := Lib.hid hm1; clear hm1)
                | ((fail_if_success (revert M7)); go_at_call 15; refine (sameItems_alike _ _ _ (keys_fold l) P5.out S5.out P6.out S6.out (Nat.le_trans (foldM_len _) hl6) _ _ _ (X5.out.mod M6.out) X6.out).mono ?_; rintro e w7 ⟨rfl, hm1⟩
                   have M7 := Lib.hid ((M4.out.trans M5.out).trans (M6.out.trans hm1)); clear hm1)
                | ((fail_if_success (revert M8)); go_at_call 18; refine (at_any (-1) l _ _ (E1.out.mod M7.out) hl6).mono ?_; rintro e w8 ⟨r8, xs8, rfl, hp1, hs1, hx1, hm1⟩
                   have h0 : xs8 = [] := by rw [HV.out] at hp1; exact hp1.eq_nil
                   have M8 := Lib.hid (M7.out.trans hm1); clear hm1 hs1 hp1
                   subst h0
                   obtain ⟨a8, cap8, rfl, hx8⟩ := hx1
                   clear hx8)))
              all_goals go_wp2_with fail
              go_ret
              exact ⟨rfl, HD.out.trans M8.out⟩


set_option maxRecDepth 100000 in
theorem truthSteps_lifted (os : Os) (started : os.Started) (H : Type) (enc : TypeId × Value → H) :
    ReturnsInHanded {} Try.checked os 7 .any (Rows.truthStepsSpec.pre6 enc Try.prog Try.f7 Rows.truthStepsRow.domain false) (Rows.truthStepsSpec.post enc Try.prog Try.f7 false true false false) := by
  refine returnsInHanded_of_change (C := Try.checked) progOwn started (by kernel_rfl) Try.func7
    (ChangeSpec.witness6 (enc := enc) (C := Try.checked) false ⟨#[], #[.slice none 0 0, .int .i64 0], []⟩ 8 (by kernel_rfl) (by kernel_rfl) (by kernel_rfl) (by kernel_rfl)) ?_
  intro W base args ds gs before hval hW _ _
  refine law_post (P := Try.prog) (B := 4) (fun ds h => ?_) rfl rfl (by kernel_rfl) (by kernel_rfl) progLaid hW ?_
  · match ds, h with
    | [_, _], _ => rfl
  · obtain ⟨p, q, hA, _⟩ := hW
    have hR := rdAll_of_trod (P := Try.prog) [.sl evShp, .i .i64] (by kernel_rfl) rfl (fun j t v h1 h2 => hval j t v (by simpa using h1) (by simpa using h2)) hA
    obtain ⟨l⟩ := args
    obtain ⟨v0, vs, rfl, h0, hR⟩ := hR
    obtain ⟨v1, vs, rfl, h1, hR⟩ := hR
    obtain rfl := hR
    obtain ⟨l, hl, hll⟩ := evsAt_of_rd h0
    obtain ⟨k, rfl, _⟩ := rd_int h1
    exact (steps_walk l v0 k W hl hll (rd_cap h0)).mono fun _ _ ⟨he, hm⟩ => ⟨he, hm.below_self⟩

theorem truthSteps_over : Rows.truthStepsRow.holds Try.pinned (OpenSpec.ofChange Rows.truthStepsSpec) :=
  OpenClaim.holds_of_wide 7 Try.f7 rfl rfl rfl rfl rfl rfl rfl ⟨rfl, rfl, rfl, rfl, rfl⟩ rfl rfl rfl rfl rfl (by kernel_rfl) Try.func7 (by kernel_rfl)
    (of_decide_eq_true (by kernel_rfl)) (by unfold Func.isWrapper; first | (rw [if_pos (by decide +kernel)]; kernel_rfl) | (rw [if_neg (by decide +kernel)]; exact ⟨rfl, rfl⟩))
    (fun os started H enc _ => truthSteps_lifted os started H enc)

theorem truthSteps_proved : Rows.TruthStepsSaid := truthSteps_over
end Go.Proofs.Ytcpbcggfbopobaa
