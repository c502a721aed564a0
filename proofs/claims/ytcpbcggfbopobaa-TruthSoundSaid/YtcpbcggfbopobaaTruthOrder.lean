/- TruthOrder: events of unlike keys may change places: they come to the same; for every input; no condition. -/
import Derived.Test.YtcpbcggfbopobaaRows
import Derived.Test.YtcpbcggfbopobaaTruthSteps
import Derived.Test.YtcpbcggfbopobaaTruthSwap
import Derived.BigRegion
namespace Go.Proofs.Ytcpbcggfbopobaa
open Go.ChangeShapes Go.WideShapes Go.ChangeAt Go.RowKit Go.Proofs

theorem evInfo : (Try.prog.info? 44).map (fun i => (i.zero.map (·.cells.size), i.size, decide (i.bytes ≤ 1000))) = some (some 15, 15, true) := by kernel_rfl
theorem evInfo_parts : ∃ i z, Try.prog.info? 44 = some i ∧ i.zero = some z ∧ i.size = 15 ∧ z.cells.size = 15 ∧ i.bytes ≤ 1000 := by
  have h := evInfo
  cases hi : Try.prog.info? 44 with
  | none => rw [hi] at h; cases h
  | some i =>
    rw [hi] at h
    simp only [Option.map_some, Option.some.injEq, Prod.mk.injEq, decide_eq_true_eq, Option.map_eq_some_iff] at h
    obtain ⟨⟨z, hz, hzs⟩, hs, hb⟩ := h
    exact ⟨i, z, rfl, hz, hs, hzs, hb⟩
theorem tyEvs : Try.prog.underlying 35 = some (.slice 44) := by kernel_rfl
theorem evRow : ∃ d, Try.prog.underlying 44 = some d ∧ d.isRow = true := by
  have h : (Try.prog.underlying 44).map (·.isRow) = some true := by kernel_rfl
  cases hd : Try.prog.underlying 44 with
  | none => rw [hd] at h; cases h
  | some d => rw [hd] at h; simp at h; exact ⟨d, rfl, h⟩
theorem evSize : (Try.prog.info? 44).map (·.size) = some 15 := by kernel_rfl

theorem flat_at {α : Type} {k : Nat} {enc : α → List Value} (hk : ∀ x, (enc x).length = k) : ∀ (xs : List α) (i : Nat) (x : α), xs[i]? = some x → ∀ j u, (enc x)[j]? = some u → (xs.flatMap enc)[i * k + j]? = some u := by
  intro xs
  induction xs with
  | nil => intro i x h; simp at h
  | cons y ys ih =>
    intro i x hx j u hj
    rw [List.flatMap_cons]
    cases i with
    | zero =>
      simp at hx; subst hx
      rw [Nat.zero_mul, Nat.zero_add, List.getElem?_append_left (List.getElem?_eq_some_iff.1 hj).1]
      exact hj
    | succ i =>
      rw [List.getElem?_append_right (by rw [hk, Nat.add_mul]; omega), hk]
      have e : (i + 1) * k + j - k = i * k + j := by rw [Nat.add_mul]; omega
      rw [e]
      exact ih i x (by simpa using hx) j u hj

/-- each of the flat cells belongs to one element -/
theorem flat_inv {α : Type} {k : Nat} {enc : α → List Value} (hk : ∀ x, (enc x).length = k) (h0 : 0 < k) : ∀ (xs : List α) (n : Nat) (u : Value), (xs.flatMap enc)[n]? = some u → ∃ x, xs[n / k]? = some x ∧ (enc x)[n % k]? = some u := by
  intro xs
  induction xs with
  | nil => intro n u h; simp at h
  | cons y ys ih =>
    intro n u hu
    rw [List.flatMap_cons] at hu
    by_cases hn : n < k
    · rw [List.getElem?_append_left (by rw [hk]; exact hn)] at hu
      refine ⟨y, ?_, ?_⟩
      · rw [Nat.div_eq_of_lt hn]; rfl
      · rw [Nat.mod_eq_of_lt hn]; exact hu
    · rw [List.getElem?_append_right (by rw [hk]; omega), hk] at hu
      obtain ⟨x, h1, h2⟩ := ih _ _ hu
      have hn' : n = (n - k) + k := by omega
      refine ⟨x, ?_, ?_⟩
      · rw [hn', Nat.add_div_right _ h0]; simpa using h1
      · rw [hn', Nat.add_mod_right]; exact h2

theorem flat_len {α : Type} {k : Nat} {enc : α → List Value} (hk : ∀ x, (enc x).length = k) (xs : List α) : (xs.flatMap enc).length = xs.length * k := by
  induction xs with
  | nil => simp
  | cons x xs ih => rw [List.flatMap_cons, List.length_append, hk, ih, List.length_cons, Nat.add_mul]; omega

theorem evCells_len (e : Ev) : (Ev.cells e).length = 15 := rfl
theorem evCells_one (e : Ev) : ∀ u ∈ Ev.cells e, u.oneCell' = true := by
  intro u hu
  simp only [Ev.cells, List.mem_cons, List.not_mem_nil, or_false] at hu
  rcases hu with rfl | rfl | rfl | rfl | rfl | rfl | rfl | rfl | rfl | rfl | rfl | rfl | rfl | rfl | rfl <;> rfl

/-- the cells of all events that come in, one behind the other -/
theorem SlAt.flat {α : Type} {k : Nat} {enc : α → List Value} (hk : ∀ x, (enc x).length = k) (h0 : 0 < k) {w : World} {b o cap : Nat} {l : List α} (h : SlAt k enc w (.slice (some ⟨b, o, none⟩) l.length cap) l) :
    ∀ j u, (l.flatMap enc)[j]? = some u → w.cell? ((⟨b, o, none⟩ : Addr).add j) = some u := by
  intro j u hu
  obtain ⟨x, hx, hj⟩ := flat_inv hk h0 l j u hu
  obtain ⟨a, cap', hv, hc⟩ := h
  obtain ⟨b', o', ha, hc⟩ := hc _ _ hx
  simp only [Value.slice.injEq] at hv
  obtain ⟨hv1, _, _⟩ := hv
  rw [ha] at hv1
  simp only [Option.some.injEq, Addr.mk.injEq, and_true] at hv1
  obtain ⟨rfl, rfl⟩ := hv1
  have := hc _ _ hj
  rw [add_none]
  rw [← this, Nat.add_assoc, Nat.mul_comm, Nat.div_add_mod]

theorem slAt_own {α : Type} {k : Nat} {enc : α → List Value} (hk : ∀ x, (enc x).length = k) {w : World} {base : Nat} {e : TypeId} {v : Value} {l : List α} (h : w.ownsRow base e k v l.length (l.flatMap enc)) : SlAt k enc w v l := by
  obtain ⟨hfl, hown⟩ := h
  rcases hown with ⟨rfl, h0⟩ | ⟨g, cap, cur, rfl, hg, hgc, hcap1, hcap2, hcs, hct⟩
  · obtain rfl : l = [] := List.eq_nil_of_length_eq_zero h0
    exact SlAt.nil _ _ _ _ _
  · refine ⟨_, cap, rfl, fun i x hi => ⟨g, 0, rfl, fun j u hu => ?_⟩⟩
    have h1 := flat_at hk l i x hi j u hu
    rw [← hct, List.getElem?_take] at h1
    split at h1
    · simp only [World.cell?, hgc]
      simpa using h1
    · cases h1

theorem frozen_own {w : World} {g : Nat} {cur : Array Value} {e : TypeId} (h : w.heap[g]? = some (.cells cur e (0, 0))) (o : Nat) : w.frozen? ⟨g, o, none⟩ = false := by
  simp [World.frozen?, h]

theorem swap_at {W : World} {g cap : Nat} {cur : Array Value} {E : TypeId} {l : List Ev} (h : EvsAt W (.slice (some ⟨g, 0, none⟩) l.length cap) l) (hg : W.heap[g]? = some (.cells cur E (0, 0))) {j : Nat} {ea eb : Ev}
    (ha : l[j]? = some ea) (hb : l[j + 1]? = some eb) :
    (W.rangeAt g (j * 15) ea.cells ∧ W.rangeAt g ((j + 1) * 15) eb.cells ∧ W.there g (j * 15) 15 ∧ (W.setCells g (j * 15) eb.cells).there g ((j + 1) * 15) 15) ∧
    EvsAt ((W.setCells g (j * 15) eb.cells).setCells g ((j + 1) * 15) ea.cells) (.slice (some ⟨g, 0, none⟩) l.length cap) ((l.set j eb).set (j + 1) ea) := by
  obtain ⟨a, cap', hv, hx⟩ := h
  simp only [Value.slice.injEq] at hv
  obtain ⟨rfl, _, rfl⟩ := hv
  have hr : ∀ (i : Nat) (x : Ev), l[i]? = some x → W.rangeAt g (i * 15) x.cells := by
    intro i x hi
    obtain ⟨b, o, hbo, hj⟩ := hx i x hi
    simp only [Option.some.injEq, Addr.mk.injEq, and_true] at hbo
    obtain ⟨rfl, rfl⟩ := hbo
    intro t u hu
    have := hj t u hu
    rw [Nat.zero_add] at this
    exact this
  have hth : ∀ (i : Nat) (x : Ev), l[i]? = some x → W.there g (i * 15) 15 := fun i x hi t ht => ⟨(hr i x hi).isSome t ht, frozen_own hg _⟩
  have h1 := hr j ea ha
  have h2 := hr (j + 1) eb hb
  have h3 := hth j ea ha
  have h4 : (W.setCells g (j * 15) eb.cells).there g ((j + 1) * 15) 15 := World.there_setCells (hth (j + 1) eb hb) g (j * 15) eb.cells
  refine ⟨⟨h1, h2, h3, h4⟩, ⟨_, cap, by simp, fun i x hi => ⟨g, 0, rfl, fun t u hu => ?_⟩⟩⟩
  have hlj := (List.getElem?_eq_some_iff.1 ha).1
  have hlj1 := (List.getElem?_eq_some_iff.1 hb).1
  have fin : ((W.setCells g (j * 15) eb.cells).setCells g ((j + 1) * 15) ea.cells).rangeAt g (i * 15) x.cells := by
    by_cases e1 : i = j + 1
    · subst e1
      rw [List.getElem?_set_self (by simpa using hlj1)] at hi
      cases hi
      exact World.rangeAt_setCells_same _ _ _ _ h4
    · rw [List.getElem?_set_ne (fun e => e1 e.symm)] at hi
      by_cases e2 : i = j
      · subst e2
        rw [List.getElem?_set_self hlj] at hi
        cases hi
        refine World.rangeAt_setCells_apart (World.rangeAt_setCells_same _ _ _ _ h3) _ _ _ (.inr (.inl ?_))
        show i * 15 + 15 ≤ (i + 1) * 15
        omega
      · rw [List.getElem?_set_ne (fun e => e2 e.symm)] at hi
        refine World.rangeAt_setCells_apart (World.rangeAt_setCells_apart (hr i x hi) _ _ _ (.inr ?_)) _ _ _ (.inr ?_)
        · show i * 15 + 15 ≤ j * 15 ∨ j * 15 + 15 ≤ i * 15
          omega
        · show i * 15 + 15 ≤ (j + 1) * 15 ∨ (j + 1) * 15 + 15 ≤ i * 15
          omega
  have := fin t u hu
  rw [Nat.zero_add]
  exact this

theorem Mod.setCells {S : Nat → Prop} {a : World} {g : Nat} (hp : g < a.heap.size → S g) : ∀ (vs : List Value) (o : Nat) (w : World), Mod S a w → Mod S a (w.setCells g o vs)
  | [], _, _, h => h
  | v :: vs, o, w, h => by
    rw [World.setCells]
    exact Mod.setCells hp vs (o + 1) _ (h.setCell hp v)

theorem grown_mod {a w w' : World} {v : Value} (h : Mod NoB a w) (hg : w.grownBy w' v.ownBlock) (hv : v.ownBlock = none) : Mod NoB a w' :=
  ⟨hg.os.trans h.os, hg.tape.trans h.tape, hg.output.trans h.output, Nat.le_trans h.size hg.size, fun k hk hn => by
    rw [hg.block k (Nat.lt_of_lt_of_le hk h.size) (by rw [hv]; intro e; cases e)]
    exact h.block k hk hn⟩

theorem order_index (k : Int) (n : Nat) (h2 : 2 ≤ n) (hn : n ≤ 200) :
    ∃ j : Nat, (wrap64 (wrap64 (k.tmod ((n : Int) - 1) + n) - 1)).tmod ((n : Int) - 1) = (j : Int) ∧ j + 1 < n := by
  have h1 := Int.tmod_lt_of_pos k (show (0 : Int) < (n : Int) - 1 by omega)
  have h3 : -((n : Int) - 1) < k.tmod ((n : Int) - 1) := by
    have := Int.neg_tmod k ((n : Int) - 1)
    have h4 := Int.tmod_lt_of_pos (-k) (show (0 : Int) < (n : Int) - 1 by omega)
    omega
  rw [IntWalk.wrap64_in (k.tmod ((n : Int) - 1) + n) ⟨by omega, by omega⟩, IntWalk.wrap64_in _ ⟨by omega, by omega⟩]
  have h5 := Int.tmod_lt_of_pos (k.tmod ((n : Int) - 1) + n - 1) (show (0 : Int) < (n : Int) - 1 by omega)
  have h6 := Int.tmod_nonneg ((n : Int) - 1) (show (0 : Int) ≤ k.tmod ((n : Int) - 1) + n - 1 by omega)
  exact ⟨((k.tmod ((n : Int) - 1) + n - 1).tmod ((n : Int) - 1)).toNat, by omega, by omega⟩

theorem toList_ne {a b : ByteArray} (h : ¬ a = b) : (a.toList == b.toList) = false := by
  rw [Bool.eq_false_iff]
  intro e
  have e1 : a.toList = b.toList := by simpa using e
  rw [Lib.toList_data, Lib.toList_data] at e1
  exact h (bytes_inj e1)

set_option maxRecDepth 100000 in
set_option maxHeartbeats 4000000 in
theorem order_walk (l : List Ev) (v : Value) (k : Int) (w : World) (h : EvsAt w v l) (hll : l.length ≤ 9223372036854775807) :
    Calls Try.prog 5 #[v, .int .i64 k] w fun e w' => e = .returned (.bool true) ∧ Mod NoB w w' := by
  obtain ⟨a, cap, rfl, hx⟩ := id h
  have HE := Lib.hid h; clear h
  clear hx
  go_enter Try.func5, Try.ntmps5
  go_wp2_with fail
  refine (light_any l _ _ HE.out hll).mono ?_; rintro e w' ⟨b, rfl, hb, rfl⟩
  cases b with
  | false =>
    clear hb
    go_wp2_with fail
    refine (truthAlive _).mono ?_; rintro e w1 ⟨rfl, hm⟩
    go_wp2_with fail
    go_ret
    exact ⟨rfl, hm⟩
  | true =>
    have hl : l.length ≤ 200 := hb rfl
    clear hb
    by_cases h2 : l.length < 2
    · have h2i : (l.length : Int) < 2 := by omega
      go_wp2_with fail
      refine (truthAlive _).mono ?_; rintro e w1 ⟨rfl, hm1⟩
      go_wp2_with fail
      go_ret
      exact ⟨rfl, hm1⟩
    have h2i : ¬ (l.length : Int) < 2 := by omega
    go_wp2_with fail
    refine (truthAlive _).mono ?_; rintro e w1 ⟨rfl, hm1⟩
    go_wp2_with fail
    obtain ⟨j, hj, hjl⟩ : ∃ j : Nat, (wrap64 (wrap64 (k.tmod ((l.length : Int) - 1) + l.length) - 1)).tmod ((l.length : Int) - 1) = (j : Int) ∧ j + 1 < l.length := order_index k l.length (by omega) (by omega)
    rw [hj]
    clear hj h2
    have hjl' : j < l.length := by omega
    have ha : l[j]? = some l[j] := List.getElem?_eq_getElem (by omega)
    have hb : l[j + 1]? = some l[j + 1] := List.getElem?_eq_getElem hjl
    have EW := Lib.hid (HE.out.mod hm1)
    obtain ⟨b1, o1, cap1, hv, hbl, c0, c1, c2, c3, c4, c5, c6, c7, c8, c9, c10, c11, c12, c13, c14⟩ := EW.out.at15 ha
    obtain ⟨b2, o2, cap2, hv2, hbl2, d0, d1, d2, d3, d4, d5, d6, d7, d8, d9, d10, d11, d12, d13, d14⟩ := EW.out.at15 hb
    simp only [Value.slice.injEq] at hv
    obtain ⟨rfl, _, rfl⟩ := hv
    simp only [Value.slice.injEq, Option.some.injEq, Addr.mk.injEq] at hv2
    obtain ⟨⟨rfl, rfl, _⟩, _, rfl⟩ := hv2
    have HM := Lib.hid hm1; clear hm1
    have HA := Lib.hid ha; clear ha
    have HB := Lib.hid hb; clear hb
    generalize l[j] = ea at *
    generalize l[j + 1] = eb at *
    clear c0 c1 c2 c3 c4 c6 c7 c8 c9 c10 c11 c12 c13 c14 d0 d1 d2 d3 d4 d6 d7 d8 d9 d10 d11 d12 d13 d14
    have hi0 : (0 : Int) ≤ j := by omega
    have hi1 : (j : Int) < l.length := by omega
    have hi2 : (0 : Int) ≤ (j : Int) + 1 := by omega
    have hi3 : (j : Int) + 1 < l.length := by omega
    have hi5 : IntKind.i64.wrap ((j : Int) + 1) = (j : Int) + 1 := by rw [IntKind.wrap_i64]; omega
    have hi4 : ((j : Int) + 1).toNat = j + 1 := by omega
    by_cases hk : ea.key = eb.key
    · have hk1 : (ea.key.toList == eb.key.toList) = true := by rw [hk]; simp
      go_quiet (fail)
      go_wp2_with fail
      go_ret
      exact ⟨rfl, HM.out.drewN _⟩
    · have hk1 : (ea.key.toList == eb.key.toList) = false := toList_ne hk
      have HK := Lib.hid hk; clear hk
      go_quiet (fail)
      obtain ⟨i0, z0, hi, hz0, hz1, hz2, hz3⟩ := evInfo_parts
      have hdr : Mod NoB w1 (w1.drewN nq) := (Mod.refl _ _).drewN _
      have ED := Lib.hid (EW.out.mod hdr)
      go_wp2_with (at_builtin; refine wpList_append_own _ rfl _ _ 35 rfl w1.heap.size 44 i0 z0 15 i0.bytes tyEvs hi hz0 hz1 rfl hz2 (by decide) _ _ _ rfl (World.ownsRow_nil _ _ _ _) ⟨b1, o1, none⟩ l.length cap (l.flatMap Ev.cells) rfl (flat_len evCells_len l) ?c1 ?c2 ?c4 ?c5 ?c6 ?_)
      case c1 => exact ED.out.flat evCells_len (by decide)
      case c2 => intro u hu; obtain ⟨x, _, hx⟩ := List.mem_flatMap.1 hu; exact evCells_one x u hx
      case c4 => unfold maxLen; omega
      case c5 => exact Nat.le_trans (Nat.mul_le_mul (by omega : 0 + l.length ≤ 200) hz3) (by decide)
      case c6 => exact Nat.le_refl _
      intro v' wa hown hgrow hnn
      have hown2 : wa.ownsRow w1.heap.size 44 15 v' l.length (l.flatMap Ev.cells) := by simpa using hown
      have hma : Mod NoB w1 wa := grown_mod hdr hgrow rfl
      have FW := Lib.hid (slAt_own evCells_len hown2)
      obtain ⟨_, hown3⟩ := hown2
      rcases hown3 with ⟨_, h0⟩ | ⟨g, cap', cur, rfl, hg, hgc, _, _, _, _⟩
      · omega
      obtain ⟨_, hsw⟩ := swap_at FW.out hgc HA.out HB.out
      obtain ⟨g', o', cap'', hv, _, c0, c1, c2, c3, c4, c5, c6, c7, c8, c9, c10, c11, c12, c13, c14⟩ := FW.out.at15 HA.out
      simp only [Value.slice.injEq, Option.some.injEq, Addr.mk.injEq] at hv
      obtain ⟨⟨rfl, rfl, _⟩, _, rfl⟩ := hv
      obtain ⟨g'', o'', cap3, hv, _, d0, d1, d2, d3, d4, d5, d6, d7, d8, d9, d10, d11, d12, d13, d14⟩ := FW.out.at15 HB.out
      simp only [Value.slice.injEq, Option.some.injEq, Addr.mk.injEq] at hv
      obtain ⟨⟨rfl, rfl, _⟩, _, rfl⟩ := hv
      have hq : (j + 1) * 15 = j * 15 + 15 := by omega
      rw [hq] at hsw
      have hfz : ∀ o, wa.frozen? ⟨g, o, none⟩ = false := fun o => frozen_own hgc o
      simp only [hq, Nat.zero_add, Nat.add_assoc, Nat.reduceAdd] at c0 c1 c2 c3 c4 c5 c6 c7 c8 c9 c10 c11 c12 c13 c14 d0 d1 d2 d3 d4 d5 d6 d7 d8 d9 d10 d11 d12 d13 d14
      have hsz := HM.out.size
      have hgw : ¬ g < w.heap.size := by omega
      have HM2 := Lib.hid (Mod.setCells (fun h => absurd h hgw) ea.cells (j * 15 + 15) _ (Mod.setCells (fun h => absurd h hgw) eb.cells (j * 15) _ (HM.out.trans hma)))
      have HS := Lib.hid hsw
      clear hsw hown hgrow hnn hma hdr ED FW EW hi hz0 hz1 hz2 hz3
      go_wp2_with fail
      go_region
      go_wp2_with fail
      have HM3 := Lib.hid HM2.out.drew
      refine (fold_any l _ _ (HE.out.mod HM3.out) (by omega)).mono ?_; rintro e w3 ⟨x1, xs1, rfl, hp1, hs1, hx1, hm1⟩
      have HS3 := Lib.hid ((HS.out.mod (Mod.refl _ _).drew).mod hm1)
      have M3 := Lib.hid (HM3.out.trans hm1)
      have P1 := Lib.hid hp1; have S1 := Lib.hid hs1; have X1 := Lib.hid hx1
      clear hp1 hs1 hx1 hm1 HS HM2 HM3 HM hfz hgc c0 c1 c2 c3 c4 c5 c6 c7 c8 c9 c10 c11 c12 c13 c14 d0 d1 d2 d3 d4 d5 d6 d7 d8 d9 d10 d11 d12 d13 d14
      go_wp2_with fail
      refine (fold_any _ _ _ HS3.out (by simp; omega)).mono ?_; rintro e w4 ⟨x2, xs2, rfl, hp2, hs2, hx2, hm2⟩
      have P2 := Lib.hid (hp2.trans (fold_swap l j ea eb HA.out HB.out HK.out).symm); have S2 := Lib.hid hs2; have X2 := Lib.hid hx2; have X3 := Lib.hid (X1.out.mod hm2); have M4 := Lib.hid (M3.out.trans hm2)
      clear hp2 hs2 hx2 hm2
      go_wp2_with fail
      refine (sameItems_alike _ _ _ (keys_fold l) P1.out S1.out P2.out S2.out (Nat.le_trans (foldM_len _) (by omega)) _ _ _ X3.out X2.out).mono ?_; rintro e w5 ⟨rfl, hm3⟩
      have M5 := Lib.hid (M4.out.trans hm3); clear hm3
      go_wp2_with fail
      go_ret
      exact ⟨rfl, M5.out⟩
set_option maxRecDepth 100000 in
theorem truthOrder_lifted (os : Os) (started : os.Started) (H : Type) (enc : TypeId × Value → H) :
    ReturnsInHanded {} Try.checked os 5 .any (Rows.truthOrderSpec.pre6 enc Try.prog Try.f5 Rows.truthOrderRow.domain false) (Rows.truthOrderSpec.post enc Try.prog Try.f5 false true false false) := by
  refine returnsInHanded_of_change (C := Try.checked) progOwn started (by kernel_rfl) Try.func5
    (ChangeSpec.witness6 (enc := enc) (C := Try.checked) false ⟨#[], #[.slice none 0 0, .int .i64 0], []⟩ 8 (by kernel_rfl) (by kernel_rfl) (by kernel_rfl) (by kernel_rfl)) ?_
  intro W base args ds gs before hval hW _ _
  refine law_post (P := Try.prog) (B := 4) (fun ds h => ?_) rfl rfl (by kernel_rfl) (by kernel_rfl) progLaid hW ?_
  · match ds, h with
    | [_, _], _ => rfl
  · obtain ⟨p, q, hA, _⟩ := hW
    have hR := rdAll_of_trod (P := Try.prog) [.sl evShp, .i .i64] (by kernel_rfl) rfl (fun j t v h1 h2 => hval j t v (by simpa using h1) (by simpa using h2)) hA
    obtain ⟨l⟩ := args
    obtain ⟨v0, vs, rfl, h0, hR⟩ := hR
    obtain ⟨v1, vs, rfl, h1, hR⟩ := hR
    obtain rfl := hR
    obtain ⟨l, hl, hll⟩ := evsAt_of_rd h0
    obtain ⟨k, rfl, _⟩ := rd_int h1
    exact (order_walk l v0 k W hl hll).mono fun _ _ ⟨he, hm⟩ => ⟨he, hm.below_self⟩

theorem truthOrder_over : Rows.truthOrderRow.holds Try.pinned (OpenSpec.ofChange Rows.truthOrderSpec) :=
  OpenClaim.holds_of_wide 5 Try.f5 rfl rfl rfl rfl rfl rfl rfl ⟨rfl, rfl, rfl, rfl, rfl⟩ rfl rfl rfl rfl rfl (by kernel_rfl) Try.func5 (by kernel_rfl)
    (of_decide_eq_true (by kernel_rfl)) (by unfold Func.isWrapper; first | (rw [if_pos (by decide +kernel)]; kernel_rfl) | (rw [if_neg (by decide +kernel)]; exact ⟨rfl, rfl⟩))
    (fun os started H enc _ => truthOrder_lifted os started H enc)

theorem truthOrder_proved : Rows.TruthOrderSaid := truthOrder_over
end Go.Proofs.Ytcpbcggfbopobaa
