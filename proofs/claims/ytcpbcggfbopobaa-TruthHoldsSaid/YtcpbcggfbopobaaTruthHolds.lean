/- TruthHolds: of events in order: what a key has at a step is one of all it held around it; what it never had is none; for every input; no condition. -/
import Derived.Test.YtcpbcggfbopobaaRows
import Derived.Test.YtcpbcggfbopobaaArgs
import Derived.Test.YtcpbcggfbopobaaTruthPlain
import Derived.Test.YtcpbcggfbopobaaTruthAlive
namespace Go.Proofs.Ytcpbcggfbopobaa
open Go.ChangeShapes Go.WideShapes Go.ChangeAt Go.RowKit Go.Proofs

/-- the events looked at so far are in order and none has the value that never was -/
def OrdSoFar (never : ByteArray) (l : List Ev) (k : Nat) : Prop :=
  (∀ i a b, i + 1 < k → l[i]? = some a → l[i + 1]? = some b → a.step ≤ b.step) ∧ (∀ i a, i < k → l[i]? = some a → 0 ≤ a.step ∧ a.step ≤ 1099511627776 ∧ ¬ a.value = never)

def HoldsRel1 (never : ByteArray) (l : List Ev) (w : World) (i : Value) (wr : World) : Prop :=
  ∃ k : Nat, k ≤ l.length ∧ i = .int .i64 k ∧ OrdSoFar never l k ∧ Mod NoB w wr

theorem toList_ne' {a b : ByteArray} (h : (a.toList == b.toList) = false) : ¬ a = b := fun e => by subst e; simp at h

theorem ord_step {never : ByteArray} {l : List Ev} {j : Nat} {e : Ev} (h : OrdSoFar never l j) (he : l[j]? = some e) (hg : 0 ≤ e.step ∧ e.step ≤ 1099511627776) (hv : ¬ e.value = never)
    (hp : j = 0 ∨ ∃ p, l[j - 1]? = some p ∧ p.step ≤ e.step) : OrdSoFar never l (j + 1) := by
  refine ⟨fun i a b hi ha hb => ?_, fun i a hi ha => ?_⟩
  · by_cases hij : i + 1 < j
    · exact h.1 i a b hij ha hb
    · have hij2 : i + 1 = j := by omega
      rcases hp with hp | ⟨p, hp, hle⟩
      · omega
      · rw [hij2, he] at hb
        rw [show j - 1 = i from by omega, ha] at hp
        cases hb; cases hp
        exact hle
  · by_cases hij : i < j
    · exact h.2 i a hij ha
    · have : i = j := by omega
      subst this
      rw [he] at ha; cases ha
      exact ⟨hg.1, hg.2, hv⟩

theorem ord_sorted {l : List Ev} (h : ∀ i a b, i + 1 < l.length → l[i]? = some a → l[i + 1]? = some b → a.step ≤ b.step) : l.Pairwise (fun a b => a.step ≤ b.step) := by
  induction l with
  | nil => exact List.Pairwise.nil
  | cons e l ih =>
    have ih' := ih (fun i a b hi ha hb => h (i + 1) a b (by simp; omega) (by simpa using ha) (by simpa using hb))
    refine List.pairwise_cons.2 ⟨fun x hx => ?_, ih'⟩
    cases l with
    | nil => cases hx
    | cons y l =>
      have h0 := h 0 e y (by simp) rfl rfl
      rcases List.mem_cons.1 hx with rfl | hx
      · exact h0
      · have := (List.pairwise_cons.1 ih').1 x hx
        omega

/-- the loops over what is there: how far, and the world -/
def IdxRel (n : Nat) (w : World) (i : Value) (wr : World) : Prop := ∃ k : Nat, k ≤ n ∧ i = .int .i64 k ∧ Mod NoB w wr
def InRel (hs : List ByteArray) (v : ByteArray) (b i : Value) : Prop := ∃ k : Nat, k ≤ hs.length ∧ i = .int .i64 k ∧ b = .bool ((hs.take k).any (fun u => u.toList == v.toList))

theorem any_succ (hs : List ByteArray) (v u : ByteArray) (k : Nat) (h : hs[k]? = some u) : (hs.take (k + 1)).any (fun u => u.toList == v.toList) = ((hs.take k).any (fun u => u.toList == v.toList) || u.toList == v.toList) := by
  rw [List.take_add_one, h]
  simp

theorem toList_ne {a b : ByteArray} (h : ¬ a = b) : ¬ a.toList = b.toList := fun e => h (ba_ext e)

set_option maxRecDepth 100000 in
set_option maxHeartbeats 4000000 in
theorem holds_walk (l : List Ev) (v : Value) (k never : ByteArray) (fr to at' : Int) (w : World) (h : EvsAt w v l) (hll : l.length ≤ 9223372036854775807) :
    Calls Try.prog 8 #[v, .string k, .int .i64 fr, .int .i64 to, .int .i64 at', .string never] w fun e w' => e = .returned (.bool true) ∧ Mod NoB w w' := by
  obtain ⟨a, cap, rfl, hx⟩ := id h
  have HE := Lib.hid h; clear h
  clear hx
  by_cases hall : k.size ≤ 60 ∧ never.size ≤ 60 ∧ fr ≤ at' ∧ at' ≤ to
  · obtain ⟨hk, hn, hfa, hat⟩ := hall
    go_enter Try.func8, Try.ntmps8
    go_wp2_with fail
    refine (light_any l _ _ HE.out hll).mono ?_; rintro e w' ⟨b, rfl, hb, rfl⟩
    cases b with
    | false =>
      clear hb
      go_wp2_with fail
      refine (truthAlive _).mono ?_; rintro e w1 ⟨rfl, hm⟩
      go_wp2_with fail
      go_ret
      exact ⟨rfl, hm⟩
    | true =>
      have hl : l.length ≤ 200 := hb rfl
      clear hb
      go_wp2_with fail
      refine (truthAlive _).mono ?_; rintro e w1 ⟨rfl, hm1⟩
      go_wp2_with fail
      have HM1 := Lib.hid hm1; clear hm1
      have HC := Lib.hid (⟨hfa, hat⟩ : fr ≤ at' ∧ at' ≤ to)
      clear hk hn hfa hat
      go_loopw [52] (fun i wr => HoldsRel1 never l w i wr) (fun i _ => l.length - (intOf i).toNat)
      case atStart => exact ⟨0, Nat.zero_le _, rfl, ⟨fun i _ _ hi => absurd hi (by omega), fun i _ hi => absurd hi (by omega)⟩, HM1.out⟩
      case round =>
        obtain ⟨j, hj, rfl, ho, hm⟩ := hrel
        have HO := Lib.hid ho; clear ho
        have HM := Lib.hid hm; clear hm HM1
        by_cases hlt : j < l.length
        · have he : l[j]? = some l[j] := List.getElem?_eq_getElem hlt
          obtain ⟨b, o, cap', hv, hbl, c0, c1, c2, c3, c4, c5, c6, c7, c8, c9, c10, c11, c12, c13, c14⟩ := (HE.out.mod HM.out).at15 he
          have HE0 := Lib.hid he
          generalize l[j] = e at *
          clear he c1 c2 c3 c4 c5 c7 c8 c9 c10 c11 c12 c13 c14
          simp only [Value.slice.injEq] at hv
          obtain ⟨rfl, _, rfl⟩ := hv
          have hi0 : (0 : Int) ≤ j := by omega
          have hi1 : (j : Int) < l.length := by omega
          by_cases h0 : e.step < 0
          · have d0 : decide (e.step < 0) = true := by simpa using h0
            go_wp2_with fail
            go_quiet (fail)
            go_wp2_with fail
            go_ret
            exact ⟨rfl, HM.out.drewN _⟩
          · have d0 : decide (e.step < 0) = false := by simpa using h0
            by_cases h1 : 1099511627776 < e.step
            · have d1 : decide (1099511627776 < e.step) = true := by simpa using h1
              go_wp2_with fail
              go_quiet (fail)
              go_wp2_with fail
              go_ret
              exact ⟨rfl, HM.out.drewN _⟩
            · have d1 : decide (1099511627776 < e.step) = false := by simpa using h1
              have hgood : Hid (0 ≤ e.step ∧ e.step ≤ 1099511627776) := ⟨by omega, by omega⟩
              by_cases hj0 : j = 0
              · have d2 : decide (0 < j) = false := by simp; omega
                have HJ := Lib.hid hj0; clear hj0
                go_wp2_with fail
                go_quiet (fail)
                go_wp2_with fail
                · go_ret
                  exact ⟨rfl, HM.out.drewN _⟩
                · rename_i hv0
                  exact ⟨⟨j + 1, by omega, by go_num, ord_step HO.out HE0.out hgood.out (toList_ne' hv0) (.inl HJ.out), HM.out.drewN _⟩, by simp [intOf]; omega⟩
              · have d2 : decide (0 < j) = true := by simp; omega
                obtain ⟨p, hp⟩ : ∃ p, l[j - 1]? = some p := ⟨_, List.getElem?_eq_getElem (by omega)⟩
                obtain ⟨b2, o2, cap2, hv2, _, q0, _⟩ := (HE.out.mod HM.out).at15 hp
                simp only [Value.slice.injEq, Option.some.injEq, Addr.mk.injEq] at hv2
                obtain ⟨⟨rfl, rfl, _⟩, _, rfl⟩ := hv2
                have HP := Lib.hid hp; clear hp
                have hi2 : (0 : Int) ≤ (j : Int) - 1 := by omega
                have hi3 : (j : Int) - 1 < l.length := by omega
                by_cases hps : e.step < p.step
                · have d3 : decide (e.step < p.step) = true := by simpa using hps
                  go_wp2_with fail
                  go_quiet (fail)
                  go_wp2_with fail
                  go_ret
                  exact ⟨rfl, HM.out.drewN _⟩
                · have d3 : decide (e.step < p.step) = false := by simpa using hps
                  go_wp2_with fail
                  go_quiet (fail)
                  go_wp2_with fail
                  · go_ret
                    exact ⟨rfl, HM.out.drewN _⟩
                  · rename_i hv0
                    exact ⟨⟨j + 1, by omega, by go_num, ord_step HO.out HE0.out hgood.out (toList_ne' hv0) (.inr ⟨p, HP.out, by omega⟩), HM.out.drewN _⟩, by simp [intOf]; omega⟩
        · obtain rfl : j = l.length := by omega
          have hsort := Lib.hid (ord_sorted HO.out.1)
          have hnev := Lib.hid (held_ok never k fr to l (fun e he => by
            obtain ⟨i, hi⟩ := List.mem_iff_getElem?.1 he
            exact (HO.out.2 i e (List.getElem?_eq_some_iff.1 hi).1 hi).2.2))
          have EW := Lib.hid (HE.out.mod HM.out)
          clear HE HO
          go_wp2_with fail
          refine (held_any k fr to l _ _ EW.out (by omega)).mono ?_; rintro e w2 ⟨rh, rfl, hi, hm⟩
          have M2 := Lib.hid (HM.out.trans hm)
          have E2 := Lib.hid (EW.out.mod hm)
          obtain ⟨ah, ch, rfl, _⟩ := id hi
          have T2 := Lib.hid hi
          clear HM EW hi hm
          go_wp2_with fail
          refine (at_any at' l _ _ E2.out (by omega)).mono ?_; rintro e w3 ⟨ri, xs, rfl, hp, _, hi, hm⟩
          have M3 := Lib.hid (M2.out.trans hm)
          have T3 := Lib.hid (T2.out.mod hm)
          obtain ⟨ai, ci, rfl, _⟩ := id hi
          have I3 := Lib.hid hi
          have HP := Lib.hid hp
          have hxl : xs.length ≤ 200 := by
            have h1 := hp.length_eq
            have h2 := foldM_len (upTo at' l)
            have h3 := upTo_len at' l
            omega
          have hhl : (heldL k fr to l).length ≤ 401 := by
            have h1 := heldS_len k fr to l
            have h2 := tellL_len (heldS k fr to l).m k (heldS k fr to l).out
            rw [heldEnd_eq]
            unfold heldEnd
            split <;> omega
          have hhas : Hid (∀ x ∈ xs, x.1 = k → x.2 ∈ heldL k fr to l) := by
            intro x hx e
            have h1 : x ∈ foldM (upTo at' l) := HP.out.mem_iff.1 hx
            have h2 := get_of_mem (keys_fold _) h1
            rw [e] at h2
            exact held_has k fr at' to HC.out.1 HC.out.2 x.2 l hsort.out h2
          clear M2 E2 T2 hi hm hp HP hsort HC
          have I0 : Hid (∀ wr, Mod NoB w3 wr → ItemsAt wr (.slice ai xs.length ci) xs) := fun wr h => I3.out.mod h
          generalize heldL k fr to l = hs at *
          go_wp2_with fail
          go_loopw [105] (fun i wr => IdxRel xs.length w3 i wr) (fun i _ => xs.length - (intOf i).toNat)
          case atStart => exact ⟨0, Nat.zero_le _, rfl, Mod.refl _ _⟩
          case round =>
            obtain ⟨q, hq, rfl, hmq⟩ := hrel
            have HMq := Lib.hid hmq; clear hmq
            by_cases hlq : q < xs.length
            · have hx : xs[q]? = some xs[q] := List.getElem?_eq_getElem hlq
              obtain ⟨bi, oi, ci', hvi, p0, p1⟩ := (I0.out _ HMq.out).at2 hx
              have hin := Lib.hid (hhas.out xs[q] (List.getElem_mem hlq))
              generalize xs[q] = x at *
              clear hx
              simp only [Value.slice.injEq] at hvi
              obtain ⟨rfl, _, rfl⟩ := hvi
              by_cases hkx : x.1 = k
              · have hb1 : (!x.1.toList == k.toList) = false := by rw [hkx]; simp
                have hmem := Lib.hid (hin.out hkx)
                clear hkx
                have TT := Lib.hid (T3.out.mod (HMq.out.alloc (.cells #[.string x.1, .string x.2] 58)))
                have hany : Hid ((hs.take hs.length).any (fun u => u.toList == x.2.toList) = true) := by
                  show _ = true
                  rw [List.take_length, List.any_eq_true]
                  exact ⟨x.2, hmem.out, by simp⟩
                have AW := Lib.hid (HMq.out.alloc (.cells #[.string x.1, .string x.2] 58))
                go_wp2_with fail
                go_loop [17, 115] (fun b i => InRel hs x.2 b i) (fun _ i => hs.length - (intOf i).toNat)
                case atStart => exact ⟨0, Nat.zero_le _, rfl, by simp⟩
                case round =>
                  obtain ⟨z, hz, rfl, rfl⟩ := hrel
                  by_cases hlz : z < hs.length
                  · have hu : hs[z]? = some hs[z] := List.getElem?_eq_getElem hlz
                    obtain ⟨bh, oh, ch', hvh, t0⟩ := TT.out.at1 hu
                    have HS := Lib.hid (any_succ hs x.2 _ z hu)
                    generalize hs[z] = u at *
                    clear hu
                    simp only [Value.slice.injEq] at hvh
                    obtain ⟨rfl, _, rfl⟩ := hvh
                    cases hc : (hs.take z).any (fun u => u.toList == x.2.toList) with
                    | true =>
                      have HS2 : Hid (true = (hs.take (z + 1)).any (fun u => u.toList == x.2.toList)) := by
                        show _ = _
                        rw [HS.out, hc]; rfl
                      clear hc HS
                      go_wp2_with fail
                      exact ⟨⟨z + 1, by omega, by go_num, by rw [← HS2.out]⟩, by simp [intOf]; omega⟩
                    | false =>
                      have HS2 : Hid ((u.toList == x.2.toList) = (hs.take (z + 1)).any (fun u => u.toList == x.2.toList)) := by
                        show _ = _
                        rw [HS.out, hc]; rfl
                      clear hc HS
                      go_wp2_with fail
                      exact ⟨⟨z + 1, by omega, by go_num, by rw [← HS2.out]⟩, by simp [intOf]; omega⟩
                  · obtain rfl : z = hs.length := by omega
                    rw [hany.out]
                    go_wp2_with fail
                    exact ⟨⟨q + 1, by omega, by go_num, AW.out⟩, by simp [intOf]; omega⟩
              · have hb1 : (!x.1.toList == k.toList) = true := by
                  have := toList_ne hkx
                  simpa using this
                clear hkx
                go_wp2_with fail
                exact ⟨⟨q + 1, by omega, by go_num, HMq.out.alloc _⟩, by simp [intOf]; omega⟩
            · obtain rfl : q = xs.length := by omega
              have TT := Lib.hid (T3.out.mod HMq.out)
              have MM := Lib.hid (M3.out.trans HMq.out)
              clear T3 M3 I3 I0 HMq hhas
              go_wp2_with fail
              go_loopw [132] (fun i wr2 => IdxRel hs.length wr i wr2) (fun i _ => hs.length - (intOf i).toNat)
              case atStart => exact ⟨0, Nat.zero_le _, rfl, Mod.refl _ _⟩
              case round =>
                obtain ⟨z, hz, rfl, hmz⟩ := hrel
                have HMz := Lib.hid hmz; clear hmz
                by_cases hlz : z < hs.length
                · have hu : hs[z]? = some hs[z] := List.getElem?_eq_getElem hlz
                  obtain ⟨bh, oh, ch', hvh, t0⟩ := (TT.out.mod HMz.out).at1 hu
                  have hne : (hs[z].toList == never.toList) = false := by
                    have : ¬ hs[z] = never := fun e => hnev.out.1 (e ▸ List.getElem_mem hlz)
                    have := toList_ne this
                    simpa using this
                  have HU := Lib.hid hu
                  generalize hs[z] = u at *
                  clear hu
                  simp only [Value.slice.injEq] at hvh
                  obtain ⟨rfl, _, rfl⟩ := hvh
                  by_cases hz0 : z = 0
                  · have d2 : decide (0 < z) = false := by simp; omega
                    have HZ := Lib.hid hz0; clear hz0
                    go_wp2_with fail
                    exact ⟨⟨z + 1, by omega, by go_num, HMz.out⟩, by simp [intOf]; omega⟩
                  · have d2 : decide (0 < z) = true := by simp; omega
                    obtain ⟨p, hp⟩ : ∃ p, hs[z - 1]? = some p := ⟨_, List.getElem?_eq_getElem (by omega)⟩
                    obtain ⟨b2, o2, cap2, hv2, t1⟩ := (TT.out.mod HMz.out).at1 hp
                    simp only [Value.slice.injEq, Option.some.injEq, Addr.mk.injEq] at hv2
                    obtain ⟨⟨rfl, rfl, _⟩, _, rfl⟩ := hv2
                    have hpu : (p.toList == u.toList) = false := by
                      have : ¬ p = u := hnev.out.2 (z - 1) p u hp (by rw [show z - 1 + 1 = z from by omega]; exact HU.out)
                      have := toList_ne this
                      simpa using this
                    have hi2 : (0 : Int) ≤ (z : Int) - 1 := by omega
                    have hi3 : (z : Int) - 1 < hs.length := by omega
                    clear hp
                    go_wp2_with fail
                    exact ⟨⟨z + 1, by omega, by go_num, HMz.out⟩, by simp [intOf]; omega⟩
                · obtain rfl : z = hs.length := by omega
                  go_wp2_with fail
                  go_ret
                  exact ⟨rfl, MM.out.trans HMz.out⟩
  · go_enter Try.func8, Try.ntmps8
    go_wp2_with fail
    refine (light_any l _ _ HE.out hll).mono ?_; rintro e w' ⟨b, rfl, hb, rfl⟩
    clear hb
    cases b with
    | false =>
      go_wp2_with fail
      refine (truthAlive _).mono ?_; rintro e w1 ⟨rfl, hm⟩
      go_wp2_with fail
      go_ret
      exact ⟨rfl, hm⟩
    | true =>
      go_wp2_with fail
      all_goals (refine (truthAlive _).mono ?_; rintro e w1 ⟨rfl, hm⟩; go_wp2_with fail; go_ret; exact ⟨rfl, hm⟩)

set_option maxRecDepth 100000 in
theorem truthHolds_lifted (os : Os) (started : os.Started) (H : Type) (enc : TypeId × Value → H) :
    ReturnsInHanded {} Try.checked os 8 .any (Rows.truthHoldsSpec.pre6 enc Try.prog Try.f8 Rows.truthHoldsRow.domain false) (Rows.truthHoldsSpec.post enc Try.prog Try.f8 false true false false) := by
  refine returnsInHanded_of_change (C := Try.checked) progOwn started (by kernel_rfl) Try.func8
    (ChangeSpec.witness6 (enc := enc) (C := Try.checked) false ⟨#[], #[.slice none 0 0, .string ⟨#[]⟩, .int .i64 0, .int .i64 0, .int .i64 0, .string ⟨#[]⟩], []⟩ 8 (by kernel_rfl) (by kernel_rfl) (by kernel_rfl) (by kernel_rfl)) ?_
  intro W base args ds gs before hval hW _ _
  refine law_post (P := Try.prog) (B := 4) (fun ds h => ?_) rfl rfl (by kernel_rfl) (by kernel_rfl) progLaid hW ?_
  · match ds, h with
    | [_, _, _, _, _, _], _ => rfl
  · obtain ⟨p, q, hA, _⟩ := hW
    have hR := rdAll_of_trod (P := Try.prog) [.sl evShp, .s, .i .i64, .i .i64, .i .i64, .s] (by kernel_rfl) rfl (fun j t v h1 h2 => hval j t v (by simpa using h1) (by simpa using h2)) hA
    obtain ⟨l⟩ := args
    obtain ⟨v0, vs, rfl, h0, hR⟩ := hR
    obtain ⟨v1, vs, rfl, h1, hR⟩ := hR
    obtain ⟨v2, vs, rfl, h2, hR⟩ := hR
    obtain ⟨v3, vs, rfl, h3, hR⟩ := hR
    obtain ⟨v4, vs, rfl, h4, hR⟩ := hR
    obtain ⟨v5, vs, rfl, h5, hR⟩ := hR
    obtain rfl := hR
    obtain ⟨l, hl, hll⟩ := evsAt_of_rd h0
    obtain ⟨k, rfl, _⟩ := rd_str h1
    obtain ⟨fr, rfl, _⟩ := rd_int h2
    obtain ⟨to, rfl, _⟩ := rd_int h3
    obtain ⟨at', rfl, _⟩ := rd_int h4
    obtain ⟨never, rfl, _⟩ := rd_str h5
    exact (holds_walk l v0 k never fr to at' W hl hll).mono fun _ _ ⟨he, hm⟩ => ⟨he, hm.below_self⟩

theorem truthHolds_over : Rows.truthHoldsRow.holds Try.pinned (OpenSpec.ofChange Rows.truthHoldsSpec) :=
  OpenClaim.holds_of_wide 8 Try.f8 rfl rfl rfl rfl rfl rfl rfl ⟨rfl, rfl, rfl, rfl, rfl⟩ rfl rfl rfl rfl rfl (by kernel_rfl) Try.func8 (by kernel_rfl)
    (of_decide_eq_true (by kernel_rfl)) (by unfold Func.isWrapper; first | (rw [if_pos (by decide +kernel)]; kernel_rfl) | (rw [if_neg (by decide +kernel)]; exact ⟨rfl, rfl⟩))
    (fun os started H enc _ => truthHolds_lifted os started H enc)

theorem truthHolds_proved : Rows.TruthHoldsSaid := truthHolds_over
end Go.Proofs.Ytcpbcggfbopobaa
