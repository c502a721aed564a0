/- (*hold.Hold).Lose, of what lies in its shelf left open. -/
import Derived.Test.YtpcmbnbdppembaaGreatDoorHoldLess
import Derived.Test.YtpcmbnbdppembaaGreatDoorHoldFreeze
import Derived.Laws.AppendOwnNone
namespace Go.Proofs.YtpcmbnbdppembaaGreatDoor
set_option linter.unusedSimpArgs false
set_option linter.unusedVariables false
open Go.RowKit Go.Shelf

def lostTo (own : List Ow) (l : List Arc) : List Ow := l.foldl (fun o p => o.flatMap (lessO · p)) own
def HSt.lostK (st : HSt) (k : Nat) : HSt := { st with own := lostTo st.own ((piecesA st.a).take k) }

theorem lost_succ {st : HSt} {k : Nat} {p : Arc} (he : (piecesA st.a)[k]? = some p) : st.lostK (k + 1) = { st.lostK k with own := (st.lostK k).own.flatMap (lessO · p) } := by
  simp [HSt.lostK, lostTo, List.take_add_one, he, List.foldl_append]
theorem lost_end (st : HSt) : st.lostK (piecesA st.a).length = { st with own := lostTo st.own (piecesA st.a) } := by
  simp [HSt.lostK, List.take_length]
theorem lessO_len (o : Ow) (p : Arc) : (lessO o p).length ≤ 2 := by
  unfold lessO
  split
  · simp
  · split <;> split <;> simp
theorem flat_len {l : List Ow} {p : Arc} : (l.flatMap (lessO · p)).length ≤ 2 * l.length := by
  induction l with
  | nil => simp
  | cons x l ih =>
    have := lessO_len x p
    simp only [List.flatMap_cons, List.length_append, List.length_cons]
    omega
theorem lost_len {st : HSt} {k : Nat} : k ≤ (piecesA st.a).length → (st.lostK k).own.length ≤ 2 ^ k * st.own.length := by
  induction k with
  | zero => simp [HSt.lostK, lostTo]
  | succ k ih =>
    intro hk
    rw [lost_succ (List.getElem?_eq_getElem (by omega))]
    have h1 := flat_len (l := (st.lostK k).own) (p := (piecesA st.a)[k]'(by omega))
    have h2 := ih (by omega)
    rw [Nat.pow_succ, Nat.mul_comm (2 ^ k) 2, Nat.mul_assoc]
    simp only
    omega

/-- the shelf is another one now -/
theorem hold_shelf {w w1 w2 : World} {h : Nat} {st : HSt} {tr tr' : Option Tree} {n n' : Nat} {L' : List Nat} {vo vp : Value} {s : Nat} {L0 : List Nat}
    (h1 : w.heap[h]? = some (.cells #[.int .i64 st.node, .int .i64 st.most, .int .i64 st.kept, vo, .pointer (some ⟨s, 0, none⟩), .bool st.shut, .int .u64 st.a.f, .int .u64 st.a.t, vp] 119 (0, 0)))
    (h2 : w.ownsRow 0 128 4 vo st.own.length (st.own.flatMap encOw))
    (h3 : w.ownsRow 0 180 4 vp st.pts.length (st.pts.flatMap encPtr)) (h4 : ShelfAt w s st.most tr n L0) (h5 : (h :: (ownL vo ++ ownL vp ++ L0)).Nodup)
    (hm : Mod NoB w w1) (hs : ShelfAt w2 s st.most tr' n' L') (hn : L'.Nodup) (ht : Turn L0 w1 w2 L') : ∃ B', HoldAt w2 h st tr' n' B' ∧ Turn (h :: (ownL vo ++ ownL vp ++ L0)) w w2 B' := by
  have hlt : ∀ k ∈ h :: (ownL vo ++ ownL vp ++ L0), k < w1.heap.size := fun k hk => Nat.lt_of_lt_of_le (HoldAt.lts ⟨vo, vp, s, L0, h1, h2, h3, h4, rfl, h5⟩ k hk) hm.size
  obtain ⟨hho, hhp, hhL⟩ : h ∉ ownL vo ∧ h ∉ ownL vp ∧ h ∉ L0 := by
    simp only [List.nodup_cons, List.mem_append, not_or] at h5
    exact ⟨h5.1.1.1, h5.1.1.2, h5.1.2⟩
  have hM : Mod (· ∈ L0) w w2 := (hm.mono (fun _ _ x => x.elim)).trans ht.1
  simp only [List.nodup_cons, List.nodup_append] at h5
  refine ⟨h :: (ownL vo ++ ownL vp ++ L'), ⟨vo, vp, s, L', ?_, own_mod' h2 hM ?_, own_mod' h3 hM ?_, hs, rfl, ?_⟩, hM.mono (fun k _ hk => by simp [hk]), ?_⟩
  · rw [hM.block h (Array.getElem?_eq_some_iff.1 h1).1 hhL]
    exact h1
  · intro k hk e
    exact h5.2.2.2 k (List.mem_append_left _ hk) k e rfl
  · intro k hk e
    exact h5.2.2.2 k (List.mem_append_right _ hk) k e rfl
  · have hd : ∀ k, k ∈ L' → k ∉ h :: (ownL vo ++ ownL vp) := by
      intro k hk e
      rcases ht.2 k hk with hk' | hk'
      · rcases List.mem_cons.1 e with rfl | e
        · exact hhL hk'
        · exact h5.2.2.2 k e k hk' rfl
      · have := hlt k (by rcases List.mem_cons.1 e with rfl | e; · simp
                          · exact List.mem_cons_of_mem _ (List.mem_append_left _ e))
        omega
    simp only [List.nodup_cons, List.nodup_append]
    refine ⟨fun e => ?_, h5.2.1, hn, fun x hx y hy e => ?_⟩
    · rcases List.mem_append.1 e with e | e
      · rcases List.mem_append.1 e with e | e
        · exact hho e
        · exact hhp e
      · exact hd h e List.mem_cons_self
    · subst e
      exact hd x hy (List.mem_cons_of_mem _ hx)
  · intro k hk
    rcases List.mem_cons.1 hk with rfl | hk
    · exact .inl List.mem_cons_self
    · rcases List.mem_append.1 hk with hk | hk
      · exact .inl (List.mem_cons_of_mem _ (List.mem_append_left _ hk))
      · rcases ht.2 k hk with hk | hk
        · exact .inl (List.mem_cons_of_mem _ (List.mem_append_right _ hk))
        · exact .inr (Nat.le_trans hm.size hk)

/-- what is owned is another row now, a new one -/
theorem hold_left {w W : World} {h : Nat} {st : HSt} {tr : Option Tree} {n : Nat} {B : List Nat} {lv : Value} {own : List Ow} (hh : HoldAt w h st tr n B) (hm : Mod NoB w W)
    (hr : W.ownsRow w.heap.size 128 4 lv own.length (own.flatMap encOw)) : ∃ B', HoldAt (W.setCell ⟨h, 3, none⟩ lv) h { st with own := own } tr n B' ∧ Turn B w (W.setCell ⟨h, 3, none⟩ lv) B' := by
  have hlts := hh.lts
  obtain ⟨vo, vp, s, L, h1, h2, h3, h4, rfl, h5⟩ := hh
  have hlt : h < w.heap.size := (Array.getElem?_eq_some_iff.1 h1).1
  have hnew : ∀ g ∈ ownL lv, w.heap.size ≤ g := fun g hg => (hr.lt g (by simpa [ownL] using hg)).1
  have hM : Mod (· = h) w (W.setCell ⟨h, 3, none⟩ lv) := (hm.mono (fun _ _ x => x.elim)).setCell (S := (· = h)) (p := ⟨h, 3, none⟩) (fun _ => rfl) _
  obtain ⟨hho, hhp, hhL⟩ : h ∉ ownL vo ∧ h ∉ ownL vp ∧ h ∉ L := by
    simp only [List.nodup_cons, List.mem_append, not_or] at h5
    exact ⟨h5.1.1.1, h5.1.1.2, h5.1.2⟩
  simp only [List.nodup_cons, List.nodup_append] at h5
  refine ⟨h :: (ownL lv ++ ownL vp ++ L), ⟨lv, vp, s, L, ?_, ?_, own_mod' h3 hM (fun k hk e => hhp (e ▸ hk)), h4.mod hM (fun k hk e => hhL (e ▸ hk)), rfl, ?_⟩, hM.mono (fun k _ hk => by simp [hk]), ?_⟩
  · have hh1 : W.heap[h]? = _ := (hm.block h hlt (fun x => x)).trans h1
    have := heap_set hh1 3 lv
    simpa using this
  · exact own_mod' (hr.mono (Nat.zero_le _)) (S := (· = h)) ((Mod.refl (· = h) W).setCell (p := ⟨h, 3, none⟩) (fun _ => rfl) _) (fun k hk e => by have := hnew k hk; omega)
  · have hlvnd : (ownL lv).Nodup := by unfold ownL; cases lv.ownBlock <;> simp
    have hd : ∀ k, k ∈ ownL lv → k ∉ h :: (ownL vp ++ L) := by
      intro k hk e
      have h6 := hnew k hk
      have := hlts k (by rcases List.mem_cons.1 e with rfl | e; · simp
                         · rcases List.mem_append.1 e with e | e <;> simp [e])
      omega
    simp only [List.nodup_cons, List.nodup_append]
    refine ⟨fun e => ?_, ⟨hlvnd, h5.2.1.2.1, fun x hx y hy e => ?_⟩, h5.2.2.1, fun x hx y hy e => ?_⟩
    · rcases List.mem_append.1 e with e | e
      · rcases List.mem_append.1 e with e | e
        · exact hd h e List.mem_cons_self
        · exact hhp e
      · exact hhL e
    · subst e
      exact hd x hx (List.mem_cons_of_mem _ (List.mem_append_left _ hy))
    · subst e
      rcases List.mem_append.1 hx with hx | hx
      · exact hd x hx (List.mem_cons_of_mem _ (List.mem_append_right _ hy))
      · exact h5.2.2.2 x (List.mem_append_right _ hx) x hy rfl
  · intro k hk
    rcases List.mem_cons.1 hk with rfl | hk
    · exact .inl List.mem_cons_self
    · rcases List.mem_append.1 hk with hk | hk
      · rcases List.mem_append.1 hk with hk | hk
        · exact .inr (hnew k hk)
        · exact .inl (by simp [hk])
      · exact .inl (by simp [hk])

theorem at4w {w : World} {v : Value} {l : List Ow} (h : SlAt 4 encOw w v l) {i : Nat} {p : Ow} (hi : l[i]? = some p) : ∃ b o cap, v = .slice (some ⟨b, o, none⟩) l.length cap ∧ b < w.heap.size ∧
    w.cell? ⟨b, o + i * 4, none⟩ = some (.int .u64 p.f) ∧ w.cell? ⟨b, o + i * 4 + 1, none⟩ = some (.int .u64 p.t) ∧ w.cell? ⟨b, o + i * 4 + 2, none⟩ = some (.int .i64 p.node) ∧ w.cell? ⟨b, o + i * 4 + 3, none⟩ = some (.int .i64 p.ep) := by
  obtain ⟨a, cap, hv, hx⟩ := h
  obtain ⟨b, o, rfl, hj⟩ := hx i p hi
  have h0 := hj 0 _ rfl
  exact ⟨b, o, cap, hv, cell_lt' h0, by simpa using h0, by simpa using hj 1 _ rfl, by simpa using hj 2 _ rfl, by simpa using hj 3 _ rfl⟩

theorem own_slice {w : World} {base : Nat} {e : TypeId} {size : Nat} {v : Value} {n : Nat} {xs : List Value} (h : w.ownsRow base e size v n xs) : ∃ a m cap, v = .slice a m cap := by
  rcases h.2 with ⟨rfl, _⟩ | ⟨g, cap, cur, rfl, _⟩
  · exact ⟨_, _, _, rfl⟩
  · exact ⟨_, _, _, rfl⟩

set_option maxRecDepth 100000 in
set_option maxHeartbeats 8000000 in
theorem lose_gen {w : World} {h : Nat} {st : HSt} {tr : Option Tree} {n : Nat} {B : List Nat} (hh : HoldAt w h st tr n B) (hs : st.shut = true) (to : Int) (hlen : st.own.length ≤ 100000) (hpl : st.pts.length ≤ 1000000) {R : Option Tree → Nat → Prop}
    (hout : ∀ w1 s L, ShelfAt w1 s st.most tr n L → L.Nodup → Calls Tryz.prog 152 #[.pointer (some ⟨s, 0, none⟩), .agg #[.int .u64 st.a.f, .int .u64 st.a.t]] w1 fun e w2 => (∃ v, e = .returned v) ∧ ∃ L' tr' n', ShelfAt w2 s st.most tr' n' L' ∧ L'.Nodup ∧ Turn L w1 w2 L' ∧ R tr' n') :
    Calls Tryz.prog 62 #[.pointer (some ⟨h, 0, none⟩), .int .i64 to] w fun e w' => e = .returned (.int .i64 0) ∧
      ∃ B' tr' n', HoldAt w' h { st with own := lostTo st.own (piecesA st.a), shut := false, a := ⟨0, 0⟩, pts := st.pts ++ [⟨st.a.f, st.a.t, to, 0⟩] } tr' n' B' ∧ Turn B w w' B' ∧ R tr' n' := by
  have HH := Lib.hid hh
  have hlt := hh.lt
  have HLT := Lib.hid hh.lts
  have HOUT := Lib.hid hout
  have hlen2 : (piecesA st.a).length ≤ 2 := by unfold piecesA; split <;> simp
  obtain ⟨i0, z0, hi, hz0, hz1, hz2, hz3⟩ := owInfo_parts
  clear hh hout
  go_enter Tryz.func62, Tryz.ntmps62
  go_wp2_with fail
  refine (garc_any HH.out).mono ?_
  rintro e w1 ⟨rfl, hm1⟩
  rw [hs]
  have HM1 := Lib.hid hm1
  have hsz1 := hm1.size
  clear hm1
  go_wp2_with fail
  refine (pieces_at st.a _).mono ?_
  rintro e w2 ⟨pb, rfl, hpb, hsl, hm2⟩
  have ha0 := hm2.cellS (p := ⟨w1.heap.size, 0, none⟩) (u := .int .u64 st.a.f) (by simp)
  have ha1 := hm2.cellS (p := ⟨w1.heap.size, 1, none⟩) (u := .int .u64 st.a.t) (by simp)
  have HM2 := Lib.hid (HM1.out.trans (((Mod.refl NoB w1).alloc _).trans hm2))
  have HPB : Hid (w.heap.size ≤ pb) := Nat.le_trans hsz1 (by simp at hpb; omega)
  have hpb1 : w1.heap.size < pb := by simp at hpb; omega
  have HS := Lib.hid hsl
  have HA0 := Lib.hid ha0
  have HA1 := Lib.hid ha1
  clear hpb hsl hm2 ha0 ha1
  go_wp2_with fail
  go_loopw [26] (fun i w3 => ∃ (k : Nat) (Bk : List Nat), k ≤ (piecesA st.a).length ∧ i = .int .i64 k ∧ HoldAt w3 h (st.lostK k) tr n Bk ∧ Turn B w2 w3 Bk) (fun i _ => (piecesA st.a).length - (intOf i).toNat)
  case atStart => exact ⟨0, B, Nat.zero_le _, rfl, HH.out.mod HM2.out (fun _ _ x => x), Turn.refl _ _⟩
  case round =>
    obtain ⟨k, Bk, hk, rfl, hhk, htk⟩ := hrel
    obtain ⟨wo, hwo⟩ : ∃ wo, wo = wr := ⟨_, rfl⟩
    subst hwo
    have HK := Lib.hid hhk; have HT := Lib.hid htk
    clear hhk htk
    by_cases hlt2 : k < (piecesA st.a).length
    · have he : (piecesA st.a)[k]? = some (piecesA st.a)[k] := List.getElem?_eq_getElem hlt2
      generalize (piecesA st.a)[k] = p at *
      have HE := Lib.hid he; have HLT2 := Lib.hid hlt2
      have hsl := slAt_modS HS.out HT.out.1 (fun hb => by have := HLT.out _ hb; have := HPB.out; omega)
      obtain ⟨a', cap', hv, hx⟩ := hsl
      obtain ⟨b', o', hb', hc⟩ := hx k _ he
      simp only [Value.slice.injEq] at hv
      obtain ⟨hv1, _, hv3⟩ := hv
      subst hv1 hv3
      simp only [Option.some.injEq, Addr.mk.injEq] at hb'
      obtain ⟨rfl, rfl, _⟩ := hb'
      have p0 := hc 0 _ rfl
      have p1 := hc 1 _ rfl
      simp only [Nat.zero_add, Nat.add_zero] at p0 p1
      clear hc hx he
      have hlk := lost_len (st := st) (Nat.le_of_lt hlt2)
      have hpow : 2 ^ k ≤ 4 := by
        have : k = 0 ∨ k = 1 := by omega
        rcases this with rfl | rfl <;> decide
      have hlk2 : (st.lostK k).own.length ≤ 400000 := Nat.le_trans hlk (Nat.le_trans (Nat.mul_le_mul hpow (Nat.le_refl _)) (by omega))
      clear hlk hpow
      obtain ⟨vo, vp, s, L, q1, q2, q3, q4, q5, q6⟩ := HK.out
      have c3 : wo.cell? ⟨h, 3, none⟩ = some vo := cell_of q1 3 rfl
      have f3 := frozen_of q1 3
      have hhr : h < wo.heap.size := (Array.getElem?_eq_some_iff.1 q1).1
      have hvo := own_slAt (k := 4) (enc := encOw) (fun _ => rfl) q2
      have HVO := Lib.hid hvo
      obtain ⟨av, capv, hvs, _⟩ := hvo
      subst hvs
      obtain ⟨l, hl⟩ : ∃ l, l = (st.lostK k).own := ⟨_, rfl⟩
      rw [← hl] at hlk2 HVO c3
      have HL := Lib.hid hl
      clear q1 q2 q3 q4 q5 q6 hl
      go_wp2_with fail
      go_hide hQ
      have HQ := Lib.hid hQ
      go_loopw [9, 35] (fun lv j wi => ∃ (i : Nat), i ≤ l.length ∧ j = .int .i64 i ∧ wi.ownsRow (wo.heap.size + 1) 128 4 lv ((l.take i).flatMap (lessO · p)).length (((l.take i).flatMap (lessO · p)).flatMap encOw) ∧ Mod NoB wo wi ∧ wi.cell? ⟨wo.heap.size, 0, none⟩ = some (.int .u64 p.f) ∧ wi.cell? ⟨wo.heap.size, 1, none⟩ = some (.int .u64 p.t)) (fun _ j _ => l.length - (intOf j).toNat)
      case atStart => exact ⟨0, Nat.zero_le _, rfl, World.ownsRow_nil _ _ _ _, (Mod.refl _ _).alloc _, by simp, by simp⟩
      case round =>
        obtain ⟨i, hi9, rfl, hrow, hmi, r0, r1⟩ := hrel
        obtain ⟨Mi, hMi⟩ : ∃ Mi, Mi = (l.take i).flatMap (lessO · p) := ⟨_, rfl⟩
        rw [← hMi] at hrow
        have HMi := Lib.hid hMi
        clear hMi
        have HR := Lib.hid hrow; have HMI := Lib.hid hmi
        clear hrow hmi
        by_cases hlt3 : i < l.length
        · have he3 : l[i]? = some l[i] := List.getElem?_eq_getElem hlt3
          generalize l[i] = o at *
          have HE3 := Lib.hid he3; have HLT3 := Lib.hid hlt3
          obtain ⟨vb, vo2, cap3, hv, hvlt, x0, x1, x2, x3⟩ := at4w HVO.out he3
          simp only [Value.slice.injEq] at hv
          obtain ⟨rfl, _, rfl⟩ := hv
          have x0 := HMI.out.cellS x0; have x1 := HMI.out.cellS x1; have x2 := HMI.out.cellS x2; have x3 := HMI.out.cellS x3
          have hbl := cell_lt' r0
          dsimp only at hbl
          go_wp2_with fail
          refine (hless_any o p _).mono ?_
          rintro e w5 ⟨lv2, rfl, hlr, hln, hlm⟩
          have hm5 : Mod NoB wr w5 := ((Mod.refl NoB wr).alloc _).trans hlm
          have s0 := hm5.cellS r0
          have s1 := hm5.cellS r1
          have hrow5 := own_mod' HR.out hm5 (fun _ _ x => x)
          have hmo5 := HMI.out.trans hm5
          have htk1 : (l.take (i + 1)).flatMap (lessO · p) = Mi ++ lessO o p := by
            rw [HMi.out, List.take_add_one, HE3.out]; simp
          have HTK := Lib.hid htk1; have HMO := Lib.hid hmo5; have HROW := Lib.hid hrow5; have HLR := Lib.hid hlr
          have hln2 : Mi.length ≤ 800000 := by
            have := flat_len (l := l.take i) (p := p)
            rw [HMi.out]
            rw [List.length_take] at this
            omega
          have HLN2 := Lib.hid hln2
          have hsz5 : wo.heap.size + 1 ≤ w5.heap.size := Nat.le_trans hbl hm5.size
          clear htk1 hmo5 hrow5 hlr hm5 hlm r0 r1 x0 x1 x2 x3 hln2
          by_cases hz : lessO o p = []
          · rw [hln hz]
            clear hln
            go_wp2_with (at_builtin; refine wpList_append_own_none rfl _ _ 32 rfl (wo.heap.size + 1) 128 i0 4 tyOws hi _ _ _ rfl HROW.out rfl ?_)
            go_roundw
            case rel =>
              refine ⟨i + 1, HLT3.out, by go_num, ?_, HMO.out, s0, s1⟩
              rw [HTK.out, hz, List.append_nil]
              exact HROW.out
            case measure => have := HLT3.out; simp [intOf]; omega
          · obtain ⟨g5, cap5, hve, hg5⟩ := HLR.out.form (List.length_pos_iff.2 hz)
            subst hve
            clear hln
            have hn1 := HLR.out.cells (g := g5) rfl
            have hn2 : ∀ u ∈ (lessO o p).flatMap encOw, u.oneCell' = true := by
              intro u hu
              rw [List.mem_flatMap] at hu
              obtain ⟨x, _, hx⟩ := hu
              exact oneOw hx
            have hll := lessO_len o p
            have hn3 : Mi.length + (lessO o p).length ≤ 1000000 := by have := HLN2.out; omega
            have hn4 : (Mi.length + (lessO o p).length) * i0.bytes ≤ 140737488355328 := Nat.le_trans (Nat.mul_le_mul hn3 hz3) (by decide)
            have HN1 := Lib.hid hn1; have HN2 := Lib.hid hn2; have HN3 := Lib.hid hn3; have HN4 := Lib.hid hn4
            have hub : ∀ g, Value.ownBlock u9 = some g → wo.heap.size + 1 ≤ g := fun g hg => (HROW.out.lt g (by simpa using hg)).1
            have HUB := Lib.hid hub
            clear hn1 hn2 hn3 hn4 hub
            go_wp2_with (at_builtin; refine wpList_append_lies _ rfl _ _ 32 rfl (wo.heap.size + 1) 128 i0 z0 4 i0.bytes tyOws hi hz0 hz1 rfl hz2 (by decide) _ _ _ rfl HROW.out ⟨g5, 0, none⟩ _ _ ((lessO o p).flatMap encOw) rfl HLR.out.1 HN1.out HN2.out (List.length_pos_iff.2 hz) (Nat.le_trans HN3.out (by decide)) HN4.out hsz5 _ rfl ?_; intro c6 cap6 w6 hown hgrow hat hlt6; have G1 := Lib.hid hown; have G2 := Lib.hid hgrow; clear hown hgrow hat)
            go_roundw
            case rel =>
              have hfar : ∀ j, w6.cell? ⟨wo.heap.size, j, none⟩ = w5.cell? ⟨wo.heap.size, j, none⟩ := fun j => G2.out.cell_far _ (Nat.lt_of_lt_of_le (Nat.lt_succ_self _) hsz5) (fun e => absurd (HUB.out _ e.symm) (Nat.not_succ_le_self _))
              refine ⟨i + 1, HLT3.out, by go_num, ?_, ⟨G2.out.os.trans HMO.out.os, G2.out.tape.trans HMO.out.tape, G2.out.output.trans HMO.out.output, Nat.le_trans HMO.out.size G2.out.size, fun k hk _ => (G2.out.block k (Nat.lt_of_lt_of_le hk HMO.out.size) (fun e => by have := HUB.out _ e.symm; omega)).trans (HMO.out.block k hk (fun x => x))⟩, (hfar 0).trans s0, (hfar 1).trans s1⟩
              rw [HTK.out, List.length_append, List.flatMap_append]
              exact G1.out
            case measure => have := HLT3.out; simp [intOf]; omega
        · obtain rfl : i = l.length := by omega
          have d3 := HMI.out.cellS c3
          have e3 : wr.frozen? ⟨h, 3, none⟩ = false := (HMI.out.frozen (p := ⟨h, 3, none⟩) hhr (fun x => x)).trans f3
          have hhr2 : h < wr.heap.size := Nat.lt_of_lt_of_le hhr HMI.out.size
          obtain ⟨a9, m9, cap9, rfl⟩ := own_slice HR.out
          have hres := hold_left (own := Mi) HK.out HMI.out (HR.out.mono (Nat.le_succ _))
          rw [List.take_length] at HMi
          rw [HMi.out, HL.out, ← show (st.lostK (k + 1)) = _ from lost_succ HE.out] at hres
          have HRES := Lib.hid hres
          clear hres
          go_wp2_with fail
          rw [← HQ.out]
          go_wp2_with fail
          go_roundw
          case rel =>
            obtain ⟨B', r1, r2⟩ := HRES.out
            exact ⟨k + 1, B', HLT2.out, by go_num, r1, HT.out.trans r2⟩
          case measure => have := HLT2.out; simp [intOf]; omega
    · obtain rfl : k = (piecesA st.a).length := by omega
      have hhk := HK.out
      rw [lost_end] at hhk
      have HK2 := Lib.hid hhk
      clear HK hhk
      obtain ⟨st2, hst2⟩ : ∃ st2, st2 = { st with own := lostTo st.own (piecesA st.a) } := ⟨_, rfl⟩
      rw [← hst2] at HK2
      have HA2 : Hid (wo.cell? ⟨w1.heap.size, 0, none⟩ = some (.int .u64 st.a.f) ∧ wo.cell? ⟨w1.heap.size, 1, none⟩ = some (.int .u64 st.a.t)) := by
        have hn : w1.heap.size ∉ B := fun hb => by have := HLT.out _ hb; omega
        exact ⟨(HT.out.1.cell (p := ⟨w1.heap.size, 0, none⟩) (cell_lt' HA0.out) hn).trans HA0.out, (HT.out.1.cell (p := ⟨w1.heap.size, 1, none⟩) (cell_lt' HA1.out) hn).trans HA1.out⟩
      obtain ⟨a0, a1⟩ := HA2.out
      obtain ⟨vo, vp, s, L, q1, q2, q3, q4, q5, q6⟩ := HK2.out
      have c4 : wo.cell? ⟨h, 4, none⟩ = some (.pointer (some ⟨s, 0, none⟩)) := cell_of q1 4 rfl
      have hsm : st2.most = st.most := by rw [hst2]
      have q4' : ShelfAt wo s st.most tr n L := by rw [← hsm]; exact q4
      have hnL : L.Nodup := by
        have := HK2.out
        have h6 := q6
        rw [q5] at h6
        simp only [List.nodup_cons, List.nodup_append] at h6
        exact h6.2.2.1
      have hLw : w1.heap.size ∉ L ∧ h ∉ L := by
        have h6 := q6
        rw [q5] at h6
        simp only [List.nodup_cons, List.mem_append, not_or] at h6
        refine ⟨fun hb => ?_, h6.1.2⟩
        rcases HT.out.2 w1.heap.size (by rw [q5]; simp [hb]) with hb | hb
        · have := HLT.out _ hb; omega
        · have := cell_lt' HA1.out; dsimp only at this; omega
      have HQ4 := Lib.hid q4'; have HNL := Lib.hid hnL; have HLW := Lib.hid hLw
      clear q4' hnL hLw
      have Q1 := Lib.hid q1; have Q2 := Lib.hid q2; have Q3 := Lib.hid q3; have Q4 := Lib.hid q4; have Q6 := Lib.hid q6
      clear q1 q2 q3 q4 q6
      go_wp2_with fail
      go_region_held3 (fun W => W.cell? ⟨h, 4, none⟩ = some (.pointer (some ⟨s, 0, none⟩)) ∧ W.cell? ⟨w1.heap.size, 0, none⟩ = some (.int .u64 st.a.f) ∧ W.cell? ⟨w1.heap.size, 1, none⟩ = some (.int .u64 st.a.t)) (first | go_keep | exact ⟨by assumption, by assumption, by assumption⟩) ((first
        | (go_at_call 152; refine (HOUT.out _ s L (HQ4.out.mod (S := NoB) (by repeat (first | exact Mod.refl _ _ | refine Mod.drew ?_)) (fun _ _ x => x)) HNL.out).mono ?_; rintro e w5 ⟨⟨ov, rfl⟩, L', tr', n', hs5, hn5, ht5, hR5⟩
           have b0 : w5.cell? ⟨w1.heap.size, 0, none⟩ = some (.int .u64 st.a.f) := (ht5.1.cell (p := ⟨w1.heap.size, 0, none⟩) (cell_lt' a0) HLW.out.1).trans a0
           have b1 : w5.cell? ⟨w1.heap.size, 1, none⟩ = some (.int .u64 st.a.t) := (ht5.1.cell (p := ⟨w1.heap.size, 1, none⟩) (cell_lt' a1) HLW.out.1).trans a1
           have b4 : w5.cell? ⟨h, 4, none⟩ = some (.pointer (some ⟨s, 0, none⟩)) := (ht5.1.cell (p := ⟨h, 4, none⟩) (cell_lt' c4) HLW.out.2).trans c4
           have HS5 := Lib.hid hs5; have HRR := Lib.hid hR5; have HN5 := Lib.hid hn5; have HT5 := Lib.hid ht5; clear hs5 hn5 ht5 hR5)))
      have hsh := hold_shelf Q1.out Q2.out Q3.out (by rw [hsm]; exact HQ4.out) (by rw [← q5]; exact Q6.out) ((Mod.refl NoB wo).drew) (by rw [hsm]; exact HS5.out) HN5.out HT5.out
      rw [← q5] at hsh
      obtain ⟨B5, hh5, ht5⟩ := hsh
      have hs2 : st2.shut = true := by rw [hst2]; exact hs
      have HH5 := Lib.hid hh5; have HT25 := Lib.hid (HT.out.trans ht5)
      clear hh5 ht5
      go_wp2_with fail
      refine (gthaw_yes HH5.out hs2).mono ?_
      rintro e w6 ⟨rfl, hh6, ht6⟩
      have hnb : w1.heap.size ∉ B5 := fun hb => by
        rcases HT25.out.2 _ hb with hb | hb
        · have := HLT.out _ hb; omega
        · have := cell_lt' HA1.out; dsimp only at this; omega
      have d0 : w6.cell? ⟨w1.heap.size, 0, none⟩ = some (.int .u64 st.a.f) := (ht6.1.cell (p := ⟨w1.heap.size, 0, none⟩) (cell_lt' b0) hnb).trans b0
      have d1 : w6.cell? ⟨w1.heap.size, 1, none⟩ = some (.int .u64 st.a.t) := (ht6.1.cell (p := ⟨w1.heap.size, 1, none⟩) (cell_lt' b1) hnb).trans b1
      have HH6 := Lib.hid hh6; have HT26 := Lib.hid (HT25.out.trans ht6)
      have hpl6 : st2.pts.length ≤ 1000000 := by rw [hst2]; exact hpl
      clear hh6 ht6
      go_wp2_with fail
      go_region_held3 (fun W => W.cell? ⟨w1.heap.size, 0, none⟩ = some (.int .u64 st.a.f) ∧ W.cell? ⟨w1.heap.size, 1, none⟩ = some (.int .u64 st.a.t)) (first | go_keep | exact ⟨by assumption, by assumption⟩) ((first
        | (go_at_call 153; refine (gpoint_any (HH6.out.mod (S := NoB) (by repeat (first | exact Mod.refl _ _ | refine Mod.drew ?_)) (fun _ _ x => x)) st.a to hpl6).mono ?_; rintro e w7 ⟨⟨pv, rfl⟩, B7, hh7, ht7⟩
           have f0 : w7.cell? ⟨w1.heap.size, 0, none⟩ = some (.int .u64 st.a.f) := (ht7.1.cell (p := ⟨w1.heap.size, 0, none⟩) (cell_lt' d0) hnb).trans d0
           have f1 : w7.cell? ⟨w1.heap.size, 1, none⟩ = some (.int .u64 st.a.t) := (ht7.1.cell (p := ⟨w1.heap.size, 1, none⟩) (cell_lt' d1) hnb).trans d1
           have HH7 := Lib.hid hh7; have HT7 := Lib.hid ht7; clear hh7 ht7)))
      go_wp2_with fail
      go_ret
      refine ⟨rfl, B7, tr', n', ?_, ?_, HRR.out⟩
      · have := HH7.out
        rw [hst2] at this
        exact this
      · refine Turn.trans (B := B) ⟨HM2.out.mono (fun _ _ x => x.elim), fun _ hk => .inl hk⟩ (HT26.out.trans (Turn.trans (B := B5) ⟨(Mod.refl _ _).drew, fun _ hk => .inl hk⟩ HT7.out))

theorem lose_any {w : World} {h : Nat} {st : HSt} {tr : Option Tree} {n : Nat} {B : List Nat} (hh : HoldAt w h st tr n B) (hs : st.shut = true) (to : Int) (hlen : st.own.length ≤ 100000) (hpl : st.pts.length ≤ 1000000) {tr' : Option Tree} {n' : Nat}
    (hout : ∀ w1 s L, ShelfAt w1 s st.most tr n L → L.Nodup → Calls Tryz.prog 152 #[.pointer (some ⟨s, 0, none⟩), .agg #[.int .u64 st.a.f, .int .u64 st.a.t]] w1 fun e w2 => (∃ v, e = .returned v) ∧ ∃ L', ShelfAt w2 s st.most tr' n' L' ∧ L'.Nodup ∧ Turn L w1 w2 L') :
    Calls Tryz.prog 62 #[.pointer (some ⟨h, 0, none⟩), .int .i64 to] w fun e w' => e = .returned (.int .i64 0) ∧
      ∃ B', HoldAt w' h { st with own := lostTo st.own (piecesA st.a), shut := false, a := ⟨0, 0⟩, pts := st.pts ++ [⟨st.a.f, st.a.t, to, 0⟩] } tr' n' B' ∧ Turn B w w' B' := by
  refine (lose_gen (R := fun a b => a = tr' ∧ b = n') hh hs to hlen hpl (fun w1 s L h1 h2 => (hout w1 s L h1 h2).mono ?_)).mono ?_
  · rintro e w2 ⟨hv, L', q1, q2, q3⟩
    exact ⟨hv, L', tr', n', q1, q2, q3, rfl, rfl⟩
  · rintro e w' ⟨he, B', a, b, q1, q2, rfl, rfl⟩
    exact ⟨he, B', q1, q2⟩
end Go.Proofs.YtpcmbnbdppembaaGreatDoor
