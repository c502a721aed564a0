/- walk.Arc: the items in an arc, one by one. -/
import Derived.Test.YtpcmbnbdppembaaGreatDoorKeeps
import Derived.RangeFuncCalls
import Derived.Shelf.Abstract
import Derived.Shelf.RegionOpen
import Derived.OwnWalkIn
import Derived.TacticsInMore
import Derived.LoopNIn
import Derived.LoopIn
namespace Go.Proofs.YtpcmbnbdppembaaGreatDoor
set_option linter.unusedSimpArgs false
set_option linter.unusedVariables false
open Go.RowKit Go.Shelf
attribute [local go_sem] Oper.semAt_some

def inP (p : Arc) (x : Itm) : Bool := hasP p (addr x.1)
def arcIts (a : Arc) (xs : List Itm) : List Itm := (piecesA a).flatMap (fun p => xs.filter (inP p))
/-- what has come when k pieces are over, and of the next one the first j items -/
def arcUpto (a : Arc) (xs : List Itm) (k : Nat) : List Itm := ((piecesA a).take k).flatMap (fun p => xs.filter (inP p))

theorem arcUpto_succ {a : Arc} {xs : List Itm} {k : Nat} {p : Arc} (h : (piecesA a)[k]? = some p) : arcUpto a xs (k + 1) = arcUpto a xs k ++ xs.filter (inP p) := by
  simp [arcUpto, List.take_add_one, h, List.flatMap_append]
theorem arcUpto_pre {a : Arc} {xs : List Itm} {k j : Nat} {p : Arc} (h : (piecesA a)[k]? = some p) : arcUpto a xs k ++ (xs.take j).filter (inP p) <+: arcIts a xs := by
  have hk : k < (piecesA a).length := (List.getElem?_eq_some_iff.1 h).1
  have h1 : arcIts a xs = arcUpto a xs (k + 1) ++ ((piecesA a).drop (k + 1)).flatMap (fun p => xs.filter (inP p)) := by
    unfold arcIts arcUpto
    rw [← List.flatMap_append, List.take_append_drop]
  rw [h1, arcUpto_succ h]
  have h2 : xs.filter (inP p) = (xs.take j).filter (inP p) ++ (xs.drop j).filter (inP p) := by rw [← List.filter_append, List.take_append_drop]
  rw [h2]
  refine ⟨(xs.drop j).filter (inP p) ++ ((piecesA a).drop (k + 1)).flatMap (fun p => xs.filter (inP p)), by simp only [List.append_assoc]⟩

theorem filt_no {p : Arc} {xs : List Itm} {j : Nat} {x : Itm} (h : xs[j]? = some x) (hn : inP p x = false) : (xs.take (j + 1)).filter (inP p) = (xs.take j).filter (inP p) := by
  simp [List.take_add_one, h, List.filter_append, hn]
theorem filt_yes {p : Arc} {xs : List Itm} {j : Nat} {x : Itm} (h : xs[j]? = some x) (hn : inP p x = true) : (xs.take (j + 1)).filter (inP p) = (xs.take j).filter (inP p) ++ [x] := by
  simp [List.take_add_one, h, List.filter_append, hn]

abbrev encKV (x : Itm) : Array Value := #[.string x.1, .string x.2]

theorem at2a {w : World} {v : Value} {l : List Arc} (h : SlAt 2 encArc w v l) {i : Nat} {p : Arc} (hi : l[i]? = some p) : ∃ b o cap, v = .slice (some ⟨b, o, none⟩) l.length cap ∧ b < w.heap.size ∧
    w.cell? ⟨b, o + i * 2, none⟩ = some (.int .u64 p.f) ∧ w.cell? ⟨b, o + i * 2 + 1, none⟩ = some (.int .u64 p.t) := by
  obtain ⟨a, cap, hv, hx⟩ := h
  obtain ⟨b, o, rfl, hj⟩ := hx i p hi
  have h0 := hj 0 _ rfl
  exact ⟨b, o, cap, hv, cell_lt' h0, h0, hj 1 _ rfl⟩

theorem abN {β : Type} {B0 : Nat} {J : β → World → Prop} (hJ : AbidesFrom B0 J) {s : β} {A B : World} (h : J s A) (hm : Mod NoB A B) : J s B :=
  hJ s A B none h (Mod.grown hm) (fun r e => by cases e)

structure ArcInv (Bo pb : Nat) (vl : Value) (a : Arc) (xs : List Itm) (Lx : List Nat) (J : List Itm → World → Prop) (pre : List Itm) (wr : World) : Prop where
  ap : Apart Bo wr (Lx ++ pb :: ownL vl)
  items : SlAt 2 encIt wr vl xs
  pieces : SlAt 2 encArc wr (.slice (some ⟨pb, 0, none⟩) (piecesA a).length (piecesA a).length) (piecesA a)
  j : J pre wr

theorem ArcInv.mod {Bo pb : Nat} {vl : Value} {a : Arc} {xs : List Itm} {Lx : List Nat} {J : List Itm → World → Prop} {pre : List Itm} {wr w' : World} {B0 : Nat} (hJ : AbidesFrom B0 J) (h : ArcInv Bo pb vl a xs Lx J pre wr) (hm : Mod NoB wr w') : ArcInv Bo pb vl a xs Lx J pre w' :=
  ⟨h.ap.more hm (fun g hg => .inl hg), h.items.mod hm, h.pieces.mod hm, abN hJ h.j hm⟩

theorem ArcInv.keep {Bo pb : Nat} {vl : Value} {a : Arc} {xs : List Itm} {Lx : List Nat} {J : List Itm → World → Prop} {pre pre' : List Itm} {wr w' : World} (h : ArcInv Bo pb vl a xs Lx J pre wr) (hk : KeepsC Bo wr w') (hj : J pre' w') : ArcInv Bo pb vl a xs Lx J pre' w' :=
  ⟨h.ap.keep hk, slAt_keep h.items hk (fun g hg => h.ap.not g (by simp [hg])), slAt_keep h.pieces hk (fun g hg => h.ap.not g (by simp [ownL, Value.ownBlock] at hg; simp [hg])), hj⟩

set_option maxRecDepth 100000 in
set_option maxHeartbeats 8000000 in
theorem arc1_in {n : Nat} (hn : 1 ≤ n) (l Bs Ba Bo s : Nat) {most : Int} {tr : Option Tree} {cnt : Nat} {L : List Nat} {xs : List Itm} (hI : ItemsOK tr xs) (hxl : xs.length ≤ 1000000) {a : Arc} (ha : a.ok) (J Jx : List Itm → World → Prop) (W : World)
    (hJ : AbidesFrom W.heap.size J)
    (hY : ∀ pre x W1, J pre W1 → pre.length < (arcIts a xs).length → YieldAt Fence.wide (n - 1) Tryz.prog l (encKV x) W1 fun e W' =>
      (e = .returned (.bool true) ∧ J (pre ++ [x]) W' ∧ KeepsC Bo W1 W') ∨ (e = .returned (.bool false) ∧ Jx (pre ++ [x]) W'))
    (hs : W.cell? ⟨Bs, 0, none⟩ = some (.pointer (some ⟨s, 0, none⟩))) (ha0 : W.cell? ⟨Ba, 0, none⟩ = some (.int .u64 a.f)) (ha1 : W.cell? ⟨Ba, 1, none⟩ = some (.int .u64 a.t))
    (hsh : ShelfAt W s most tr cnt L) (hap : Apart Bo W []) (h0 : J [] W) :
    CallsIn Fence.wide n Tryz.prog 166 #[.func (.yield l) #[] #[], .pointer (some ⟨Bs, 0, none⟩), .pointer (some ⟨Ba, 0, none⟩)] W fun e W' => (∃ v, e = .returned v) ∧
      ((∃ ys, ys = arcIts a xs ∧ J ys W') ∨ (∃ pre, pre <+: arcIts a xs ∧ Jx pre W')) := by
  have HY := Lib.hid hY
  have HJ := Lib.hid hJ
  have HSH := Lib.hid hsh
  have HAP := Lib.hid hap
  have H0 := Lib.hid h0
  clear hY hJ hsh hap h0
  refine callsIn_wide.2 ?_
  go_enter Tryz.func166, Tryz.ntmps166
  go_wp2_with fail
  go_step3
  go_wp2_with fail
  refine (hI W s most cnt L HSH.out).mono ?_
  rintro e w1 ⟨vl, rfl, hl1, hl2, hl3⟩
  have ha0' := hl2.cellS ha0
  have ha1' := hl2.cellS ha1
  have HL1 := Lib.hid hl1; have HL2 := Lib.hid hl2; have HL3 := Lib.hid hl3
  clear hl1 hl2 hl3 hs ha0 ha1
  go_wp2_with fail
  go_step3
  go_wp2_with fail
  refine (pieces_at a _).mono ?_
  rintro e w2 ⟨pb, rfl, hp1, hp2, hp3⟩
  have hinv : ArcInv Bo pb vl a xs [] J (arcUpto a xs 0) w2 := by
    have hm := HL2.out.trans hp3
    have h2 := own_slAt (k := 2) (enc := encIt) (fun _ => rfl) HL1.out
    refine ⟨HAP.out.more hm (fun g hg => .inr ?_), h2.mod hp3, hp2, abN HJ.out (by simpa [arcUpto] using H0.out) hm⟩
    simp only [List.nil_append, List.mem_cons] at hg
    rcases hg with rfl | hg
    · refine ⟨Nat.le_trans HL2.out.size hp1, ?_⟩
      obtain ⟨av, cap, hv, hx⟩ := hp2
      have hpl : 0 < (piecesA a).length := by unfold piecesA; split <;> simp
      obtain ⟨b', o', cap', hv2, hb2, _⟩ := at2a ⟨av, cap, hv, hx⟩ (List.getElem?_eq_getElem hpl)
      simp only [Value.slice.injEq, Option.some.injEq, Addr.mk.injEq] at hv2
      omega
    · exact ⟨HL3.out g hg, Nat.lt_of_lt_of_le (own_lt HL1.out g hg) hp3.size⟩
  obtain ⟨av, capl, rfl, _⟩ := id hinv.items
  have HINV := Lib.hid hinv
  clear hinv hp1 hp2 hp3 ha0' ha1' HL1 HL2 HL3 HSH HAP H0 hI
  have hlen2 : (piecesA a).length ≤ 2 := by unfold piecesA; split <;> simp
  go_wp2_with fail
  go_loopw [15] (fun i wr => ∃ k : Nat, k ≤ (piecesA a).length ∧ i = .int .i64 k ∧ ArcInv Bo pb (.slice av xs.length capl) a xs [] J (arcUpto a xs k) wr) (fun i _ => (piecesA a).length - (intOf i).toNat)
  case atStart => exact ⟨0, Nat.zero_le _, rfl, HINV.out⟩
  case round =>
    clear HINV
    obtain ⟨k, hk, rfl, hinv⟩ := hrel
    have HINV := Lib.hid hinv
    clear hinv
    by_cases hlt : k < (piecesA a).length
    · have he : (piecesA a)[k]? = some (piecesA a)[k] := List.getElem?_eq_getElem hlt
      have hpo := piecesA_ok ha (piecesA a)[k] (List.getElem_mem hlt)
      generalize (piecesA a)[k] = p at he hpo
      obtain ⟨b', o', cap', hv, hb', p0, p1⟩ := at2a HINV.out.pieces he
      simp only [Value.slice.injEq, Option.some.injEq, Addr.mk.injEq] at hv
      obtain ⟨⟨rfl, rfl, _⟩, _, rfl⟩ := hv
      simp only [Nat.zero_add] at p0 p1
      have HE := Lib.hid he
      have HPO := Lib.hid hpo
      clear he hpo
      have HLT := Lib.hid hlt
      go_wp2_with fail
      have hinv6 : ArcInv Bo pb (.slice av xs.length capl) a xs [wr.heap.size] J (arcUpto a xs k ++ (xs.take 0).filter (inP p)) (wr.alloc (.cells #[.int .u64 p.f, .int .u64 p.t] 25)) := by
        have h1 := HINV.out.mod HJ.out ((Mod.refl NoB wr).alloc (.cells #[.int .u64 p.f, .int .u64 p.t] 25))
        refine ⟨HINV.out.ap.more ((Mod.refl NoB wr).alloc (.cells #[.int .u64 p.f, .int .u64 p.t] 25)) (fun g hg => ?_), h1.items, h1.pieces, by simpa using h1.j⟩
        simp only [List.mem_append, List.mem_singleton, List.nil_append] at hg ⊢
        rcases hg with rfl | hg
        · exact .inr ⟨Nat.le_refl _, by simp⟩
        · exact .inl hg
      have HINV6 := Lib.hid hinv6
      clear hinv6
      obtain ⟨B6, hB6⟩ : ∃ B6, B6 = wr.heap.size := ⟨_, rfl⟩
      go_hide hQ
      have HQ := Lib.hid hQ
      refine (wpIn_wide (n := n)).1 ?_
      gi_loopw [21] (fun i wi => ∃ j : Nat, j ≤ xs.length ∧ i = .int .i64 j ∧ ArcInv Bo pb (.slice av xs.length capl) a xs [B6] J (arcUpto a xs k ++ (xs.take j).filter (inP p)) wi ∧
        wi.cell? ⟨B6, 0, none⟩ = some (.int .u64 p.f) ∧ wi.cell? ⟨B6, 1, none⟩ = some (.int .u64 p.t)) (fun i _ => xs.length - (intOf i).toNat)
      case atStart => exact ⟨0, Nat.zero_le _, rfl, hB6 ▸ HINV6.out, by rw [hB6]; simp, by rw [hB6]; simp⟩
      case round =>
        clear HINV6 HINV
        obtain ⟨j, hj, rfl, hinvj, q0, q1⟩ := hrel
        subst hB6
        have HINV := Lib.hid hinvj
        have Q0 := Lib.hid q0
        have Q1 := Lib.hid q1
        clear hinvj
        by_cases hltj : j < xs.length
        · have hex : xs[j]? = some xs[j] := List.getElem?_eq_getElem hltj
          generalize xs[j] = x at hex
          obtain ⟨b', o', cap', hv, hb', r0, r1⟩ := at2 HINV.out.items hex
          simp only [Value.slice.injEq] at hv
          obtain ⟨rfl, _, rfl⟩ := hv
          have HX := Lib.hid hex
          clear hex
          have HLJ := Lib.hid hltj
          have hbB := cell_lt' Q0.out
          have hneB := Nat.ne_of_lt hbB
          simp only at hbB hneB
          have had := addr_64 x.1
          obtain ⟨hd1, hd2⟩ := had
          have hca := addr_any x.1
          obtain ⟨⟨hf1, hf2⟩, ⟨ht1, ht2⟩⟩ := HPO.out.1
          have HAD : Hid (inP p x = hasP p (addr x.1)) := rfl
          generalize addr x.1 = ad at *
          by_cases c1 : ad < p.f
          · have hno : inP p x = false := by rw [HAD.out]; simp [hasP]; omega
            have HNO := Lib.hid hno
            clear hno
            gi_wp2_with (refine ⟨trivial, ?_⟩; gi_at_call 53; refine (callsIn_wide.2 (hca _)).mono ?_; rintro e w9 ⟨rfl, rfl⟩)
            refine ⟨⟨j + 1, HLJ.out, by go_num, ?_, Lib.cell?_alloc_some _ Q0.out, Lib.cell?_alloc_some _ Q1.out⟩, by have := HLJ.out; simp [intOf]; omega⟩
            rw [filt_no HX.out HNO.out]
            exact HINV.out.mod HJ.out ((Mod.refl _ _).alloc _)
          · have c1' : p.f ≤ ad := by omega
            by_cases c2 : p.t = 0
            · have hyes : inP p x = true := by rw [HAD.out]; simp [hasP, c2]; omega
              have c2n : ¬ 0 < p.t := by omega
              clear c2
              have HYES := Lib.hid hyes
              clear hyes
              have hinvA := HINV.out.mod HJ.out ((Mod.refl NoB wr).alloc (.cells #[.string x.1, .string x.2] 73))
              have HPRE := Lib.hid (arcUpto_pre (j := j + 1) (xs := xs) HE.out)
              obtain ⟨fn, tmps, assign, body, hy, hR⟩ := HY.out _ x _ hinvA.j (by
                have h1 := HPRE.out.length_le
                rw [filt_yes HX.out HYES.out, ← List.append_assoc, List.length_append] at h1
                simp only [List.length_cons, List.length_nil] at h1
                omega)
              have HA := Lib.hid hinvA
              clear hinvA
              gi_wp2_with (refine ⟨trivial, ?_⟩; gi_at_call 53; refine (callsIn_wide.2 (hca _)).mono ?_; rintro e w9 ⟨rfl, rfl⟩)
              refine hR.mono ?_
              clear hR hy
              rintro e W3 (⟨rfl, hJ3, hk3⟩ | ⟨rfl, hJx3⟩)
              · have HJ3 := Lib.hid hJ3
                have HK3 := Lib.hid hk3
                clear hJ3 hk3
                gi_wp2
                refine ⟨⟨j + 1, HLJ.out, by go_num, ?_, HK3.out.cell (Lib.cell?_alloc_some _ Q0.out) (HA.out.ap.not _ (by simp)), HK3.out.cell (Lib.cell?_alloc_some _ Q1.out) (HA.out.ap.not _ (by simp))⟩, by have := HLJ.out; simp [intOf]; omega⟩
                rw [filt_yes HX.out HYES.out, ← List.append_assoc]
                exact HA.out.keep HK3.out HJ3.out
              · have HJX := Lib.hid hJx3
                clear hJx3
                gi_wp2
                rw [← HQ.out]
                go_wp2_with fail
                rw [Exit.noGoto_normal]
                go_end0
                refine ⟨⟨_, rfl⟩, .inr ⟨_, ?_, HJX.out⟩⟩
                have h1 := HPRE.out
                rw [filt_yes HX.out HYES.out, ← List.append_assoc] at h1
                exact h1
            · have c2' : 0 < p.t := by omega
              by_cases c3 : p.t ≤ ad
              · have hno : inP p x = false := by rw [HAD.out]; simp [hasP, c2]; omega
                have HNO := Lib.hid hno
                clear hno
                gi_wp2_with (refine ⟨trivial, ?_⟩; gi_at_call 53; refine (callsIn_wide.2 (hca _)).mono ?_; rintro e w9 ⟨rfl, rfl⟩)
                refine ⟨⟨j + 1, HLJ.out, by go_num, ?_, Lib.cell?_alloc_some _ Q0.out, Lib.cell?_alloc_some _ Q1.out⟩, by have := HLJ.out; simp [intOf]; omega⟩
                rw [filt_no HX.out HNO.out]
                exact HINV.out.mod HJ.out ((Mod.refl _ _).alloc _)
              · have c3' : ad < p.t := by omega
                have hyes : inP p x = true := by rw [HAD.out]; simp [hasP, c2]; omega
                have HYES := Lib.hid hyes
                clear hyes
                have hinvA := HINV.out.mod HJ.out ((Mod.refl NoB wr).alloc (.cells #[.string x.1, .string x.2] 73))
                have HPRE := Lib.hid (arcUpto_pre (j := j + 1) (xs := xs) HE.out)
                obtain ⟨fn, tmps, assign, body, hy, hR⟩ := HY.out _ x _ hinvA.j (by
                  have h1 := HPRE.out.length_le
                  rw [filt_yes HX.out HYES.out, ← List.append_assoc, List.length_append] at h1
                  simp only [List.length_cons, List.length_nil] at h1
                  omega)
                have HA := Lib.hid hinvA
                clear hinvA
                gi_wp2_with (refine ⟨trivial, ?_⟩; gi_at_call 53; refine (callsIn_wide.2 (hca _)).mono ?_; rintro e w9 ⟨rfl, rfl⟩)
                refine hR.mono ?_
                clear hR hy
                rintro e W3 (⟨rfl, hJ3, hk3⟩ | ⟨rfl, hJx3⟩)
                · have HJ3 := Lib.hid hJ3
                  have HK3 := Lib.hid hk3
                  clear hJ3 hk3
                  gi_wp2
                  refine ⟨⟨j + 1, HLJ.out, by go_num, ?_, HK3.out.cell (Lib.cell?_alloc_some _ Q0.out) (HA.out.ap.not _ (by simp)), HK3.out.cell (Lib.cell?_alloc_some _ Q1.out) (HA.out.ap.not _ (by simp))⟩, by have := HLJ.out; simp [intOf]; omega⟩
                  rw [filt_yes HX.out HYES.out, ← List.append_assoc]
                  exact HA.out.keep HK3.out HJ3.out
                · have HJX := Lib.hid hJx3
                  clear hJx3
                  gi_wp2
                  rw [← HQ.out]
                  go_wp2_with fail
                  rw [Exit.noGoto_normal]
                  go_end0
                  refine ⟨⟨_, rfl⟩, .inr ⟨_, ?_, HJX.out⟩⟩
                  have h1 := HPRE.out
                  rw [filt_yes HX.out HYES.out, ← List.append_assoc] at h1
                  exact h1
        · obtain rfl : j = xs.length := by omega
          gi_wp2
          rw [← HQ.out]
          go_wp2_with fail
          refine ⟨⟨k + 1, HLT.out, by go_num, ?_⟩, by have := HLT.out; simp [intOf]; omega⟩
          have h1 := HINV.out
          rw [List.take_length, ← arcUpto_succ HE.out] at h1
          exact ⟨⟨h1.ap.lt, h1.ap.all, fun g hg => h1.ap.not g (by simp at hg ⊢; exact .inr hg), fun g hg => h1.ap.old g (by simp at hg ⊢; exact .inr hg)⟩, h1.items, h1.pieces, h1.j⟩
    · obtain rfl : k = (piecesA a).length := by omega
      go_wp2_with fail
      rw [Exit.noGoto_normal]
      go_end0
      refine ⟨⟨_, rfl⟩, .inl ⟨_, rfl, ?_⟩⟩
      have := HINV.out.j
      simpa [arcUpto, arcIts, List.take_length] using this
end Go.Proofs.YtpcmbnbdppembaaGreatDoor
