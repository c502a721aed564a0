/- rosarylaw14.HoldShut, walked. -/
import Derived.Test.YtmagddchjidamaaGreatDoorHoldI
namespace Go.Proofs.YtmagddchjidamaaGreatDoor
set_option linter.unusedSimpArgs false
set_option linter.unusedVariables false
open Go.RowKit Go.Shelf
attribute [local go_sem ↓] Go.wp_at_zero Go.wp_at_succ

def stS0 : HSt := ⟨1, 200, 0, [], false, ⟨0, 0⟩, []⟩
def stS1 : HSt := ⟨1, 200, 0, [⟨0, 0, 1, 3⟩], false, ⟨0, 0⟩, []⟩
theorem stS1_of : ownSt stS0 ⟨0, 0⟩ 3 = stS1 := rfl
theorem stS1_whole : stS1.whole 3 := ⟨rfl, by decide⟩
def stS2 (a : Arc) : HSt := ⟨1, 200, 0, [⟨0, 0, 1, 3⟩], true, a, []⟩
theorem told_f1 (e v i m x n : Value) (W : World) : (Instr.field 37 (.agg #[e, v, i, m, x, n]) 1).run Tryz.prog W = .ok v W := by kernel_rfl

set_option maxRecDepth 100000 in
set_option maxHeartbeats 16000000 in
theorem shut_walk {w : World} {vl : Value} {l : List Itm} (hl : SlAt 2 encIt w vl l) (hll : l.length ≤ 9223372036854775807) {a : Arc} (ha : a.ok) {k v : ByteArray} (hk : k.size ≤ 9223372036854775807) (hv : v.size ≤ 9223372036854775807) :
    Calls Tryz.prog 6 #[vl, .agg #[.int .u64 a.f, .int .u64 a.t], .string k, .string v] w fun e w' => e = .returned (.bool true) ∧ Mod NoB w w' := by
  obtain ⟨al, capl, rfl, hx⟩ := id hl
  have HL := Lib.hid hl
  clear hl hx
  have HA := Lib.hid ha
  clear ha
  by_cases hc : l.length ≤ 40 ∧ 1 ≤ k.size ∧ k.size ≤ 16 ∧ v.size ≤ 16
  case neg =>
    have hcc : (40 : Int) < (l.length : Int) ∨ (¬ (40 : Int) < (l.length : Int) ∧ (k.size : Int) < 1) ∨ (¬ (40 : Int) < (l.length : Int) ∧ ¬ (k.size : Int) < 1 ∧ (16 : Int) < (k.size : Int)) ∨ (¬ (40 : Int) < (l.length : Int) ∧ ¬ (k.size : Int) < 1 ∧ ¬ (16 : Int) < (k.size : Int) ∧ (16 : Int) < (v.size : Int)) := by omega
    clear hc
    rcases hcc with h1 | ⟨h1, h2⟩ | ⟨h1, h2, h3⟩ | ⟨h1, h2, h3, h4⟩
    all_goals
      go_enter Tryz.func6, Tryz.ntmps6
      go_wp2_with fail
      refine (alive_any _).mono ?_
      rintro e w1 ⟨rfl, hm1⟩
      have M1 := Lib.hid ((((Mod.refl NoB w).alloc _)).trans hm1)
      clear hm1
      go_wp2_with fail
      go_ret
      exact ⟨rfl, M1.out⟩
  obtain ⟨c1, c2, c3, c4⟩ := hc
  have n1 : ¬ (40 : Int) < (l.length : Int) := by omega
  have n2 : ¬ (k.size : Int) < 1 := by omega
  have n3 : ¬ (16 : Int) < (k.size : Int) := by omega
  have n4 : ¬ (16 : Int) < (v.size : Int) := by omega
  go_enter Tryz.func6, Tryz.ntmps6
  go_wp2_with fail
  refine (alive_any _).mono ?_
  rintro e w1 ⟨rfl, hm1⟩
  have a0 := hm1.cellS (p := ⟨w.heap.size, 0, none⟩) (u := .int .u64 a.f) (by simp)
  have a1 := hm1.cellS (p := ⟨w.heap.size, 1, none⟩) (u := .int .u64 a.t) (by simp)
  have M1 := Lib.hid ((((Mod.refl NoB w).alloc _)).trans hm1)
  have A0 := Lib.hid a0; have A1 := Lib.hid a1
  clear hm1 a0 a1
  go_wp2_with fail
  refine (new_any 1 200 _ (by decide) (by decide)).mono ?_
  rintro e w2 ⟨h, B2, rfl, q1, q2, q3⟩
  have N2 : Hid (NewI w1 w2 h stS0 [] B2) := Lib.hid ⟨⟨none, 0, q1, ShOK.start⟩, q2, q3⟩
  have Q1 := Lib.hid q1
  clear q1 q2 q3
  go_wp2_with fail
  refine (own_any Q1.out ⟨0, 0⟩ 3 (by decide)).mono ?_
  rintro e w3 ⟨rfl, B3, hh3, ht3⟩
  rw [may_none (by decide) rfl] at hh3 ⊢
  rw [if_pos rfl] at hh3
  have N3 : Hid (NewI w1 w3 h stS1 [] B3) := Lib.hid (N2.out.turn ⟨none, 0, hh3, ShOK.start⟩ ht3)
  clear hh3 ht3 Q1 N2
  go_wp2_with fail
  go_loopw [53] (fun i wr => ∃ (j : Nat) (xs : List Itm) (B : List Nat), j ≤ l.length ∧ i = .int .i64 j ∧ NewI w1 wr h stS1 xs B ∧ xs.length ≤ j) (fun i _ => l.length - (intOf i).toNat)
  case atStart => exact ⟨0, [], B3, Nat.zero_le _, rfl, N3.out, Nat.le_refl _⟩
  case round =>
    obtain ⟨j, xs, B, hj, rfl, hN, hxl⟩ := hrel
    have NN := Lib.hid hN
    have MM := Lib.hid (M1.out.trans hN.2.1)
    clear hN
    by_cases hlt : j < l.length
    · have he : l[j]? = some l[j] := List.getElem?_eq_getElem hlt
      obtain ⟨b1, o1, cp1, hv1, _, p0, p1⟩ := at2 (HL.out.mod MM.out) he
      generalize l[j] = x at *
      clear he
      simp only [Value.slice.injEq] at hv1
      obtain ⟨rfl, _, rfl⟩ := hv1
      by_cases hx1 : x.1.size ≤ 40
      · have m1 : ¬ (40 : Int) < (x.1.size : Int) := by omega
        by_cases hx2 : x.2.size ≤ 40
        · have m2 : ¬ (40 : Int) < (x.2.size : Int) := by omega
          go_wp2_with fail
          have NA := Lib.hid (NN.out.quiet ((Mod.refl NoB _).alloc (.cells #[.string x.1, .string x.2] 43)))
          refine (do_put_any (st := stS1) NA.out.1 x.1 x.2 ⟨#[]⟩ 0 (by omega) (by omega) (by omega) (by decide) (by decide) (by decide)).mono ?_
          rintro e w5 ⟨rfl, B5, hh5, ht5⟩
          have N5 := Lib.hid (NA.out.turn hh5 ht5)
          have hlen := pput_any (st := stS1) (k := x.1) (v := x.2) NN.out.1.rising
          clear hh5 ht5
          go_wp2_with fail
          exact ⟨⟨j + 1, _, B5, by omega, by go_num, N5.out, by omega⟩, by simp [intOf]; omega⟩
        · have m2 : (40 : Int) < (x.2.size : Int) := by omega
          go_wp2_with fail
          go_ret
          exact ⟨rfl, MM.out.alloc _⟩
      · have m1 : (40 : Int) < (x.1.size : Int) := by omega
        go_wp2_with fail
        go_ret
        exact ⟨rfl, MM.out.alloc _⟩
    · obtain rfl : j = l.length := by omega
      have hx40 : xs.length ≤ 40 := by omega
            --TAIL
      go_wp2_with fail
      refine (hitems_any NN.out.1 (by omega)).mono ?_
      rintro e w6 ⟨vw, rfl, r1, r2, r3⟩
      have BW6 : Hid (Beside w6 vw xs B) := Lib.hid ⟨r1, fun g hg hb => absurd (NN.out.1.lts g hb) (by have := r3 g hg; omega)⟩
      have N6 := Lib.hid (NN.out.quiet r2)
      have b0 := N6.out.2.1.cellS A0.out
      have b1 := N6.out.2.1.cellS A1.out
      clear r1 r2 r3
      go_wp2_with fail
      obtain ⟨tr, n, hh6, ho6⟩ := N6.out.1
      have HO6 := Lib.hid ho6
      refine (freeze_whole hh6 (ep := 3) stS1_whole rfl HA.out (ho6.items (by omega)) (by omega)).mono ?_
      rintro e w7 ⟨vo, rfl, r1, r2, h7, t7⟩
      have N7 : Hid (NewI w1 w7 h (stS2 a) xs B) := Lib.hid (N6.out.turn ⟨tr, n, h7, HO6.out⟩ t7)
      have BW7 := Lib.hid (BW6.out.turn t7)
      have BO7 : Hid (Beside w7 vo ((arcIts a xs).take 200) B) := Lib.hid ⟨r1, fun g hg => (r2 g hg).2⟩
      have hin : ∀ x ∈ (arcIts a xs).take 200, inA a (addr x.1) = true := fun x hx => arcIts_in HA.out (List.mem_of_mem_take hx)
      have hil : ((arcIts a xs).take 200).length ≤ 200 := by rw [List.length_take]; omega
      clear r1 r2 h7 t7 hh6 ho6 HO6 b0 b1
      generalize (arcIts a xs).take 200 = its at *
      obtain ⟨av, ocap, rfl, _⟩ := id BO7.out.sl
      have HIN := Lib.hid hin
      clear hin
      go_wp2_with fail
      go_loopw [92] (fun i wr => ∃ j : Nat, j ≤ its.length ∧ i = .int .i64 j ∧ Mod NoB w7 wr) (fun i _ => its.length - (intOf i).toNat)
      case atStart => exact ⟨0, Nat.zero_le _, rfl, Mod.refl _ _⟩
      case round =>
        obtain ⟨j, hj, rfl, hmod⟩ := hrel
        obtain ⟨W8, rfl⟩ : ∃ W8 : World, W8 = wr := ⟨_, rfl⟩
        by_cases hlt : j < its.length
        · have he : its[j]? = some its[j] := List.getElem?_eq_getElem hlt
          obtain ⟨b1, o1, cp1, hv1, _, p0, p1⟩ := at2 ((BO7.out.quiet hmod).sl) he
          have hinx := HIN.out its[j] (List.getElem_mem hlt)
          generalize its[j] = x at *
          clear he
          simp only [Value.slice.injEq] at hv1
          obtain ⟨rfl, _, rfl⟩ := hv1
          have b0 := (N7.out.2.1.trans hmod).cellS A0.out
          have b1 := (N7.out.2.1.trans hmod).cellS A1.out
          have b0a : ∀ o, (W8.alloc o).cell? ⟨w.heap.size, 0, none⟩ = some (.int .u64 a.f) := fun o => ((Mod.refl NoB W8).alloc o).cellS b0
          have b1a : ∀ o, (W8.alloc o).cell? ⟨w.heap.size, 1, none⟩ = some (.int .u64 a.t) := fun o => ((Mod.refl NoB W8).alloc o).cellS b1
          have HINX := Lib.hid hinx
          have MOD := Lib.hid hmod
          clear hinx hmod
          go_upto_region 20 with (fail)
          go_cut [101] (fun s wx => s = .bool false ∧ Mod NoB W8 wx)
          case first =>
            go_region_law ((go_simp; (first | (go_at_call 23; refine (raddr_any x.1 _).mono ?_; rintro e w9 ⟨rfl, rfl⟩) | (go_at_call 20; refine (in_any a (addr x.1) _).mono ?_; rintro e w9 ⟨rfl, hm9⟩; rw [HINX.out]; have M9 := Lib.hid (Mod.trans (S := NoB) (a := W8) (by repeat (first | exact Mod.refl _ _ | refine Mod.alloc ?_ _ | refine Mod.drew ?_)) hm9); clear hm9))))
            all_goals
              go_wp2_with fail
              go_meet
              exact ⟨rfl, M9.out.trans (by repeat (first | exact Mod.refl _ _ | refine Mod.alloc ?_ _ | refine Mod.drew ?_))⟩
          case rest =>
            obtain ⟨rfl, hm⟩ := hcut
            have MM2 := Lib.hid (MOD.out.trans hm)
            clear hm
            go_wp2_with fail
            exact ⟨⟨j + 1, by omega, by go_num, MM2.out⟩, by simp [intOf]; omega⟩
        · obtain rfl : j = its.length := by omega
          have N8 := Lib.hid (N7.out.quiet hmod)
          have BW8 := Lib.hid (BW7.out.quiet hmod)
          clear N7 BW7 BO7 hmod
          go_wp2_with fail
          refine (do_put_any (st := stS2 a) N8.out.1 k v ⟨#[]⟩ 0 (by omega) (by omega) (by omega) (by simp [stS2]) (by simp [stS2]) (by simp [stS2])).mono ?_
          rintro e w10 ⟨rfl, B10, hh10, ht10⟩
          obtain ⟨pe1, pe2⟩ := pput_shut (st := stS2 a) (xs := xs) (k := k) (v := v) (ep := 3) ⟨rfl, by decide⟩ rfl c2 c3 c4 (by show (xs.length : Int) + 0 < 200; omega)
          have hle := pput_any (st := stS2 a) (k := k) (v := v) N8.out.1.rising
          have hpn : pNode (stS2 a) k = 0 := by
            have ha := whole_some (st := stS2 a) (ep := 3) ⟨rfl, by decide⟩ k
            unfold pNode
            split
            · rfl
            · rw [ha]; rfl
          rw [hpn, pe1]
          clear hpn pe1
          have N10 := Lib.hid (N8.out.turn hh10 ht10)
          have BW10 := Lib.hid (BW8.out.turn ht10)
          clear hh10 ht10
          dsimp only [encTold]
          have b0 := N10.out.2.1.cellS A0.out
          have b1 := N10.out.2.1.cellS A1.out
          have b0a : ∀ o, (w10.alloc o).cell? ⟨w.heap.size, 0, none⟩ = some (.int .u64 a.f) := fun o => ((Mod.refl NoB w10).alloc o).cellS b0
          have b1a : ∀ o, (w10.alloc o).cell? ⟨w.heap.size, 1, none⟩ = some (.int .u64 a.t) := fun o => ((Mod.refl NoB w10).alloc o).cellS b1
          have hf0 := told_f0
          have hf1 := told_f1
          cases hin : inA a (addr k) with
          | true =>
            have HIN := Lib.hid hin
            rw [pe2 hin] at N10
            have e7 : (if inA (stS2 a).a (addr k) = true then (7 : Int) else 0) = 7 := by show (if inA a (addr k) = true then (7 : Int) else 0) = 7; rw [hin]; rfl
            rw [e7]
            clear hin pe2 e7 hle
            have t0 : (w10.alloc (.cells #[.int .i64 7, .string ⟨#[]⟩, .slice none 0 0, .bool false, .string ⟨#[]⟩, .int .i64 0] 37)).cell? ⟨w10.heap.size, 0, none⟩ = some (.int .i64 7) := cell_of (heap_alloc_new w10 _) 0 rfl
            go_upto_region 24 with (fail)
            go_cut [115] (fun s wx => s = .bool false ∧ Mod NoB (w10.alloc (.cells #[.int .i64 7, .string ⟨#[]⟩, .slice none 0 0, .bool false, .string ⟨#[]⟩, .int .i64 0] 37)) wx)
            case first =>
              go_region_law ((go_simp; (first | (go_at_call 23; refine (raddr_any k _).mono ?_; rintro e w9 ⟨rfl, rfl⟩) | (go_at_call 20; refine (in_any a (addr k) _).mono ?_; rintro e w9 ⟨rfl, hm9⟩; rw [HIN.out]; have M9 := Lib.hid (Mod.trans (S := NoB) (a := (w10.alloc (.cells #[.int .i64 7, .string ⟨#[]⟩, .slice none 0 0, .bool false, .string ⟨#[]⟩, .int .i64 0] 37))) (by repeat (first | exact Mod.refl _ _ | refine Mod.drew ?_)) hm9); have t0' := M9.out.cellS t0; clear hm9))))
              all_goals
                go_wp2_with fail
                go_meet
                exact ⟨rfl, M9.out.trans (by repeat (first | exact Mod.refl _ _ | refine Mod.alloc ?_ _ | refine Mod.drew ?_))⟩
            case rest =>
              obtain ⟨rfl, hm⟩ := hcut
              obtain ⟨W11, rfl⟩ : ∃ W11 : World, W11 = wc := ⟨_, rfl⟩
              have t1 := hm.cellS t0
              have N11 := Lib.hid (N10.out.quiet (((Mod.refl NoB w10).alloc _).trans hm))
              have BW11 := Lib.hid (BW10.out.quiet (((Mod.refl NoB w10).alloc _).trans hm))
              clear hm t0 b0 b1 b0a b1a
              go_wp2_with fail
              refine (hitems_any N11.out.1 (by omega)).mono ?_
              rintro e w20 ⟨vq, rfl, r1, r2, r3⟩
              have I1 : Hid (ItemsAt w20 vq xs) := Lib.hid (own_slAt (k := 2) (enc := encIt) (l := xs) (fun _ => rfl) r1)
              have t2 := r2.cellS t1
              have N20 := Lib.hid (N11.out.quiet r2)
              have BW20 := Lib.hid (BW11.out.quiet r2)
              clear r1 r2 r3 t1
              go_wp2_with fail
              refine (sameItems_eq xs vq vw _ I1.out BW20.out.sl (by omega)).mono ?_
              rintro e w21 ⟨rfl, hm21⟩
              have t3 := hm21.cellS t2
              have N21 := Lib.hid (N20.out.quiet hm21)
              clear hm21 t2
              go_wp2_with fail
              refine (hthaw_any N21.out.1 rfl).mono ?_
              rintro e w12 ⟨⟨rv, rfl⟩, hh12, ht12⟩
              have N12 : Hid (NewI w1 w12 h stS1 xs B10) := Lib.hid (N21.out.turn hh12 ht12)
              clear hh12 ht12
              go_wp2_with fail
              refine (do_put_any (st := stS1) N12.out.1 k v ⟨#[]⟩ 0 (by omega) (by omega) (by omega) (by decide) (by decide) (by decide)).mono ?_
              rintro e w13 ⟨rfl, B13, hh13, ht13⟩
              obtain ⟨pe1, pe2, pe3⟩ := pput_open (st := stS1) (xs := xs) (k := k) (v := v) stS1_whole rfl c2 c3 c4 (by show (xs.length : Int) + 0 < 200; omega)
              rw [pe1, pe2]
              have N13 := Lib.hid (N12.out.turn hh13 ht13)
              have G13 := Lib.hid pe3
              clear hh13 ht13 pe1 pe2 pe3
              dsimp only [encTold]
              go_wp2_with fail
              refine (do_get_in (st := stS1) N13.out.1 k ⟨#[]⟩ ⟨#[]⟩ 0 c2 c3 (whole_some stS1_whole k) rfl G13.out).mono ?_
              rintro e w14 ⟨rfl, hm14⟩
              have M14 := Lib.hid (N13.out.2.1.trans hm14)
              clear hm14
              dsimp only [encTold]
              go_wp2_with fail
              go_ret
              exact ⟨rfl, M1.out.trans M14.out⟩
          | false =>
            have HIN := Lib.hid hin
            have e7 : (if inA (stS2 a).a (addr k) = true then (7 : Int) else 0) = 0 := by show (if inA a (addr k) = true then (7 : Int) else 0) = 0; rw [hin]; rfl
            rw [e7]
            clear hin pe2 e7
            have t0 : (w10.alloc (.cells #[.int .i64 0, .string ⟨#[]⟩, .slice none 0 0, .bool false, .string ⟨#[]⟩, .int .i64 0] 37)).cell? ⟨w10.heap.size, 0, none⟩ = some (.int .i64 0) := cell_of (heap_alloc_new w10 _) 0 rfl
            go_upto_region 24 with (fail)
            go_cut [115] (fun s wx => s = .bool false ∧ Mod NoB (w10.alloc (.cells #[.int .i64 0, .string ⟨#[]⟩, .slice none 0 0, .bool false, .string ⟨#[]⟩, .int .i64 0] 37)) wx)
            case first =>
              go_region_law ((go_simp; (first | (go_at_call 23; refine (raddr_any k _).mono ?_; rintro e w9 ⟨rfl, rfl⟩) | (go_at_call 20; refine (in_any a (addr k) _).mono ?_; rintro e w9 ⟨rfl, hm9⟩; rw [HIN.out]; have M9 := Lib.hid (Mod.trans (S := NoB) (a := (w10.alloc (.cells #[.int .i64 0, .string ⟨#[]⟩, .slice none 0 0, .bool false, .string ⟨#[]⟩, .int .i64 0] 37))) (by repeat (first | exact Mod.refl _ _ | refine Mod.drew ?_)) hm9); have t0' := M9.out.cellS t0; clear hm9))))
              all_goals
                go_wp2_with fail
                go_meet
                exact ⟨rfl, M9.out.trans (by repeat (first | exact Mod.refl _ _ | refine Mod.alloc ?_ _ | refine Mod.drew ?_))⟩
            case rest =>
              obtain ⟨rfl, hm⟩ := hcut
              obtain ⟨W11, rfl⟩ : ∃ W11 : World, W11 = wc := ⟨_, rfl⟩
              have t1 := hm.cellS t0
              have N11 := Lib.hid (N10.out.quiet (((Mod.refl NoB w10).alloc _).trans hm))
              have BW11 := Lib.hid (BW10.out.quiet (((Mod.refl NoB w10).alloc _).trans hm))
              clear hm t0 b0 b1 b0a b1a
              go_wp2_with fail
              refine (hthaw_any N11.out.1 rfl).mono ?_
              rintro e w12 ⟨⟨rv, rfl⟩, hh12, ht12⟩
              have N12 : Hid (NewI w1 w12 h stS1 (pIts (stS2 a) k v xs) B10) := Lib.hid (N11.out.turn hh12 ht12)
              clear hh12 ht12
              go_wp2_with fail
              refine (do_put_any (st := stS1) N12.out.1 k v ⟨#[]⟩ 0 (by omega) (by omega) (by omega) (by decide) (by decide) (by decide)).mono ?_
              rintro e w13 ⟨rfl, B13, hh13, ht13⟩
              obtain ⟨pe1, pe2, pe3⟩ := pput_open (st := stS1) (xs := (pIts (stS2 a) k v xs)) (k := k) (v := v) stS1_whole rfl c2 c3 c4 (by show ((pIts (stS2 a) k v xs).length : Int) + 0 < 200; omega)
              rw [pe1, pe2]
              have N13 := Lib.hid (N12.out.turn hh13 ht13)
              have G13 := Lib.hid pe3
              clear hh13 ht13 pe1 pe2 pe3
              dsimp only [encTold]
              go_wp2_with fail
              refine (do_get_in (st := stS1) N13.out.1 k ⟨#[]⟩ ⟨#[]⟩ 0 c2 c3 (whole_some stS1_whole k) rfl G13.out).mono ?_
              rintro e w14 ⟨rfl, hm14⟩
              have M14 := Lib.hid (N13.out.2.1.trans hm14)
              clear hm14
              dsimp only [encTold]
              go_wp2_with fail
              go_ret
              exact ⟨rfl, M1.out.trans M14.out⟩
end Go.Proofs.YtmagddchjidamaaGreatDoor
