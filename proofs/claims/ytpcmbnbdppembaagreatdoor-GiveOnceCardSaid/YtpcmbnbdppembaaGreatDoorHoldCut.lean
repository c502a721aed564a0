/- cut.Out of every shelf; a hold's Lose of every shelf; a hold's Get of what is not there, and Del. -/
import Derived.Test.YtpcmbnbdppembaaGreatDoorShelfDel
namespace Go.Proofs.YtpcmbnbdppembaaGreatDoor
set_option linter.unusedSimpArgs false
set_option linter.unusedVariables false
open Go.RowKit Go.Shelf
attribute [local go_sem ↓] Go.wp_at_zero Go.wp_at_succ

/-- what is left behind cut.Out -/
def outK (a : Arc) (xs : List Itm) (k : Nat) : List Itm := (((arcIts a xs).take 200).take k).foldl (fun l x => delS x.1 l) xs
def outS (a : Arc) (xs : List Itm) : List Itm := outK a xs ((arcIts a xs).take 200).length

theorem outK_succ {a : Arc} {xs : List Itm} {k : Nat} {x : Itm} (h : ((arcIts a xs).take 200)[k]? = some x) : outK a xs (k + 1) = delS x.1 (outK a xs k) := by
  unfold outK
  rw [List.take_add_one, h, List.foldl_append]
  rfl
theorem delS_le (k : ByteArray) (l : List Itm) : (delS k l).length ≤ l.length := List.length_filter_le _ _
theorem outK_le (a : Arc) (xs : List Itm) : (k : Nat) → (outK a xs k).length ≤ xs.length
  | 0 => Nat.le_refl _
  | k + 1 => by
    cases h : ((arcIts a xs).take 200)[k]? with
    | none =>
      have hk := List.getElem?_eq_none_iff.1 h
      have : outK a xs (k + 1) = outK a xs k := by
        unfold outK
        rw [List.take_of_length_le (by omega), List.take_of_length_le hk]
      rw [this]
      exact outK_le a xs k
    | some x =>
      rw [outK_succ h]
      exact Nat.le_trans (delS_le _ _) (outK_le a xs k)

theorem arcIts_mem {a : Arc} {xs : List Itm} {x : Itm} (h : x ∈ arcIts a xs) : x ∈ xs := by
  unfold arcIts at h
  rw [List.mem_flatMap] at h
  obtain ⟨p, _, hx⟩ := h
  exact (List.mem_filter.1 hx).1

theorem cut_any {w : World} {s : Nat} {most : Int} {tr : Option Tree} {n : Nat} {L : List Nat} {xs : List Itm} (ho : ShOK tr xs n) (hxl : xs.length ≤ 100000) {a : Arc} (ha : a.ok) (hsh : ShelfAt w s most tr n L) (hnd : L.Nodup) :
    Calls Tryz.prog 152 #[.pointer (some ⟨s, 0, none⟩), .agg #[.int .u64 a.f, .int .u64 a.t]] w fun e w2 => (∃ v, e = .returned v) ∧ ∃ L' tr' n', ShelfAt w2 s most tr' n' L' ∧ L'.Nodup ∧ Turn L w w2 L' ∧ ShOK tr' (outS a xs) n' := by
  refine cut_gen (ho.items hxl) (by omega) ha hsh hnd (fun k tr n => ShOK tr (outK a xs k) n) ho (fun k x hx tr n ht w L hs hn => ?_)
  have hxm := arcIts_mem (List.mem_of_mem_take (List.mem_of_getElem? hx))
  refine (sdel_any hs hn ht x.1 (Nat.le_trans (ho.2.2.1 x hxm) (by decide)) (Nat.le_trans (outK_le a xs k) (by omega))).mono ?_
  rintro e w' ⟨rfl, tr', n', L', q1, q2, q3, q4⟩
  exact ⟨⟨_, rfl⟩, tr', n', L', q1, q2, q3, by rw [outK_succ hx]; exact q4⟩

/-- Lose, whatever the shelf is -/
theorem lose_I {w : World} {h : Nat} {st : HSt} {xs : List Itm} {B : List Nat} (hh : HoldI w h st xs B) (hs : st.shut = true) (kt : Int) (ha : st.a.ok) (hxl : xs.length ≤ 100000) (hlen : st.own.length ≤ 100000) (hpl : st.pts.length ≤ 1000000) :
    Calls Tryz.prog 62 #[.pointer (some ⟨h, 0, none⟩), .int .i64 kt] w fun e w' => e = .returned (.int .i64 0) ∧
      ∃ B', HoldI w' h { st with own := lostTo st.own (piecesA st.a), shut := false, a := ⟨0, 0⟩, pts := st.pts ++ [⟨st.a.f, st.a.t, kt, 0⟩] } (outS st.a xs) B' ∧ Turn B w w' B' := by
  obtain ⟨tr, n, hh, ho⟩ := hh
  refine (lose_gen (R := fun tr' n' => ShOK tr' (outS st.a xs) n') hh hs kt hlen hpl (fun w1 s L h1 h2 => cut_any ho hxl ha h1 h2)).mono ?_
  rintro e w' ⟨he, B', tr', n', q1, q2, q3⟩
  exact ⟨he, B', ⟨tr', n', q1, q3⟩, q2⟩

set_option maxRecDepth 100000 in
set_option maxHeartbeats 8000000 in
theorem do_miss1 {w : World} {h : Nat} {st : HSt} {xs : List Itm} {B : List Nat} (hh : HoldI w h st xs B) (k v kt : ByteArray) (most : Int) (hk1 : 1 ≤ k.size) (hk2 : k.size ≤ 16)
    (hat : (st.at (addr k)).isSome = true) (hf : (st.shut && inA st.a (addr k)) = false) (hg : getS k xs = none) :
    Calls Tryz.prog 16 #[.pointer (some ⟨h, 0, none⟩), encAsk 1 k v kt most] w fun e w' => e = .returned (encTold 6 ⟨#[]⟩ 0) ∧ Mod NoB w w' := by
  obtain ⟨tr, n, hh, ho⟩ := hh
  have HH0 := Lib.hid hh
  have HO := Lib.hid ho
  obtain ⟨vo, vp, s, L, q1, q2, q3, q4, rfl, q6⟩ := hh
  have c4 : w.cell? ⟨h, 4, none⟩ = some (.pointer (some ⟨s, 0, none⟩)) := cell_of q1 4 rfl
  have hnd : L.Nodup := by
    simp only [List.nodup_cons, List.nodup_append] at q6
    exact q6.2.2.1
  have hget : ∀ W, Mod NoB w W → Calls Tryz.prog 58 #[.pointer (some ⟨s, 0, none⟩), .string k] W fun e w' => e = .returned (.tuple #[.string ⟨#[]⟩, .bool false]) ∧ Mod NoB W w' := fun W hm => by
    have := sget_any (q4.mod hm (fun _ _ x => x)) hnd ho k (by omega)
    rw [hg] at this
    exact this
  have HGET := Lib.hid hget; have C4 := Lib.hid c4
  clear ho q1 q2 q3 q4 q6 hnd hg c4 hget
  go_enter Tryz.func16, Tryz.ntmps16
  go_wp2_with fail
  refine (hright_ok 1 (by decide) (by decide) k v kt most hk1 hk2 _).mono ?_
  rintro e w1 ⟨rfl, hm1⟩
  obtain ⟨hd1, hm01⟩ := do_in hm1
  obtain ⟨a0, a1, a2, a3, a4⟩ := hd1.ask
  have HD1 := Lib.hid hd1; have HM1 := Lib.hid hm01
  clear hm1 hd1 hm01
  go_wp2_with fail
  refine (addr_any k _).mono ?_
  rintro e w2 ⟨rfl, hww⟩
  rw [hww]
  clear hww w2
  go_wp2_with fail
  refine (hasH_any (HH0.out.mod HM1.out (fun _ _ x => x)) (addr k)).mono ?_
  rintro e w2 ⟨rfl, hm2⟩
  rw [hat]
  have HM2 := Lib.hid (HM1.out.trans hm2)
  have HD2 := Lib.hid (HD1.out.mod hm2 (fun x => x) (fun x => x))
  clear hm2 a0 a1 a2 a3 a4
  go_wp2_with fail
  refine (frozen_any (HH0.out.mod HM2.out (fun _ _ x => x)) (addr k)).mono ?_
  rintro e w3 ⟨rfl, hm3⟩
  rw [hf]
  have HM3 := Lib.hid (HM2.out.trans hm3)
  have hd3 := HD2.out.mod hm3 (fun x => x) (fun x => x)
  obtain ⟨a0, a1, a2, a3, a4⟩ := hd3.ask
  have HD3 := Lib.hid hd3
  have c4' := HM3.out.cellS C4.out
  clear hm3 hd3
  go_wp2_with fail
  go_cut [9, 10] (fun sa sb wx => sa = .string ⟨#[]⟩ ∧ sb = .bool false ∧ Mod NoB w3 wx)
  case first =>
    have hrep := HGET.out
    go_region_law ((go_simp; go_at_call 58; go_loud (refine (HGET.out _ (HM3.out.trans (by repeat (first | exact Mod.refl _ _ | refine Mod.alloc ?_ _ | refine Mod.drew ?_)))).mono ?_; rintro e w4 ⟨rfl, hm4⟩; have M4 := Lib.hid (Mod.trans (S := NoB) (a := w3) (by repeat (first | exact Mod.refl _ _ | refine Mod.alloc ?_ _ | refine Mod.drew ?_)) hm4); have a1' := M4.out.cellS a1; clear hm4)))
    all_goals
      go_wp2_with fail
      go_meet
      exact ⟨rfl, rfl, M4.out.trans (by repeat (first | exact Mod.refl _ _ | refine Mod.alloc ?_ _ | refine Mod.drew ?_))⟩
  case rest =>
    obtain ⟨rfl, rfl, hm4⟩ := hcut
    obtain ⟨W4, rfl⟩ : ∃ W4 : World, W4 = wc := ⟨_, rfl⟩
    have HM4 := Lib.hid (HM3.out.trans hm4)
    have hd4 := HD3.out.mod hm4 (fun x => x) (fun x => x)
    obtain ⟨b0, b1, b2, b3, b4, b5, g0, g1, g2, g3, g4, g5⟩ := hd4.told
    obtain ⟨y0, y1, y2, y3, y4⟩ := hd4.ask
    clear hm4 hd4 a0 a1 a2 a3 a4 c4'
    go_wp2_with fail
    refine bodyPost_ret (v := encTold 6 ⟨#[]⟩ 0) (by simp [results, Tryz.results16, go_sem, *]) rfl ⟨rfl, ?_⟩
    exact HM4.out.then (told_set W4 (w.heap.size + 1) _ _ _ _ _ _) (fun i hi e => by omega)

set_option maxRecDepth 100000 in
set_option maxHeartbeats 8000000 in
theorem do_miss3 {w : World} {h : Nat} {st : HSt} {xs : List Itm} {B : List Nat} (hh : HoldI w h st xs B) (k v kt : ByteArray) (most : Int) (hk1 : 1 ≤ k.size) (hk2 : k.size ≤ 16)
    (hat : (st.at (addr k)).isSome = true) (hf : (st.shut && inA st.a (addr k)) = false) (hg : getS k xs = none) :
    Calls Tryz.prog 16 #[.pointer (some ⟨h, 0, none⟩), encAsk 3 k v kt most] w fun e w' => e = .returned (encTold 6 ⟨#[]⟩ 0) ∧ Mod NoB w w' := by
  obtain ⟨tr, n, hh, ho⟩ := hh
  have HH0 := Lib.hid hh
  have HO := Lib.hid ho
  obtain ⟨vo, vp, s, L, q1, q2, q3, q4, rfl, q6⟩ := hh
  have c4 : w.cell? ⟨h, 4, none⟩ = some (.pointer (some ⟨s, 0, none⟩)) := cell_of q1 4 rfl
  have hnd : L.Nodup := by
    simp only [List.nodup_cons, List.nodup_append] at q6
    exact q6.2.2.1
  have hget : ∀ W, Mod NoB w W → Calls Tryz.prog 58 #[.pointer (some ⟨s, 0, none⟩), .string k] W fun e w' => e = .returned (.tuple #[.string ⟨#[]⟩, .bool false]) ∧ Mod NoB W w' := fun W hm => by
    have := sget_any (q4.mod hm (fun _ _ x => x)) hnd ho k (by omega)
    rw [hg] at this
    exact this
  have HGET := Lib.hid hget; have C4 := Lib.hid c4
  clear ho q1 q2 q3 q4 q6 hnd hg c4 hget
  go_enter Tryz.func16, Tryz.ntmps16
  go_wp2_with fail
  refine (hright_ok 3 (by decide) (by decide) k v kt most hk1 hk2 _).mono ?_
  rintro e w1 ⟨rfl, hm1⟩
  obtain ⟨hd1, hm01⟩ := do_in hm1
  obtain ⟨a0, a1, a2, a3, a4⟩ := hd1.ask
  have HD1 := Lib.hid hd1; have HM1 := Lib.hid hm01
  clear hm1 hd1 hm01
  go_wp2_with fail
  refine (addr_any k _).mono ?_
  rintro e w2 ⟨rfl, hww⟩
  rw [hww]
  clear hww w2
  go_wp2_with fail
  refine (hasH_any (HH0.out.mod HM1.out (fun _ _ x => x)) (addr k)).mono ?_
  rintro e w2 ⟨rfl, hm2⟩
  rw [hat]
  have HM2 := Lib.hid (HM1.out.trans hm2)
  have HD2 := Lib.hid (HD1.out.mod hm2 (fun x => x) (fun x => x))
  clear hm2 a0 a1 a2 a3 a4
  go_wp2_with fail
  refine (frozen_any (HH0.out.mod HM2.out (fun _ _ x => x)) (addr k)).mono ?_
  rintro e w3 ⟨rfl, hm3⟩
  rw [hf]
  have HM3 := Lib.hid (HM2.out.trans hm3)
  have hd3 := HD2.out.mod hm3 (fun x => x) (fun x => x)
  obtain ⟨a0, a1, a2, a3, a4⟩ := hd3.ask
  have HD3 := Lib.hid hd3
  have c4' := HM3.out.cellS C4.out
  clear hm3 hd3
  go_wp2_with fail
  go_cut [9, 10] (fun sa sb wx => sa = .string ⟨#[]⟩ ∧ sb = .bool false ∧ Mod NoB w3 wx)
  case first =>
    have hrep := HGET.out
    go_region_law ((go_simp; go_at_call 58; go_loud (refine (HGET.out _ (HM3.out.trans (by repeat (first | exact Mod.refl _ _ | refine Mod.alloc ?_ _ | refine Mod.drew ?_)))).mono ?_; rintro e w4 ⟨rfl, hm4⟩; have M4 := Lib.hid (Mod.trans (S := NoB) (a := w3) (by repeat (first | exact Mod.refl _ _ | refine Mod.alloc ?_ _ | refine Mod.drew ?_)) hm4); have a1' := M4.out.cellS a1; clear hm4)))
    all_goals
      go_wp2_with fail
      go_meet
      exact ⟨rfl, rfl, M4.out.trans (by repeat (first | exact Mod.refl _ _ | refine Mod.alloc ?_ _ | refine Mod.drew ?_))⟩
  case rest =>
    obtain ⟨rfl, rfl, hm4⟩ := hcut
    obtain ⟨W4, rfl⟩ : ∃ W4 : World, W4 = wc := ⟨_, rfl⟩
    have HM4 := Lib.hid (HM3.out.trans hm4)
    have hd4 := HD3.out.mod hm4 (fun x => x) (fun x => x)
    obtain ⟨b0, b1, b2, b3, b4, b5, g0, g1, g2, g3, g4, g5⟩ := hd4.told
    obtain ⟨y0, y1, y2, y3, y4⟩ := hd4.ask
    clear hm4 hd4 a0 a1 a2 a3 a4 c4'
    go_wp2_with fail
    refine bodyPost_ret (v := encTold 6 ⟨#[]⟩ 0) (by simp [results, Tryz.results16, go_sem, *]) rfl ⟨rfl, ?_⟩
    exact HM4.out.then (told_set W4 (w.heap.size + 1) _ _ _ _ _ _) (fun i hi e => by omega)

set_option maxRecDepth 100000 in
set_option maxHeartbeats 8000000 in
theorem do_del_in {w : World} {h : Nat} {st : HSt} {xs : List Itm} {B : List Nat} (hh : HoldI w h st xs B) (k v kt : ByteArray) (most : Int) (hbig : xs.length ≤ 1000000) (hk1 : 1 ≤ k.size) (hk2 : k.size ≤ 16)
    (hat : (st.at (addr k)).isSome = true) (hf : (st.shut && inA st.a (addr k)) = false) {val : ByteArray} (hg : getS k xs = some val) :
    Calls Tryz.prog 16 #[.pointer (some ⟨h, 0, none⟩), encAsk 3 k v kt most] w fun e w' => e = .returned (encTold 0 ⟨#[]⟩ 0) ∧ ∃ B', HoldI w' h st (delS k xs) B' ∧ Turn B w w' B' := by
  obtain ⟨tr, n, hh, ho⟩ := hh
  have HH0 := Lib.hid hh
  have HLT := Lib.hid hh.lts
  have HO := Lib.hid ho
  obtain ⟨vo, vp, s, L, q1, q2, q3, q4, rfl, q6⟩ := hh
  have c4 : w.cell? ⟨h, 4, none⟩ = some (.pointer (some ⟨s, 0, none⟩)) := cell_of q1 4 rfl
  have hnd : L.Nodup := by
    simp only [List.nodup_cons, List.nodup_append] at q6
    exact q6.2.2.1
  have hget : ∀ W, Mod NoB w W → Calls Tryz.prog 58 #[.pointer (some ⟨s, 0, none⟩), .string k] W fun e w' => e = .returned (.tuple #[.string val, .bool true]) ∧ Mod NoB W w' := fun W hm => by
    have := sget_any (q4.mod hm (fun _ _ x => x)) hnd ho k (by omega)
    rw [hg] at this
    exact this
  have hdel : ∀ W, Mod NoB w W → Calls Tryz.prog 59 #[.pointer (some ⟨s, 0, none⟩), .string k] W fun e w' => (∃ v, e = .returned v) ∧ ∃ B', HoldI w' h st (delS k xs) B' ∧ Turn (h :: (ownL vo ++ ownL vp ++ L)) W w' B' := fun W hm => by
    refine (sdel_any (q4.mod hm (fun _ _ x => x)) hnd ho k (by omega) hbig).mono ?_
    rintro e w' ⟨rfl, tr', n', L', z1, z2, z3, z4⟩
    have q1' := q1
    rw [← hm.block h (Array.getElem?_eq_some_iff.1 q1).1 (fun x => x)] at q1'
    obtain ⟨B', y1, y2⟩ := hold_shelf q1' (own_mod' q2 hm (fun _ _ x => x)) (own_mod' q3 hm (fun _ _ x => x)) (q4.mod hm (fun _ _ x => x)) q6 (Mod.refl NoB W) z1 z2 z3
    exact ⟨⟨_, rfl⟩, B', ⟨tr', n', y1, z4⟩, y2⟩
  have HGET := Lib.hid hget; have C4 := Lib.hid c4; have HDEL := Lib.hid hdel
  clear ho q1 q2 q3 q4 q6 hnd hg c4 hget hdel
  go_enter Tryz.func16, Tryz.ntmps16
  go_wp2_with fail
  refine (hright_ok 3 (by decide) (by decide) k v kt most hk1 hk2 _).mono ?_
  rintro e w1 ⟨rfl, hm1⟩
  obtain ⟨hd1, hm01⟩ := do_in hm1
  obtain ⟨a0, a1, a2, a3, a4⟩ := hd1.ask
  have HD1 := Lib.hid hd1; have HM1 := Lib.hid hm01
  clear hm1 hd1 hm01
  go_wp2_with fail
  refine (addr_any k _).mono ?_
  rintro e w2 ⟨rfl, hww⟩
  rw [hww]
  clear hww w2
  go_wp2_with fail
  refine (hasH_any (HH0.out.mod HM1.out (fun _ _ x => x)) (addr k)).mono ?_
  rintro e w2 ⟨rfl, hm2⟩
  rw [hat]
  have HM2 := Lib.hid (HM1.out.trans hm2)
  have HD2 := Lib.hid (HD1.out.mod hm2 (fun x => x) (fun x => x))
  clear hm2 a0 a1 a2 a3 a4
  go_wp2_with fail
  refine (frozen_any (HH0.out.mod HM2.out (fun _ _ x => x)) (addr k)).mono ?_
  rintro e w3 ⟨rfl, hm3⟩
  rw [hf]
  have HM3 := Lib.hid (HM2.out.trans hm3)
  have hd3 := HD2.out.mod hm3 (fun x => x) (fun x => x)
  obtain ⟨a0, a1, a2, a3, a4⟩ := hd3.ask
  have HD3 := Lib.hid hd3
  have c4' := HM3.out.cellS C4.out
  clear hm3 hd3
  go_wp2_with fail
  go_cut [9, 10] (fun sa sb wx => sa = .string val ∧ sb = .bool true ∧ Mod NoB w3 wx)
  case first =>
    have hrep := HGET.out
    go_region_law ((go_simp; go_at_call 58; go_loud (refine (HGET.out _ (HM3.out.trans (by repeat (first | exact Mod.refl _ _ | refine Mod.alloc ?_ _ | refine Mod.drew ?_)))).mono ?_; rintro e w4 ⟨rfl, hm4⟩; have M4 := Lib.hid (Mod.trans (S := NoB) (a := w3) (by repeat (first | exact Mod.refl _ _ | refine Mod.alloc ?_ _ | refine Mod.drew ?_)) hm4); have a1' := M4.out.cellS a1; clear hm4)))
    all_goals
      go_wp2_with fail
      go_meet
      exact ⟨rfl, rfl, M4.out.trans (by repeat (first | exact Mod.refl _ _ | refine Mod.alloc ?_ _ | refine Mod.drew ?_))⟩
  case rest =>
    obtain ⟨rfl, rfl, hm4⟩ := hcut
    obtain ⟨W4, rfl⟩ : ∃ W4 : World, W4 = wc := ⟨_, rfl⟩
    have HM4 := Lib.hid (HM3.out.trans hm4)
    have hd4 := HD3.out.mod hm4 (fun x => x) (fun x => x)
    obtain ⟨y0, y1, y2, y3, y4⟩ := hd4.ask
    have c4'' := HM4.out.cellS C4.out
    have HD4 := Lib.hid hd4
    clear hm4 hd4 a0 a1 a2 a3 a4 c4'
    go_wp2_with fail
    go_cut [] (fun wx => ∃ B', HoldI wx h st (delS k xs) B' ∧ Turn (h :: (ownL vo ++ ownL vp ++ L)) w wx B' ∧ DoIn w.heap.size wx 3 k v kt most ∧ w.heap.size + 1 ∉ B')
    case first =>
      go_region_law ((go_simp; go_at_call 59; go_loud (refine (HDEL.out _ (HM4.out.trans (by repeat (first | exact Mod.refl _ _ | refine Mod.alloc ?_ _ | refine Mod.drew ?_ | refine Mod.drewN ?_ _)))).mono ?_; rintro e w6 ⟨⟨dv, rfl⟩, B6, hh6, ht6⟩; have HH6 := Lib.hid hh6; have HT6 := Lib.hid (show Turn (h :: (ownL vo ++ ownL vp ++ L)) W4 w6 B6 from Turn.trans (Turn.of_no (by repeat (first | exact Mod.refl _ _ | refine Mod.alloc ?_ _ | refine Mod.drew ?_ | refine Mod.drewN ?_ _))) ht6); clear hh6 ht6)))
      all_goals
        go_wp2_with fail
        go_meet
        have hlt4 : w.heap.size + 1 < W4.heap.size := (Array.getElem?_eq_some_iff.1 HD4.out.2).1
        have hs4 : w.heap.size ∉ h :: (ownL vo ++ ownL vp ++ L) ∧ w.heap.size + 1 ∉ h :: (ownL vo ++ ownL vp ++ L) := ⟨fun hb => by have := HLT.out _ hb; omega, fun hb => by have := HLT.out _ hb; omega⟩
        have hd4 := HD4.out.mod HT6.out.1 hs4.1 hs4.2
        exact ⟨B6, HH6.out, (Turn.of_no HM4.out).trans HT6.out, hd4, fun hb => (HT6.out.2 _ hb).elim hs4.2 (fun h => by omega)⟩
    case rest =>
      obtain ⟨W7, rfl⟩ : ∃ W7 : World, W7 = wc := ⟨_, rfl⟩
      obtain ⟨B7, hh7, ht7, hd7, hn7⟩ := hcut
      obtain ⟨b0, b1, b2, b3, b4, b5, g0, g1, g2, g3, g4, g5⟩ := hd7.told
      have HH7 := Lib.hid hh7; have HT7 := Lib.hid ht7; have HN7 := Lib.hid hn7
      clear hh7 ht7 hd7 hn7 y0 y1 y2 y3 y4 c4''
      go_wp2_with fail
      have hm8 := told_set W7 (w.heap.size + 1) (.int .i64 0) (.string ⟨#[]⟩) (.slice none 0 0) (.bool false) (.string ⟨#[]⟩) (.int .i64 0)
      refine bodyPost_ret (v := encTold 0 ⟨#[]⟩ 0) (by simp [results, Tryz.results16, go_sem, *]) rfl ⟨rfl, B7, HH7.out.mod hm8 (fun g hg e => HN7.out (e ▸ hg)), ⟨HT7.out.1.then hm8 (fun i hi e => by omega), HT7.out.2⟩⟩
end Go.Proofs.YtpcmbnbdppembaaGreatDoor
