/- key.Less at all texts; (*shelf.node).place at all nodes. -/
import Derived.Test.YtpcmbnbdppembaaGreatDoorTreeMem
import Derived.Test.YtpcmbnbdppembaaGreatDoorShelfOne
import Derived.Test.YtpcmbnbdppembaaGreatDoorKey
import Derived.Deep.QuietTactic
import Derived.BigQuiet
namespace Go.Proofs.YtpcmbnbdppembaaGreatDoor
set_option linter.unusedSimpArgs false
set_option linter.unusedVariables false
open Go.RowKit Go.Shelf
attribute [local go_sem ↓] Go.wp_at_zero Go.wp_at_succ

theorem lessB_step {a b : List UInt8} {k : Nat} (ha : k < a.length) (hb : k < b.length) :
    lessB (a.drop k) (b.drop k) = if a[k] < b[k] then true else if b[k] < a[k] then false else lessB (a.drop (k + 1)) (b.drop (k + 1)) := by
  rw [List.drop_eq_getElem_cons ha, List.drop_eq_getElem_cons hb]
  rfl
theorem lessB_end {a b : List UInt8} {k : Nat} (h : k = min a.length b.length) : lessB (a.drop k) (b.drop k) = decide (a.length < b.length) := by
  by_cases hl : a.length < b.length
  · have : k = a.length := by omega
    subst this
    rw [List.drop_length, List.drop_eq_getElem_cons hl]
    simp [lessB, hl]
  · have : k = b.length := by omega
    subst this
    rw [List.drop_length]
    cases h2 : a.drop b.length with
    | nil => simp [lessB, hl]
    | cons x l => simp [lessB, hl]

theorem u8_lt (x y : UInt8) : x < y ↔ (x.toNat : Int) < (y.toNat : Int) := by
  rw [UInt8.lt_iff_toNat_lt]; omega

set_option maxRecDepth 100000 in
set_option maxHeartbeats 4000000 in
theorem less_any (a b : ByteArray) (w : World) (ha : a.size ≤ 1000000) (hb : b.size ≤ 1000000) :
    Calls Tryz.prog 145 #[.string a, .string b] w fun e w' => e = .returned (.bool (keyLt a b)) ∧ Mod NoB w w' := by
  obtain ⟨m, hm⟩ : ∃ m, m = min a.size b.size := ⟨_, rfl⟩
  have hma : m ≤ a.size := by omega
  have hmb : m ≤ b.size := by omega
  have hal : a.data.toList.length = a.size := rfl
  have hbl : b.data.toList.length = b.size := rfl
  have HEND : Hid (lessB (a.data.toList.drop m) (b.data.toList.drop m) = decide (a.size < b.size)) := Lib.hid (lessB_end (by rw [hal, hbl]; exact hm))
  have hkl : keyLt a b = lessB (a.data.toList.drop 0) (b.data.toList.drop 0) := rfl
  have HKL := Lib.hid hkl
  have HM := Lib.hid hm
  obtain ⟨r, hr⟩ : ∃ r, r = keyLt a b := ⟨_, rfl⟩
  rw [← hr] at HKL ⊢
  have hmin : min (a.size : Int) (b.size : Int) = (m : Int) := by omega
  clear hkl hr hal hbl hm
  go_enter Tryz.func145, Tryz.ntmps145
  go_wp2_with fail
  go_step3
  go_wp2_with fail
  go_step3
  go_wp2_with fail
  go_loopw [5, 17] (fun l i wr => ∃ k : Nat, k ≤ m ∧ i = .int .i64 k ∧ l = .bool (decide (a.size < b.size)) ∧ r = lessB (a.data.toList.drop k) (b.data.toList.drop k) ∧ Mod NoB w wr) (fun _ i _ => m - (intOf i).toNat)
  case atStart => exact ⟨0, Nat.zero_le _, rfl, rfl, HKL.out, Mod.refl _ _⟩
  case round =>
    obtain ⟨k, hk, rfl, rfl, hr, hmod⟩ := hrel
    have HMOD := Lib.hid hmod
    clear hmod
    by_cases hlt : k < m
    · have hka : k < a.size := by omega
      have hkb : k < b.size := by omega
      have hst := lessB_step (a := a.data.toList) (b := b.data.toList) (k := k) hka hkb
      rw [hst] at hr
      have ea : a.data.toList[k]'hka = a[k] := rfl
      have eb : b.data.toList[k]'hkb = b[k] := rfl
      rw [ea, eb] at hr
      simp only [u8_lt] at hr
      have hki : (0 : Int) ≤ (k : Int) := by omega
      have hkai : (k : Int) < (a.size : Int) := by omega
      have hkbi : (k : Int) < (b.size : Int) := by omega
      have HR := Lib.hid hr
      clear hst ea eb hr
      have hcase : (a[k].toNat : Int) < (b[k].toNat : Int) ∨ (¬ (a[k].toNat : Int) < (b[k].toNat : Int) ∧ (b[k].toNat : Int) < (a[k].toNat : Int)) ∨ (¬ (a[k].toNat : Int) < (b[k].toNat : Int) ∧ ¬ (b[k].toNat : Int) < (a[k].toNat : Int)) := by omega
      rcases hcase with h1 | ⟨h1, h2⟩ | ⟨h1, h2⟩
      · have HR1 := Lib.hid (HR.out.trans (if_pos h1))
        go_wp2_with fail
        go_quiet (fail)
        go_wp2_with fail
        rw [Exit.noGoto_ret]
        go_ret
        exact ⟨by rw [HR1.out]; rfl, HMOD.out.drewN _⟩
      · have HR1 := Lib.hid (HR.out.trans ((if_neg h1).trans (if_pos h2)))
        go_wp2_with fail
        go_quiet (fail)
        go_wp2_with fail
        go_quiet (fail)
        go_wp2_with fail
        rw [Exit.noGoto_ret]
        go_ret
        exact ⟨by rw [HR1.out]; rfl, (HMOD.out.drewN _).drewN _⟩
      · have HR1 := Lib.hid (HR.out.trans ((if_neg h1).trans (if_neg h2)))
        go_wp2_with fail
        go_quiet (fail)
        go_wp2_with fail
        go_quiet (fail)
        go_wp2_with fail
        go_roundw
        case rel => exact ⟨k + 1, hlt, by go_num, rfl, HR1.out, HMOD.out.drewN _⟩
        case measure => simp [intOf]; omega
    · obtain rfl : k = m := by omega
      go_wp2_with fail
      rw [Exit.noGoto_ret]
      go_ret
      refine ⟨?_, HMOD.out⟩
      rw [hr, HEND.out]
      rfl

theorem beq_toList (a b : ByteArray) : (a.toList == b.toList) = decide (a = b) := by
  rw [Bool.eq_iff_iff, decide_eq_true_eq, beq_iff_eq]
  constructor
  · intro h
    rw [Lib.toList_data, Lib.toList_data] at h
    cases a; cases b
    simp only [ByteArray.mk.injEq] at h ⊢
    exact Array.ext' h
  · intro h; rw [h]

theorem plc_skip {k : ByteArray} : (xs : List Itm) → (i : Nat) → (∀ j x, j < i → xs[j]? = some x → x.1 ≠ k ∧ keyLt k x.1 = false) → i ≤ xs.length → plc k xs = ((plc k (xs.drop i)).1 + i, (plc k (xs.drop i)).2)
  | xs, 0, _, _ => rfl
  | [], i + 1, _, h => by simp at h
  | x :: xs, i + 1, h, hl => by
    obtain ⟨h1, h2⟩ := h 0 x (by omega) rfl
    have := plc_skip (k := k) xs i (fun j y hj hy => h (j + 1) y (by omega) (by simpa using hy)) (by simpa using hl)
    rw [List.drop_succ_cons]
    have e : plc k (x :: xs) = ((plc k xs).1 + 1, (plc k xs).2) := by
      conv => lhs; unfold plc
      rw [if_neg h1, if_neg (by rw [h2]; simp)]
    rw [e, this]
    simp [Nat.add_assoc]

set_option maxRecDepth 100000 in
set_option maxHeartbeats 8000000 in
theorem place_any {w : World} {b : Nat} {v u : Value} {xs : List Itm} {bs : List Nat} (h : NodeAt w b v xs u bs) (k : ByteArray) (hl : xs.length ≤ 100000) (hk : k.size ≤ 1000000) (hx : ∀ x ∈ xs, x.1.size ≤ 1000000) :
    Calls Tryz.prog 194 #[.pointer (some ⟨b, 0, none⟩), .string k] w fun e w' => e = .returned (.tuple #[.int .i64 (plc k xs).1, .bool (plc k xs).2]) ∧ Mod NoB w w' := by
  obtain ⟨h1, h2, h3⟩ := h
  have c0 : w.cell? ⟨b, 0, none⟩ = some v := cell_of h1 0 rfl
  have hsl := own_slAt (k := 2) (enc := encIt) (fun _ => rfl) h2
  obtain ⟨av, cap, rfl, _⟩ := id hsl
  have HS := Lib.hid hsl
  have HX := Lib.hid hx
  obtain ⟨p, hp⟩ : ∃ p, p = plc k xs := ⟨_, rfl⟩
  rw [← hp]
  have HP := Lib.hid hp
  clear h1 h2 h3 hsl hx hp
  go_enter Tryz.func194, Tryz.ntmps194
  go_wp2_with fail
  go_step3
  go_wp2_with fail
  go_step3
  go_wp2_with fail
  go_loopw [6, 7, 20] (fun at_ is i wr => ∃ j : Nat, j ≤ xs.length ∧ i = .int .i64 j ∧ at_ = .int .i64 xs.length ∧ is = .bool false ∧ (∀ q x, q < j → xs[q]? = some x → x.1 ≠ k ∧ keyLt k x.1 = false) ∧ Mod NoB w wr) (fun _ _ i _ => xs.length - (intOf i).toNat)
  case atStart => exact ⟨0, Nat.zero_le _, rfl, rfl, rfl, fun q x hq => absurd hq (by omega), Mod.refl _ _⟩
  case round =>
    obtain ⟨j, hj, rfl, rfl, rfl, hall, hmod⟩ := hrel
    by_cases hlt : j < xs.length
    · have he : xs[j]? = some xs[j] := List.getElem?_eq_getElem hlt
      generalize xs[j] = x at he
      obtain ⟨b', o', cap', hv, hb', p0, p1⟩ := at2 (HS.out.mod hmod) he
      simp only [Value.slice.injEq] at hv
      obtain ⟨rfl, _, rfl⟩ := hv
      have hsk := plc_skip xs j hall (by omega)
      rw [List.drop_eq_getElem_cons hlt, ← HP.out] at hsk
      have hxj : xs[j] = x := by rw [List.getElem?_eq_getElem hlt] at he; exact Option.some.inj he
      rw [hxj] at hsk
      have hxs : x.1.size ≤ 1000000 := HX.out x (List.mem_of_getElem? he)
      have HE := Lib.hid he; have HALL := Lib.hid hall; have HMOD := Lib.hid hmod; have HSK := Lib.hid hsk
      clear he hall hmod hsk hxj
      by_cases hxk : x.1 = k
      · have HXK := Lib.hid hxk
        have hbeq : (x.1 == k) = true := by rw [beqd]; simp [hxk]
        have hbeq2 : (x.1.toList == k.toList) = true := by rw [beq_toList]; simp [hxk]
        clear hxk
        go_wp2_with fail
        rw [Exit.noGoto_ret]
        go_ret2
        refine ⟨?_, HMOD.out.alloc _⟩
        rw [HSK.out]
        unfold plc
        rw [if_pos HXK.out]
        simp
      · have HXK := Lib.hid hxk
        have hbeq : (x.1 == k) = false := by rw [beqd]; simp [hxk]
        have hbeq2 : (x.1.toList == k.toList) = false := by rw [beq_toList]; simp [hxk]
        clear hxk
        cases hkl : keyLt k x.1 with
        | true =>
          have HKL := Lib.hid hkl
          have hless := less_any k x.1 (wr.alloc (.cells #[.string x.1, .string x.2] 73)) hk hxs
          rw [hkl] at hless
          clear hkl
          have HLESS := Lib.hid hless
          clear hless
          go_wp2_with (go_at_call 145; refine HLESS.out.mono ?_; rintro e w1 ⟨rfl, hm1⟩; have HM1 := Lib.hid hm1; clear hm1)
          rw [Exit.noGoto_ret]
          go_ret2
          refine ⟨?_, (HMOD.out.alloc _).trans HM1.out⟩
          rw [HSK.out]
          unfold plc
          rw [if_neg HXK.out, if_pos HKL.out]
          simp
        | false =>
          have HKL := Lib.hid hkl
          have hless := less_any k x.1 (wr.alloc (.cells #[.string x.1, .string x.2] 73)) hk hxs
          rw [hkl] at hless
          clear hkl
          have HLESS := Lib.hid hless
          clear hless
          go_wp2_with (go_at_call 145; refine HLESS.out.mono ?_; rintro e w1 ⟨rfl, hm1⟩; have HM1 := Lib.hid hm1; clear hm1)
          go_roundw
          case rel =>
            refine ⟨j + 1, hlt, by go_num, rfl, rfl, fun q y hq hy => ?_, (HMOD.out.alloc _).trans HM1.out⟩
            by_cases hqj : q < j
            · exact HALL.out q y hqj hy
            · obtain rfl : q = j := by omega
              rw [HE.out] at hy
              cases hy
              exact ⟨HXK.out, HKL.out⟩
          case measure => simp [intOf]; omega
    · obtain rfl : j = xs.length := by omega
      have hsk := plc_skip xs xs.length hall (by omega)
      rw [List.drop_length, ← HP.out] at hsk
      go_wp2_with fail
      rw [Exit.noGoto_ret]
      go_ret2
      refine ⟨?_, hmod⟩
      rw [hsk]
      simp [plc]
end Go.Proofs.YtpcmbnbdppembaaGreatDoor
