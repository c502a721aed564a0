/- Put together out of: HoldKeeps, HoldKeepsLaw. -/
import Derived.Test.YtmagddchjidamaaGreatDoorHoldWin
import Derived.Test.YtmagddchjidamaaGreatDoorRows
import Derived.Test.YtmagddchjidamaaGreatDoorTie
import Derived.Test.YtmagddchjidamaaGreatDoorCards
import Derived.Test.YtmagddchjidamaaGreatDoorFrame
import Derived.Test.YtmagddchjidamaaGreatDoorArgsHold
import Derived.ProofKit
import Derived.OpenShut
import Derived.LaidMore
import Derived.Lay
import Derived.SevenTiedAt
import Derived.Stop.Joined
/- rosarylaw14.HoldKeeps, walked. -/
namespace Go.Proofs.YtmagddchjidamaaGreatDoor
set_option linter.unusedSimpArgs false
set_option linter.unusedVariables false
open Go.RowKit Go.Shelf
attribute [local go_sem ↓] Go.wp_at_zero Go.wp_at_succ

def stK (most keep : Int) : HSt := ⟨1, most, keep, [⟨0, 9223372036854775808, 1, 0⟩], false, ⟨0, 0⟩, []⟩
/-- a key of two bytes -/
def key2 (b i : Nat) : ByteArray := ⟨#[UInt8.ofNat b, UInt8.ofNat i]⟩

theorem stK_of (most : Int) : ownSt ⟨1, most, 0, [], false, ⟨0, 0⟩, []⟩ ⟨0, 9223372036854775808⟩ 0 = stK most 0 := rfl

theorem conv2 (W : World) (b j : Nat) : (convert 59 9 (.slice (some ⟨W.heap.size, 0, none⟩) 2 2)).run Tryz.prog (W.alloc (.cells #[.int .u8 b, .int .u8 j] 5)) = .ok (.string (key2 b j)) (W.alloc (.cells #[.int .u8 b, .int .u8 j] 5)) := by
  rw [run_convert_bytes_string (e := 5) _ _ _ _ _ _ (by kernel_rfl) (by kernel_rfl) (by kernel_rfl)]
  refine (run_bytesToString _ _ 2 2 [(b : Int), (j : Int)] ?_).trans ?_
  · simp [go_sem, loadCells, loadCellsFrom]
  · simp [key2]
    rfl
theorem conv2i (W : World) (bi : Int) (b j : Nat) (hb : bi = b) : (convert 59 9 (.slice (some ⟨W.heap.size, 0, none⟩) 2 2)).run Tryz.prog (W.alloc (.cells #[.int .u8 bi, .int .u8 j] 5)) = .ok (.string (key2 b j)) (W.alloc (.cells #[.int .u8 bi, .int .u8 j] 5)) := by
  subst hb
  exact conv2 W b j

theorem key2_size (b i : Nat) : (key2 b i).size = 2 := rfl

theorem key2_inj {b i j : Nat} (hi : i < 256) (hj : j < 256) (h : key2 b i = key2 b j) : i = j := by
  have h1 : (UInt8.ofNat i).toNat = (UInt8.ofNat j).toNat := by
    have := congrArg (fun k : ByteArray => k.data[1]!) h
    simp [key2] at this
    exact congrArg UInt8.toNat this
  simp at h1
  omega

theorem addr_key2 {b i : Nat} (hb : b < 256) (hi : i < 256) : addr (key2 b i) = ((b * 256 + i) * 281474976710656 : Nat) := by
  have h0 : byteAt (key2 b i) 0 = b := by
    unfold byteAt
    rw [dif_pos (by rw [key2_size]; omega)]
    show (UInt8.ofNat b).toNat = b
    rw [UInt8.toNat_ofNat']
    omega
  have h1 : byteAt (key2 b i) 1 = i := by
    unfold byteAt
    rw [dif_pos (by rw [key2_size]; omega)]
    show (UInt8.ofNat i).toNat = i
    rw [UInt8.toNat_ofNat']
    omega
  have hr : ∀ q, 2 ≤ q → byteAt (key2 b i) q = 0 := fun q hq => by unfold byteAt; rw [dif_neg (by rw [key2_size]; omega)]
  have e2 : addrTo (key2 b i) 2 = b * 256 + i := by
    show (0 * 256 + byteAt (key2 b i) 0) * 256 + byteAt (key2 b i) 1 = _
    rw [h0, h1]
    omega
  have es : ∀ q, 2 ≤ q → addrTo (key2 b i) (q + 1) = addrTo (key2 b i) q * 256 := fun q hq => by
    show addrTo (key2 b i) q * 256 + byteAt (key2 b i) q = _
    rw [hr q hq, Nat.add_zero]
  unfold addr
  rw [es 7 (by omega), es 6 (by omega), es 5 (by omega), es 4 (by omega), es 3 (by omega), es 2 (by omega), e2]
  have e : (b * 256 + i) * 256 * 256 * 256 * 256 * 256 * 256 = (b * 256 + i) * 281474976710656 := by omega
  rw [e]

theorem keeps_put {most keep : Int} {xs : List Itm} {j : Nat} (hj : j < 256) (hf : ∀ x ∈ xs, ∃ q, q < j ∧ x.1 = key2 1 q) (hr : Rising xs) :
    pNode (stK most keep) (key2 1 j) = 0 ∧ (((xs.length : Int) + keep < most ∧ pErr (stK most keep) (key2 1 j) ⟨#[118]⟩ xs = 0 ∧ (pIts (stK most keep) (key2 1 j) ⟨#[118]⟩ xs).length = xs.length + 1 ∧ ∀ x ∈ pIts (stK most keep) (key2 1 j) ⟨#[118]⟩ xs, ∃ q, q < j + 1 ∧ x.1 = key2 1 q) ∨
      (¬ (xs.length : Int) + keep < most ∧ pErr (stK most keep) (key2 1 j) ⟨#[118]⟩ xs = 5 ∧ pIts (stK most keep) (key2 1 j) ⟨#[118]⟩ xs = xs)) := by
  have hkk : ¬ ¬ (1 ≤ (key2 1 j).size ∧ (key2 1 j).size ≤ 16) := by rw [key2_size]; omega
  have hat : ¬ ((stK most keep).at (addr (key2 1 j))).isSome = false := by
    rw [addr_key2 (by omega) hj]
    simp [HSt.at, stK, hasP, Ow.arc]
    omega
  have hsh : ¬ ((stK most keep).shut && inA (stK most keep).a (addr (key2 1 j))) = true := by simp [stK]
  have hvv : ¬ ¬ (⟨#[118]⟩ : ByteArray).size ≤ 16 := by decide
  have hg : getS (key2 1 j) xs = none := getS_none (fun x hx e => by
    obtain ⟨q, hq, hx⟩ := hf x hx
    rw [hx] at e
    have := key2_inj (by omega) hj e
    omega)
  have hgs : ¬ (getS (key2 1 j) xs).isSome = true := by rw [hg]; simp
  unfold pErr pNode pIts hErr hIts
  simp only [if_neg hkk, if_neg hat, if_neg hsh, if_neg hvv, if_neg hgs]
  refine ⟨trivial, ?_⟩
  by_cases hroom : (xs.length : Int) + keep < most
  · have h1 : ¬ (stK most keep).most ≤ (xs.length : Int) + (stK most keep).kept := by simp [stK]; omega
    simp only [if_neg h1]
    refine .inl ⟨hroom, trivial, insS_length (x := (key2 1 j, ⟨#[118]⟩)) hr hg, fun x hx => ?_⟩
    rcases mem_insS hx with rfl | hx
    · exact ⟨j, by omega, rfl⟩
    · obtain ⟨q, hq, e⟩ := hf x hx
      exact ⟨q, by omega, e⟩
  · have h1 : (stK most keep).most ≤ (xs.length : Int) + (stK most keep).kept := by simp [stK]; omega
    simp only [if_pos h1]
    exact .inr ⟨hroom, trivial, trivial⟩

def its2 (q : Nat) : List Itm := (List.range q).map (fun i => (key2 200 i, ⟨#[]⟩))
theorem its2_succ (q : Nat) : its2 (q + 1) = its2 q ++ [(key2 200 q, ⟨#[]⟩)] := by simp [its2, List.range_succ]
theorem its2_len (q : Nat) : (its2 q).length = q := by simp [its2]

theorem key2_ne {i j : Nat} : key2 1 i ≠ key2 200 j := fun h => by
  have := congrArg (fun k : ByteArray => k.data[0]!) h
  simp [key2] at this

theorem put2 {most : Int} {ys : List Itm} {q : Nat} (hq : q < 256) (hr : Rising ys) (hk : ∀ x ∈ ys, (∃ p, p < 256 ∧ x.1 = key2 1 p) ∨ ∃ p, p < q ∧ x.1 = key2 200 p) (hl : (ys.length : Int) < most) :
    putErr most (key2 200 q) ⟨#[]⟩ ys = 0 ∧ putIts most (key2 200 q) ⟨#[]⟩ ys = insS (key2 200 q, ⟨#[]⟩) ys ∧ getS (key2 200 q) ys = none := by
  have hkk : ¬ ¬ (1 ≤ (key2 200 q).size ∧ (key2 200 q).size ≤ 16) := by rw [key2_size]; omega
  have hvv : ¬ ¬ (⟨#[]⟩ : ByteArray).size ≤ 16 := by decide
  have hg : getS (key2 200 q) ys = none := getS_none (fun x hx e => by
    rcases hk x hx with ⟨p, _, h⟩ | ⟨p, hp, h⟩
    · exact key2_ne (h.symm.trans e)
    · have := key2_inj (by omega) hq (h.symm.trans e)
      omega)
  have hgs : ¬ (getS (key2 200 q) ys).isSome = true := by rw [hg]; simp
  have hm : ¬ most ≤ (ys.length : Int) := by omega
  unfold putErr putIts
  simp only [if_neg hkk, if_neg hvv, if_neg hgs, if_neg hm]
  exact ⟨trivial, trivial, hg⟩

theorem putall2 {most : Int} {xs : List Itm} (hr : Rising xs) (hk : ∀ x ∈ xs, ∃ p, p < 256 ∧ x.1 = key2 1 p) : (q : Nat) → q ≤ 60 → (xs.length : Int) + q ≤ most →
    (putAll most xs (its2 q)).length = xs.length + q ∧ Rising (putAll most xs (its2 q)) ∧ ∀ x ∈ putAll most xs (its2 q), (∃ p, p < 256 ∧ x.1 = key2 1 p) ∨ ∃ p, p < q ∧ x.1 = key2 200 p
  | 0, _, _ => ⟨rfl, hr, fun x hx => .inl (hk x hx)⟩
  | q + 1, h1, h2 => by
    obtain ⟨e1, e2, e3⟩ := putall2 (most := most) hr hk q (by omega) (by omega)
    have hs : putAll most xs (its2 (q + 1)) = putIts most (key2 200 q) ⟨#[]⟩ (putAll most xs (its2 q)) := by
      unfold putAll
      rw [its2_succ, List.foldl_append]
      rfl
    obtain ⟨_, p2, p3⟩ := put2 (most := most) (q := q) (ys := putAll most xs (its2 q)) (by omega) e2 e3 (by omega)
    rw [hs, p2]
    refine ⟨by rw [insS_length (x := (key2 200 q, ⟨#[]⟩)) e2 p3]; omega, rising_insS e2, fun x hx => ?_⟩
    rcases mem_insS hx with rfl | hx
    · exact .inr ⟨q, by omega, rfl⟩
    · rcases e3 x hx with h | ⟨p, hp, h⟩
      · exact .inl h
      · exact .inr ⟨p, by omega, h⟩

theorem its2_take {q j : Nat} (h : j ≤ q) : (its2 q).take j = its2 j := by
  unfold its2
  rw [← List.map_take, List.take_range, Nat.min_eq_left h]

theorem its2_in {q : Nat} (hq : q ≤ 60) : ∀ it ∈ its2 q, inA ⟨9223372036854775808, 0⟩ (addr it.1) = true := by
  intro it hit
  unfold its2 at hit
  obtain ⟨i, hi, rfl⟩ := List.mem_map.1 hit
  have hi := List.mem_range.1 hi
  simp only
  rw [addr_key2 (by omega) (by omega)]
  simp [inA]
  omega

def stL (most keep : Int) (q : Nat) : HSt := { ownSt (stK most keep) ⟨9223372036854775808, 0⟩ 4 with kept := max (keep - q) 0 }

theorem put3 {most keep : Int} {q : Nat} {ys : List Itm} (hq : (q : Int) = keep) (hk : ∀ x ∈ ys, (∃ p, p < 256 ∧ x.1 = key2 1 p) ∨ ∃ p, p < q ∧ x.1 = key2 200 p) :
    pErr (stL most keep q) ⟨#[122, 122]⟩ ⟨#[]⟩ ys = if (ys.length : Int) < most then 0 else 5 := by
  have hkk : ¬ ¬ (1 ≤ (⟨#[122, 122]⟩ : ByteArray).size ∧ (⟨#[122, 122]⟩ : ByteArray).size ≤ 16) := by decide
  have hat : ¬ ((stL most keep q).at (addr ⟨#[122, 122]⟩)).isSome = false := by
    have := addr_key2 (b := 122) (i := 122) (by omega) (by omega)
    rw [show (⟨#[122, 122]⟩ : ByteArray) = key2 122 122 from rfl, this]
    simp [HSt.at, stL, ownSt, stK, hasP, Ow.arc]
  have hsh : ¬ ((stL most keep q).shut && inA (stL most keep q).a (addr ⟨#[122, 122]⟩)) = true := by simp [stL, stK, ownSt]
  have hvv : ¬ ¬ (⟨#[]⟩ : ByteArray).size ≤ 16 := by decide
  have hg : getS ⟨#[122, 122]⟩ ys = none := getS_none (fun x hx e => by
    rcases hk x hx with ⟨p, _, h⟩ | ⟨p, hp, h⟩
    · have := congrArg (fun k : ByteArray => k.data[0]!) (h.symm.trans e)
      simp [key2] at this
    · have := congrArg (fun k : ByteArray => k.data[0]!) (h.symm.trans e)
      simp [key2] at this)
  have hgs : ¬ (getS ⟨#[122, 122]⟩ ys).isSome = true := by rw [hg]; simp
  unfold pErr hErr
  simp only [if_neg hkk, if_neg hat, if_neg hsh, if_neg hvv, if_neg hgs]
  have e1 : (stL most keep q).most = most := rfl
  have e2 : (stL most keep q).kept = 0 := by show max (keep - q) 0 = 0; omega
  rw [e1, e2]
  by_cases h : (ys.length : Int) < most
  · rw [if_pos h, if_neg (by omega)]
  · rw [if_neg h, if_pos (by omega)]

/-- what loop 1 makes -/
def PutsRel (w wr : World) (h : Nat) (most keep puts : Int) (vi vn : Value) : Prop :=
  ∃ (j n : Nat) (xs : List Itm) (B : List Nat), (j : Int) ≤ puts ∧ vi = .int .i64 j ∧ vn = .int .i64 n ∧ NewI w wr h (stK most keep) xs B ∧ xs.length = n ∧ (n : Int) ≤ most - keep ∧ (n < j → (n : Int) = most - keep) ∧ n ≤ j ∧ ∀ x ∈ xs, ∃ q, q < j ∧ x.1 = key2 1 q

set_option maxRecDepth 100000 in
set_option maxHeartbeats 16000000 in
theorem keeps_walk {w : World} {most keep puts : Int} :
    Calls Tryz.prog 8 #[.int .i64 most, .int .i64 keep, .int .i64 puts] w fun e w' => e = .returned (.bool true) ∧ Mod NoB w w' := by
  by_cases hc : 0 ≤ most ∧ most ≤ 60 ∧ 0 ≤ keep ∧ keep ≤ 60 ∧ 0 ≤ puts ∧ puts ≤ 80
  case neg =>
    have hcc : most < 0 ∨ (¬ most < 0 ∧ 60 < most) ∨ (¬ most < 0 ∧ ¬ 60 < most ∧ keep < 0) ∨ (¬ most < 0 ∧ ¬ 60 < most ∧ ¬ keep < 0 ∧ 60 < keep) ∨ (¬ most < 0 ∧ ¬ 60 < most ∧ ¬ keep < 0 ∧ ¬ 60 < keep ∧ puts < 0) ∨ (¬ most < 0 ∧ ¬ 60 < most ∧ ¬ keep < 0 ∧ ¬ 60 < keep ∧ ¬ puts < 0 ∧ 80 < puts) := by omega
    clear hc
    rcases hcc with h1 | ⟨h1, h2⟩ | ⟨h1, h2, h3⟩ | ⟨h1, h2, h3, h4⟩ | ⟨h1, h2, h3, h4, h5⟩ | ⟨h1, h2, h3, h4, h5, h6⟩
    all_goals
      go_enter Tryz.func8, Tryz.ntmps8
      go_wp2_with fail
      refine (alive_any _).mono ?_
      rintro e w1 ⟨rfl, hm1⟩
      have M1 := Lib.hid hm1
      clear hm1
      go_wp2_with fail
      go_ret
      exact ⟨rfl, M1.out⟩
  obtain ⟨c1, c2, c3, c4, c5, c6⟩ := hc
  have n1 : ¬ most < 0 := by omega
  have n2 : ¬ 60 < most := by omega
  have n3 : ¬ keep < 0 := by omega
  have n4 : ¬ 60 < keep := by omega
  have n5 : ¬ puts < 0 := by omega
  have n6 : ¬ 80 < puts := by omega
  go_enter Tryz.func8, Tryz.ntmps8
  go_wp2_with fail
  refine (alive_any _).mono ?_
  rintro e w1 ⟨rfl, hm1⟩
  have M1 := Lib.hid hm1
  clear hm1
  go_wp2_with fail
  refine (new_any 1 most _ (by omega) (by omega)).mono ?_
  rintro e w2 ⟨h, B2, rfl, q1, q2, q3⟩
  have N2 : Hid (NewI w1 w2 h ⟨1, most, 0, [], false, ⟨0, 0⟩, []⟩ [] B2) := Lib.hid ⟨⟨none, 0, q1, ShOK.start⟩, q2, q3⟩
  have Q1 := Lib.hid q1
  clear q1 q2 q3
  go_wp2_with fail
  refine (own_any Q1.out ⟨0, 9223372036854775808⟩ 0 (by simp)).mono ?_
  rintro e w3 ⟨rfl, B3, hh3, ht3⟩
  rw [may_none (by decide) rfl] at hh3 ⊢
  rw [if_pos rfl] at hh3
  have N3 : Hid (NewI w1 w3 h (stK most 0) [] B3) := Lib.hid (N2.out.turn ⟨none, 0, hh3, ShOK.start⟩ ht3)
  clear hh3 ht3 Q1 N2
  go_wp2_with fail
  refine (keep_any (st := stK most 0) N3.out.1 keep (by omega) ⟨by simp [stK], by simp [stK]⟩ (by simp [stK]; omega) (by simp)).mono ?_
  rintro e w4 ⟨rfl, hh4, ht4⟩
  have e0 : (0 ≤ keep ∧ keep ≤ (stK most 0).most - (([] : List Itm).length : Int) - (stK most 0).kept) ↔ keep ≤ most := by simp [stK]; omega
  have N4 := Lib.hid (N3.out.turn hh4 ht4)
  clear hh4 ht4
  by_cases hkm : keep ≤ most
  · rw [decide_eq_true (e0.2 hkm)]
    rw [if_pos (e0.2 hkm)] at N4
    have N4 : Hid (NewI w1 w4 h (stK most keep) [] B3) := by have := N4.out; simpa [stK] using Lib.hid this
    clear e0 N3
    go_wp2_with fail
    go_loopw [8, 9] (fun n i wr => PutsRel w1 wr h most keep puts i n) (fun _ i _ => (puts - intOf i).toNat)
    case atStart => exact ⟨0, 0, [], B3, by omega, rfl, rfl, N4.out, rfl, by omega, fun h => by omega, Nat.le_refl _, fun x h => absurd h List.not_mem_nil⟩
    case round =>
      obtain ⟨j, n, xs, B, hj, rfl, rfl, hN, hx1, hx2, hx3, hx4, hx5⟩ := hrel
      by_cases hlt : (j : Int) < puts
      · have NN := Lib.hid hN
        clear hN
        have hcv := conv2i wr 1 1 j rfl
        have hf0 := told_f0
        go_wp2_with fail
        have NA := Lib.hid (NN.out.quiet ((Mod.refl NoB _).alloc (.cells #[.int .u8 1, .int .u8 j] 5)))
        refine (do_put_any (st := stK most keep) NA.out.1 (key2 1 j) ⟨#[118]⟩ ⟨#[]⟩ 0 (by rw [key2_size]; omega) (by decide) (by omega) (by simp [stK]; omega) (by simp [stK]; omega) (by simp [stK])).mono ?_
        rintro e w5 ⟨rfl, B5, hh5, ht5⟩
        have N5 := Lib.hid (NA.out.turn hh5 ht5)
        clear hh5 ht5
        obtain ⟨hpn, hput⟩ := keeps_put (most := most) (keep := keep) (j := j) (by omega) hx5 NN.out.1.rising
        rw [hpn]
        rcases hput with ⟨hroom, hpe, hpl, hpk⟩ | ⟨hroom, hpe, hpi⟩
        · rw [hpe]
          have hnr : (n : Int) < most - keep := by omega
          dsimp only [encTold]
          go_wp2_with fail
          exact ⟨⟨j + 1, n + 1, _, B5, by omega, by go_num, by go_num, N5.out, by rw [hpl]; omega, by omega, fun h => by omega, by omega, hpk⟩, by simp [intOf]; omega⟩
        · rw [hpe]
          rw [hpi] at N5
          have hnr : ¬ (n : Int) < most - keep := by omega
          dsimp only [encTold]
          go_wp2_with fail
          exact ⟨⟨j + 1, n, xs, B5, by omega, by go_num, rfl, N5.out, hx1, by omega, fun h => by omega, by omega, fun x hx => by obtain ⟨q, hq, e⟩ := hx5 x hx; exact ⟨q, by omega, e⟩⟩, by simp [intOf]; omega⟩
      · have hjp : (j : Int) = puts := by omega
        have hroomN : (n : Int) + keep ≤ most := by omega
        have NN := Lib.hid hN
        clear hN
        obtain ⟨i0, z0, hii, hz0, hzi1, hzi2, hzi3⟩ := partsIt
        have HI := Lib.hid hii; have HZ0 := Lib.hid hz0; have HZ1 := Lib.hid hzi1; have HZ2 := Lib.hid hzi2
        clear hii hz0 hzi1 hzi2
        go_wp2_with fail
        go_loopw [11, 12] (fun v i w2 => ∃ q : Nat, (q : Int) ≤ keep ∧ i = .int .i64 q ∧ NewI w1 w2 h (stK most keep) xs B ∧ Beside w2 v (its2 q) B ∧ ∀ g ∈ ownL v, w1.heap.size ≤ g) (fun _ i _ => (keep - intOf i).toNat)
        case atStart => exact ⟨0, by omega, rfl, NN.out, ⟨World.ownsRow_nil _ _ _ _, fun g hg => by simp [ownL, Value.ownBlock] at hg⟩, fun g hg => by simp [ownL, Value.ownBlock] at hg⟩
        case round =>
          obtain ⟨q, hq, rfl, hNq, hbq, hbn⟩ := hrel
          have NQ := Lib.hid hNq; have BQ := Lib.hid hbq; have BN := Lib.hid hbn
          have hrow := hbq.1
          rw [its2_len] at hrow
          have HROW := Lib.hid hrow
          clear hNq hbq hbn hrow
          by_cases hlt2 : (q : Int) < keep
          · have hcv := conv2i wr 200 200 q rfl
            go_wp2_with (at_builtin; go_loud (refine wpList_appended rfl (.tmp 101) (.tmp 107) 35 rfl 43 i0 z0 2 tySIt HI.out HZ0.out HZ1.out HZ2.out hzi3 (by decide) _ _ _ rfl (own_mod' HROW.out (((Mod.refl NoB _).alloc _).alloc _) (fun _ _ x => x)) _ 1 (encIt (key2 200 q, ⟨#[]⟩)) rfl (.inr ⟨_, _, rfl, fun t x ht => World.news_of_block (heap_two2 _ _ _) t x ht⟩) rfl (fun _ hu => oneIt hu) (by omega) ?_; intro v' w3 ha; have HA := Lib.hid ha; clear ha))
            refine ⟨⟨q + 1, by omega, by go_num, ⟨?_, ?_, NQ.out.2.2⟩, ⟨?_, fun g hg hb => ?_⟩, fun g hg => ?_⟩, by simp [intOf]; omega⟩
            · exact (NQ.out.1.mod (S := NoB) (((Mod.refl _ _).alloc _).alloc _) (fun _ _ x => x)).mod HA.out.mod (fun k hk hv => BQ.out.2 k hv hk)
            · exact ((NQ.out.2.1.alloc _).alloc _).then HA.out.mod (fun k hk hv => absurd (BN.out k hv) (by omega))
            · have := HA.out.own
              rw [its2_succ, List.flatMap_append, List.length_append, its2_len]
              simpa using this
            · rcases HA.out.new g hg with h1 | h1
              · exact BQ.out.2 g h1 hb
              · have := NQ.out.1.lts g hb; simp at h1; omega
            · rcases HA.out.new g hg with h1 | h1
              · exact BN.out g h1
              · have := NQ.out.2.1.size; simp at h1; omega
          · have hqk : (q : Int) = keep := by omega
            have hall := putall2 (most := most) NQ.out.1.rising (fun x hx => by obtain ⟨p, hp, e⟩ := hx5 x hx; exact ⟨p, by omega, e⟩) q (by omega) (by omega)
            have hfit : ∀ (t : Nat) (it : Itm), (its2 q)[t]? = some it → putErr most it.1 it.2 (putAll most xs ((its2 q).take t)) = 0 := fun t it ht => by
              have htq : t < q := by have := (List.getElem?_eq_some_iff.1 ht).1; rwa [its2_len] at this
              have hit : it = (key2 200 t, ⟨#[]⟩) := by
                have : (its2 q)[t]? = some (key2 200 t, ⟨#[]⟩) := by simp [its2, htq]
                rw [this] at ht
                exact (Option.some.inj ht).symm
              obtain ⟨e1, e2, e3⟩ := putall2 (most := most) NQ.out.1.rising (fun x hx => by obtain ⟨p, hp, e⟩ := hx5 x hx; exact ⟨p, by omega, e⟩) t (by omega) (by omega)
              rw [its2_take (by omega), hit]
              exact (put2 (by omega) e2 e3 (by omega)).1
            have HFIT := Lib.hid hfit; have HALL := Lib.hid hall
            clear hfit hall
            go_wp2_with fail
            refine (win_ok (st := stK most keep) NQ.out.1 (a := ⟨9223372036854775808, 0⟩) (ep := 4) BQ.out (by simp [HSt.may, stK, apartA, inA, Ow.arc]) (its2_in (by omega)) (by rw [its2_len]; omega) (by simp [stK]; omega) (by simp [stK]; omega) (by simp [stK]) (fun it hit => by unfold its2 at hit; obtain ⟨i, _, rfl⟩ := List.mem_map.1 hit; exact ⟨by show (key2 200 i).size ≤ _; rw [key2_size]; omega, Nat.zero_le _⟩) HFIT.out).mono ?_
            rintro e w5 ⟨rfl, B5, hh5, ht5⟩
            have N5 := Lib.hid (NQ.out.turn hh5 ht5)
            clear hh5 ht5
            obtain ⟨tr5, n5, hh5, ho5⟩ := N5.out.1
            have hn5 : n5 = n + q := by rw [ho5.1, show (stK most keep).most = most from rfl, HALL.out.1]; omega
            have HH5 := Lib.hid hh5
            clear hh5 ho5
            go_wp2_with fail
            refine (hlen_any HH5.out).mono ?_
            rintro e w6 ⟨rfl, hww⟩
            rw [hww]
            clear hww
            subst hn5
            go_wp2_with fail
            refine (epoch_any HH5.out (by simp [stK, ownSt, piecesA])).mono ?_
            rintro e w7 ⟨rfl, hm7⟩
            have hep : epochTo ({ ownSt (stK most keep) ⟨9223372036854775808, 0⟩ 4 with kept := max ((stK most keep).kept - ((its2 q).length : Int)) 0 } : HSt).own = 4 := rfl
            rw [hep]
            have N7 := Lib.hid (N5.out.quiet hm7)
            clear hm7
            go_wp2_with fail
            have hst : ({ ownSt (stK most keep) ⟨9223372036854775808, 0⟩ 4 with kept := max ((stK most keep).kept - ((its2 q).length : Int)) 0 } : HSt) = stL most keep q := by rw [its2_len]; rfl
            rw [hst] at N7
            have hlen7 := HALL.out.1
            refine (do_put_any (st := stL most keep q) N7.out.1 ⟨#[122, 122]⟩ ⟨#[]⟩ ⟨#[]⟩ 0 (by decide) (by decide) (by show (putAll most xs (its2 q)).length ≤ _; omega) ⟨by show 0 ≤ max (keep - (q : Int)) 0; omega, by show max (keep - (q : Int)) 0 ≤ _; omega⟩ (by show most ≤ _; omega) (by simp [stL, stK, ownSt])).mono ?_
            rintro e w8 ⟨rfl, B8, hh8, ht8⟩
            have hpe := put3 (most := most) (keep := keep) (q := q) hqk HALL.out.2.2
            rw [show (stK most keep).most = most from rfl, hpe]
            have N8 := Lib.hid (N7.out.turn hh8 ht8)
            clear hh8 ht8 hpe
            have hf0 := told_f0
            dsimp only [encTold]
            by_cases hfin : ((putAll most xs (its2 q)).length : Int) < most
            · rw [if_pos hfin]
              have hf2 : (n : Int) + keep < most := by omega
              go_wp2_with fail
              go_ret
              exact ⟨rfl, M1.out.trans N8.out.2.1⟩
            · rw [if_neg hfin]
              have hf2 : ¬ (n : Int) + keep < most := by omega
              go_wp2_with fail
              go_ret
              exact ⟨rfl, M1.out.trans N8.out.2.1⟩
  · rw [decide_eq_false (fun e => hkm (e0.1 e))]
    rw [if_neg (fun e => hkm (e0.1 e))] at N4
    have hkm2 : most < keep := by omega
    clear e0 N3
    go_wp2_with fail
    refine (keep_any N4.out.1 (-1) (by omega) ⟨by simp [stK], by simp [stK]⟩ (by simp [stK]; omega) (by simp)).mono ?_
    rintro e w5 ⟨rfl, hh5, ht5⟩
    rw [decide_eq_false (by omega)]
    have N5 := Lib.hid (N4.out.turn hh5 ht5)
    clear hh5 ht5
    go_wp2_with fail
    go_ret
    exact ⟨rfl, M1.out.trans N5.out.2.1⟩
end Go.Proofs.YtmagddchjidamaaGreatDoor

/- HoldKeeps: room that is kept is there for what is won; for every input; no condition. -/
namespace Go.Proofs.YtmagddchjidamaaGreatDoor
set_option linter.unusedSimpArgs false
set_option linter.unusedVariables false
open Go.ChangeShapes Go.WideShapes Go.ChangeAt Go.RowKit Go.Proofs

set_option maxRecDepth 100000 in
theorem holdKeeps_lifted (os : Os) (started : os.Started) (H : Type) (enc : TypeId × Value → H) :
    ReturnsInHanded {} Tryz.checked os 8 .any (fun w args => (Rows.holdKeepsSpec.pre enc Tryz.prog Tryz.f8 Rows.holdKeepsRow.domain false w args ∧ laidMetH Tryz.prog Rows.holdKeepsRow.laid w) ∧ sizedMet enc Tryz.prog Tryz.f8 (OpenSpec.ofChange Rows.holdKeepsSpec) false w args)
      (Rows.holdKeepsSpec.post enc Tryz.prog Tryz.f8 false true false false) := by
  refine returnsInHanded_of_change_and (C := Tryz.checked) (X := fun w _ => laidMetH Tryz.prog Rows.holdKeepsRow.laid w) (fun _ _ _ hh h => h.of_heap hh) progOwn started (by kernel_rfl) Tryz.func8
    (ChangeSpec.witness_shaped (enc := enc) (C := Tryz.checked) (os := os) (X := fun w _ => laidMetH Tryz.prog Rows.holdKeepsRow.laid w) false (World.laidAll Tryz.prog os Rows.holdKeepsRow.laid) #[.int .i64 0, .int .i64 0, .int .i64 0] 8 (World.laidAll_os _ _ _)
      (World.shaped_of_ZipB (by kernel_rfl) (by kernel_rfl)) (by kernel_rfl) (by kernel_rfl) (by kernel_rfl)
      (by rw [MakeChecks.laidMetH_plain _ _ _ (by kernel_rfl)]; exact laidMet_laidAll _ (by kernel_rfl) (by kernel_rfl))) ?_
  intro W base args ds gs before hval hW _ _ _ _
  refine law_post (P := Tryz.prog) (B := 4) (fun ds h => ?_) rfl rfl (by kernel_rfl) (by kernel_rfl) progLaid hW ?_
  · match ds, h with
    | [_, _, _], _ => rfl
  · obtain ⟨p, q, hA, _⟩ := hW
    have hR := rdAll_of_trod (P := Tryz.prog) [.i .i64, .i .i64, .i .i64] (by kernel_rfl) rfl (fun j t v h1 h2 => hval j t v (by simpa using h1) (by simpa using h2)) hA
    obtain ⟨l⟩ := args
    obtain ⟨v0, vs, rfl, h0, hR⟩ := hR
    obtain ⟨v1, vs, rfl, h1, hR⟩ := hR
    obtain ⟨v2, vs, rfl, h2, hR⟩ := hR
    obtain rfl := hR
    obtain ⟨most, rfl, hm⟩ := rd_int h0
    obtain ⟨keep, rfl, hk⟩ := rd_int h1
    obtain ⟨puts, rfl, hp⟩ := rd_int h2
    exact (keeps_walk).mono fun _ _ ⟨he, hm⟩ => ⟨he, hm.below_self⟩

theorem holdKeeps_over : Rows.holdKeepsRow.holds Tryz.pinned (OpenSpec.ofChange Rows.holdKeepsSpec) :=
  OpenClaim.holds_of_wide 8 Tryz.f8 rfl rfl rfl rfl rfl rfl rfl ⟨rfl, rfl, rfl, rfl, rfl⟩ rfl rfl rfl rfl rfl (by kernel_rfl) Tryz.func8 (by kernel_rfl)
    (of_decide_eq_true (by kernel_rfl)) (by unfold Func.isWrapper; first | (rw [if_pos (by decide +kernel)]; kernel_rfl) | (rw [if_neg (by decide +kernel)]; exact ⟨rfl, rfl⟩))
    (fun os started H enc _ => holdKeeps_lifted os started H enc)

theorem holdKeeps_proved : Rows.HoldKeepsSaid := holdKeeps_over

theorem holdKeeps_card : Rows.HoldKeepsCardSaid :=
  Claim7.holds_tied_plain_at .later [] [.data, .pinned] true (true, "c7c110e04d7d8ceb5ec98da395b859d080d63254ea39ddadffe8b277b74f838b") false
    holdKeeps_over (fun _ h => by cases h) (by kernel_rfl) (fun _ h => by cases h) holdKeeps_row_tie rfl ⟨rfl, rfl⟩ (by kernel_rfl) rfl
    (fun f fn hf hfn => by
      obtain rfl : f = 8 := Option.some.inj ((show Tryz.prog.funcNamed "rosary/rosarylaw14.HoldKeeps" = some 8 by kernel_rfl).symm.trans hf) |>.symm
      obtain rfl : fn = Tryz.f8 := (Option.some.inj (Tryz.func8.symm.trans hfn)).symm
      exact ⟨by kernel_rfl, fun j t ht => by
        have hall : (Tryz.f8.params.toList.all fun t => Tryz.prog.wantsStandIn t == false) = true := by kernel_rfl
        have hm := Array.mem_of_getElem? ht
        exact beq_iff_eq.1 (List.all_eq_true.1 hall t (by simpa using hm))⟩)
    (by kernel_rfl)
end Go.Proofs.YtmagddchjidamaaGreatDoor
