/- Points and texts: a text's point rises with it; the first text at a point parts the texts ahead of the point from those at it. Plain Lean. -/
import Derived.Test.YtmagddchjidamaaGreatDoorHoldEnd
import Derived.Test.YtmagddchjidamaaGreatDoorKeyFirst
namespace Go.Proofs.YtmagddchjidamaaGreatDoor
set_option linter.unusedSimpArgs false
set_option linter.unusedVariables false

theorem byteAt_eq (k : ByteArray) (i : Nat) : byteAt k i = ((k.data.toList[i]?).map UInt8.toNat).getD 0 := by
  unfold byteAt
  by_cases h : i < k.size
  · rw [dif_pos h, List.getElem?_eq_getElem (show i < k.data.toList.length by simpa using h)]
    simp [ByteArray.getElem_eq_getElem_data]
  · rw [dif_neg h, List.getElem?_eq_none (show k.data.toList.length ≤ i by simpa using (Nat.not_lt.1 h))]
    rfl

theorem lessB_at : {a b : List UInt8} → lessB a b = true → ∃ i, i < b.length ∧ (∀ j, j < i → a[j]? = b[j]?) ∧ (a.length = i ∨ ∃ x y, a[i]? = some x ∧ b[i]? = some y ∧ x < y)
  | [], [], h => by simp [lessB] at h
  | [], y :: b, _ => ⟨0, by simp, fun j hj => by omega, .inl rfl⟩
  | x :: a, [], h => by simp [lessB] at h
  | x :: a, y :: b, h => by
    unfold lessB at h
    by_cases h1 : x < y
    · exact ⟨0, by simp, fun j hj => by omega, .inr ⟨x, y, rfl, rfl, h1⟩⟩
    · rw [if_neg h1] at h
      by_cases h2 : y < x
      · rw [if_pos h2] at h; cases h
      · rw [if_neg h2] at h
        obtain rfl : x = y := UInt8.le_antisymm (UInt8.not_lt.1 h2) (UInt8.not_lt.1 h1)
        obtain ⟨i, h3, h4, h5⟩ := lessB_at h
        refine ⟨i + 1, by simpa using h3, fun j hj => ?_, ?_⟩
        · cases j with
          | zero => rfl
          | succ j => simpa using h4 j (by omega)
        · rcases h5 with h5 | ⟨u, v, h5, h6, h7⟩
          · exact .inl (by simpa using h5)
          · exact .inr ⟨u, v, by simpa using h5, by simpa using h6, h7⟩

theorem keyLt_at {a b : ByteArray} (h : keyLt a b = true) : ∃ i, i < b.size ∧ (∀ j, j < i → byteAt a j = byteAt b j) ∧ (a.size = i ∨ byteAt a i < byteAt b i) := by
  obtain ⟨i, h1, h2, h3⟩ := lessB_at h
  refine ⟨i, by simpa using h1, fun j hj => by rw [byteAt_eq, byteAt_eq, h2 j hj], ?_⟩
  rcases h3 with h3 | ⟨x, y, h3, h4, h5⟩
  · exact .inl (by simpa using h3)
  · refine .inr ?_
    rw [byteAt_eq, byteAt_eq, h3, h4]
    simpa using UInt8.lt_iff_toNat_lt.1 h5

theorem byteAt_none {k : ByteArray} {i : Nat} (h : k.size ≤ i) : byteAt k i = 0 := by unfold byteAt; rw [dif_neg (by omega)]

theorem addrTo_same {a b : ByteArray} : (n : Nat) → (∀ j, j < n → byteAt a j = byteAt b j) → addrTo a n = addrTo b n
  | 0, _ => rfl
  | n + 1, h => by rw [addrTo, addrTo, addrTo_same n (fun j hj => h j (by omega)), h n (by omega)]

theorem addrTo_strict {a b : ByteArray} {i : Nat} (h : addrTo a i < addrTo b i) : (n : Nat) → addrTo a (i + n) < addrTo b (i + n)
  | 0 => h
  | n + 1 => by
    have ih := addrTo_strict h n
    have h1 := byteAt_lt a (i + n)
    rw [← Nat.add_assoc, addrTo, addrTo]
    omega

theorem addrTo_le {a b : ByteArray} : (n : Nat) → (∀ j, j < n → byteAt a j ≤ byteAt b j) → addrTo a n ≤ addrTo b n
  | 0, _ => Nat.le_refl _
  | n + 1, h => by
    have h1 := addrTo_le n (fun j hj => h j (by omega))
    have h2 := h n (by omega)
    rw [addrTo, addrTo]
    omega

theorem addrTo_first {a b : ByteArray} {i : Nat} (h : ∀ j, j < i → byteAt a j = byteAt b j) (hlt : byteAt a i < byteAt b i) (hi : i < 8) : addr a < addr b := by
  have h1 : addrTo a (i + 1) < addrTo b (i + 1) := by
    rw [addrTo, addrTo, addrTo_same i h]
    omega
  have := addrTo_strict h1 (8 - (i + 1))
  rw [show i + 1 + (8 - (i + 1)) = 8 by omega] at this
  unfold addr
  omega

theorem addr_mono {a b : ByteArray} (h : keyLt a b = true) : addr a ≤ addr b := by
  obtain ⟨i, h1, h2, h3⟩ := keyLt_at h
  rcases Nat.lt_or_ge i 8 with hi | hi
  · rcases h3 with h3 | h3
    · unfold addr
      have := addrTo_le (a := a) (b := b) 8 (fun j hj => by
        rcases Nat.lt_or_ge j i with hji | hji
        · rw [h2 j hji]; exact Nat.le_refl _
        · rw [byteAt_none (k := a) (by omega)]; exact Nat.zero_le _)
      omega
    · have := addrTo_first h2 h3 hi
      omega
  · unfold addr
    rw [addrTo_same 8 (fun j hj => h2 j (by omega))]
    exact Int.le_refl _

/-! ### The first text at a point -/
theorem trimR_parts (l : List UInt8) : ∃ m, l = Lib.trimRightB l 0 ++ List.replicate m 0 ∧ ((Lib.trimRightB l 0).getLast?).all (fun b => b != 0) = true := by
  unfold Lib.trimRightB
  refine ⟨(l.reverse.takeWhile (· == 0)).length, ?_, ?_⟩
  · have h1 := List.takeWhile_append_dropWhile (p := (· == (0 : UInt8))) (l := l.reverse)
    have h2 : l.reverse.takeWhile (· == (0 : UInt8)) = List.replicate (l.reverse.takeWhile (· == (0 : UInt8))).length 0 := by
      refine List.eq_replicate_of_mem fun b hb => ?_
      have := List.all_takeWhile (p := (· == (0 : UInt8))) (l := l.reverse)
      have := List.all_eq_true.1 this b hb
      simpa using this
    have h3 := congrArg List.reverse h1
    rw [List.reverse_append, List.reverse_reverse] at h3
    rw [h2, List.reverse_replicate] at h3
    exact h3.symm
  · rw [List.getLast?_reverse]
    cases h : (l.reverse.dropWhile (· == (0 : UInt8))) with
    | nil => rfl
    | cons b r =>
      have := List.head?_dropWhile_not (· == (0 : UInt8)) l.reverse
      rw [h] at this
      simpa using this

theorem octs_at {f : Nat → Int} (hf : ∀ k, 0 ≤ f k ∧ f k < 256) {j : Nat} (hj : j < 8) : byteAt (octs f) j = (f j).toNat := by
  have e : ∀ k, (UInt8.ofNat (f k).toNat).toNat = (f k).toNat := fun k => by
    have := hf k
    rw [UInt8.toNat_ofNat']
    omega
  rw [byteAt_eq]
  match j, hj with
  | 0, _ => simp [octs, e]
  | 1, _ => simp [octs, e]
  | 2, _ => simp [octs, e]
  | 3, _ => simp [octs, e]
  | 4, _ => simp [octs, e]
  | 5, _ => simp [octs, e]
  | 6, _ => simp [octs, e]
  | 7, _ => simp [octs, e]

theorem oct_in (a : Int) (k : Nat) : 0 ≤ (if k < 8 then octet a k else 0) ∧ (if k < 8 then octet a k else 0) < 256 := by
  split
  · unfold octet; omega
  · decide

theorem oct_step (a p : Int) (hp : 0 ≤ p) : a / (p * 256) * 256 + a / p % 256 = a / p := by
  have := Int.ediv_ediv_of_nonneg (x := a) (y := p) (z := 256) hp
  omega

theorem addr_octs {a : Int} (ha : Pt64 a) : addr (octs (fun k => if k < 8 then octet a k else 0)) = a := by
  obtain ⟨h0, h1⟩ := ha
  have e : ∀ j, j < 8 → ((byteAt (octs (fun k => if k < 8 then octet a k else 0)) j : Nat) : Int) = octet a j := fun j hj => by
    rw [octs_at (oct_in a) hj, if_pos hj]
    have : 0 ≤ octet a j := by unfold octet; omega
    omega
  have st : ∀ j, j < 8 → ∀ p q : Int, (2 : Int) ^ (8 * (7 - j)) = p → 0 ≤ p → p * 256 = q → a / q * 256 + octet a j = a / p := fun j _ p q hp hp0 hq => by
    subst hp hq
    exact oct_step a _ hp0
  have s0 := st 0 (by decide) 72057594037927936 18446744073709551616 (by decide) (by decide) (by decide); have e0 := e 0 (by decide)
  have s1 := st 1 (by decide) 281474976710656 72057594037927936 (by decide) (by decide) (by decide); have e1 := e 1 (by decide)
  have s2 := st 2 (by decide) 1099511627776 281474976710656 (by decide) (by decide) (by decide); have e2 := e 2 (by decide)
  have s3 := st 3 (by decide) 4294967296 1099511627776 (by decide) (by decide) (by decide); have e3 := e 3 (by decide)
  have s4 := st 4 (by decide) 16777216 4294967296 (by decide) (by decide) (by decide); have e4 := e 4 (by decide)
  have s5 := st 5 (by decide) 65536 16777216 (by decide) (by decide) (by decide); have e5 := e 5 (by decide)
  have s6 := st 6 (by decide) 256 65536 (by decide) (by decide) (by decide); have e6 := e 6 (by decide)
  have s7 := st 7 (by decide) 1 256 (by decide) (by decide) (by decide); have e7 := e 7 (by decide)
  have z : a / 18446744073709551616 = 0 := by omega
  rw [z] at s0
  rw [Int.ediv_one] at s7
  unfold addr
  simp only [addrTo]
  clear st e z h0 h1
  generalize octs (fun k => if k < 8 then octet a k else 0) = B at *
  generalize byteAt B 0 = b0 at *
  generalize byteAt B 1 = b1 at *
  generalize byteAt B 2 = b2 at *
  generalize byteAt B 3 = b3 at *
  generalize byteAt B 4 = b4 at *
  generalize byteAt B 5 = b5 at *
  generalize byteAt B 6 = b6 at *
  generalize byteAt B 7 = b7 at *
  generalize octet a 0 = o0 at *
  generalize octet a 1 = o1 at *
  generalize octet a 2 = o2 at *
  generalize octet a 3 = o3 at *
  generalize octet a 4 = o4 at *
  generalize octet a 5 = o5 at *
  generalize octet a 6 = o6 at *
  generalize octet a 7 = o7 at *
  generalize a / 72057594037927936 = x0 at *
  generalize a / 281474976710656 = x1 at *
  generalize a / 1099511627776 = x2 at *
  generalize a / 4294967296 = x3 at *
  generalize a / 16777216 = x4 at *
  generalize a / 65536 = x5 at *
  generalize a / 256 = x6 at *
  omega

theorem firstB_at (a : Int) (j : Nat) (hj : j < 8) : byteAt (firstB a) j = byteAt (octs (fun k => if k < 8 then octet a k else 0)) j := by
  obtain ⟨m, h1, _⟩ := trimR_parts (octs (fun k => if k < 8 then octet a k else 0)).data.toList
  rw [byteAt_eq, byteAt_eq]
  conv => rhs; rw [h1]
  unfold firstB
  simp only [List.getElem?_append]
  split
  · rfl
  · rename_i hn
    rw [List.getElem?_eq_none (by omega)]
    rw [List.getElem?_replicate]
    split <;> rfl

theorem firstB_size (a : Int) : (firstB a).size ≤ 8 := by
  obtain ⟨m, h1, _⟩ := trimR_parts (octs (fun k => if k < 8 then octet a k else 0)).data.toList
  have := congrArg List.length h1
  rw [List.length_append] at this
  have h8 : (octs (fun k => if k < 8 then octet a k else 0)).data.toList.length = 8 := rfl
  show (firstB a).data.size ≤ 8
  unfold firstB
  simp only [List.size_toArray]
  omega

theorem addr_first {a : Int} (ha : Pt64 a) : addr (firstB a) = a := by
  rw [← addr_octs ha]
  unfold addr
  rw [addrTo_same 8 (fun j hj => firstB_at _ j hj)]
  congr 2
  rw [show ((addrTo (octs fun k => if k < 8 then octet a k else 0) 8 : Nat) : Int) = addr (octs fun k => if k < 8 then octet a k else 0) from rfl, addr_octs ha]

theorem firstB_last {a : Int} {i : Nat} (h : i < (firstB a).size) : ∃ m, i ≤ m ∧ m < 8 ∧ 0 < byteAt (firstB a) m := by
  have h8 := firstB_size a
  refine ⟨(firstB a).size - 1, by omega, by omega, ?_⟩
  obtain ⟨m, _, h2⟩ := trimR_parts (octs (fun k => if k < 8 then octet a k else 0)).data.toList
  rw [byteAt_eq]
  have hs : (firstB a).size = (Lib.trimRightB (octs (fun k => if k < 8 then octet a k else 0)).data.toList 0).length := by
    show (firstB a).data.size = _
    unfold firstB
    simp
  have hd : (firstB a).data.toList = Lib.trimRightB (octs (fun k => if k < 8 then octet a k else 0)).data.toList 0 := by
    unfold firstB
    simp
  rw [hd, hs, ← List.getLast?_eq_getElem?]
  cases hl : (Lib.trimRightB (octs (fun k => if k < 8 then octet a k else 0)).data.toList 0).getLast? with
  | none =>
    rw [List.getLast?_eq_none_iff] at hl
    rw [hs, hl] at h
    simp at h
  | some b =>
    rw [hl] at h2
    simp only [Option.all_some, bne_iff_ne, ne_eq] at h2
    simp only [Option.map_some, Option.getD_some]
    have : b.toNat ≠ 0 := fun e => h2 (by
      have := UInt8.toNat_inj.1 (show b.toNat = (0 : UInt8).toNat by simpa using e)
      exact this)
    omega

theorem first_lt {a : Int} (ha : Pt64 a) (k : ByteArray) : keyLt k (firstB a) = true ↔ addr k < a := by
  have he := addr_first ha
  constructor
  · intro h
    rw [← he]
    obtain ⟨i, h1, h2, h3⟩ := keyLt_at h
    have h8 := firstB_size a
    rcases h3 with h3 | h3
    · obtain ⟨m, hm1, hm2, hm3⟩ := firstB_last h1
      have hz : ∀ j, i ≤ j → byteAt k j = 0 := fun j hj => byteAt_none (by omega)
      -- the first byte behind i that is none
      have hex : ∃ p, i ≤ p ∧ p < 8 ∧ 0 < byteAt (firstB a) p ∧ ∀ j, i ≤ j → j < p → byteAt (firstB a) j = 0 := by
        have : ∀ n, ∀ m, m - i ≤ n → i ≤ m → m < 8 → 0 < byteAt (firstB a) m → ∃ p, i ≤ p ∧ p < 8 ∧ 0 < byteAt (firstB a) p ∧ ∀ j, i ≤ j → j < p → byteAt (firstB a) j = 0 := by
          intro n
          induction n with
          | zero => exact fun m hn h1 h2 h3 => ⟨m, h1, h2, h3, fun j hj1 hj2 => by omega⟩
          | succ n ih =>
            intro m hn h1 h2 h3
            by_cases hall : ∃ j, i ≤ j ∧ j < m ∧ 0 < byteAt (firstB a) j
            · obtain ⟨j, hj1, hj2, hj3⟩ := hall
              exact ih j (by omega) hj1 (by omega) hj3
            · refine ⟨m, h1, h2, h3, fun j hj1 hj2 => ?_⟩
              rcases Nat.eq_zero_or_pos (byteAt (firstB a) j) with h | h
              · exact h
              · exact absurd ⟨j, hj1, hj2, h⟩ hall
        exact this _ m (Nat.le_refl _) hm1 hm2 hm3
      obtain ⟨p, hp1, hp2, hp3, hp4⟩ := hex
      refine addrTo_first (i := p) (fun j hj => ?_) (by rw [hz p hp1]; exact hp3) hp2
      rcases Nat.lt_or_ge j i with hji | hji
      · exact h2 j hji
      · rw [hz j hji, hp4 j hji hj]
    · exact addrTo_first h2 h3 (by omega)
  · intro h
    rcases keyLt_total k (firstB a) with h1 | h1 | h1
    · exact h1
    · rw [h1, he] at h; omega
    · have := addr_mono h1
      omega
end Go.Proofs.YtmagddchjidamaaGreatDoor
