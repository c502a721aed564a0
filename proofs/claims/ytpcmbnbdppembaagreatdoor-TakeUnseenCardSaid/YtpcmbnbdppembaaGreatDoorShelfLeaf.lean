/- A shelf's tree that is one leaf, or none: leaf, all, Items. -/
import Derived.Test.YtpcmbnbdppembaaGreatDoorHoldMem
import Derived.Deep.AppendLies
namespace Go.Proofs.YtpcmbnbdppembaaGreatDoor
set_option linter.unusedSimpArgs false
set_option linter.unusedVariables false
open Go.RowKit

theorem leaf_any {w : World} {b : Nat} {xs : List Itm} {ts : List Tree} {L : List Nat} (h : TreeAt w b (.mk xs ts) L) :
    Calls Tryz.prog 148 #[.pointer (some ⟨b, 0, none⟩)] w fun e w' => e = .returned (.bool (decide (ts.length = 0))) ∧ w' = w := by
  unfold TreeAt at h
  obtain ⟨v, u, bs, Ls, h1, h2, h3, h4, rfl⟩ := h
  have c1 : w.cell? ⟨b, 1, none⟩ = some u := cell_of h1 1 rfl
  have hu : ∃ a cap, u = .slice a ts.length cap := by
    rcases h3.2 with ⟨rfl, e⟩ | ⟨g, cap, cur, rfl, _⟩
    · exact ⟨none, 0, by rw [e]⟩
    · exact ⟨_, cap, rfl⟩
  obtain ⟨a, cap, rfl⟩ := hu
  clear h1 h2 h3 h4
  go_enter Tryz.func148, Tryz.ntmps148
  go_wp2_with fail
  go_ret
  refine ⟨?_, rfl⟩
  show Ending.returned (.bool _) = _
  congr 2
  rw [Bool.eq_iff_iff]
  simp

theorem infoIt : (Tryz.prog.info? 73).map (fun i => (i.zero, i.size, decide (i.bytes ≤ 64))) = some (some (.agg #[.string ⟨#[]⟩, .string ⟨#[]⟩]), 2, true) := by kernel_rfl
theorem tyIts : Tryz.prog.underlying 22 = some (.slice 73) := by kernel_rfl
theorem itInfo_parts : ∃ i z, Tryz.prog.info? 73 = some i ∧ i.zero = some z ∧ i.size = 2 ∧ z.cells.size = 2 ∧ i.bytes ≤ 64 := by
  have h := infoIt
  cases hi : Tryz.prog.info? 73 with
  | none => rw [hi] at h; cases h
  | some i =>
    rw [hi] at h
    simp only [Option.map_some, Option.some.injEq, Prod.mk.injEq, decide_eq_true_eq] at h
    obtain ⟨hz, hs, hb⟩ := h
    exact ⟨i, _, rfl, hz, hs, rfl, hb⟩
theorem oneIt {x : Itm} {u : Value} (hu : u ∈ encIt x) : u.oneCell' = true := by
  simp only [encIt, List.mem_cons, List.not_mem_nil, or_false] at hu
  rcases hu with rfl | rfl <;> rfl
theorem newsIt {W : World} {x : Itm} {e : TypeId} {b j : Nat} {u : Value} (hb : W.heap[b]? = some (.cells (encIt x).toArray e (0, 0))) (hu : (encIt x)[j]? = some u) : W.cell? ((⟨b, 0, none⟩ : Addr).add j) = some u :=
  World.news_of_block hb j u (by simpa using hu)
theorem heap_two2 (W : World) (o1 o2 : Obj) : ((W.alloc o1).alloc o2).heap[W.heap.size + 1]? = some o2 := by
  have := heap_alloc_new (W.alloc o1) o2
  simpa using this

theorem at2 {w : World} {v : Value} {l : List Itm} (h : SlAt 2 encIt w v l) {i : Nat} {p : Itm} (hi : l[i]? = some p) : ∃ b o cap, v = .slice (some ⟨b, o, none⟩) l.length cap ∧ b < w.heap.size ∧
    w.cell? ⟨b, o + i * 2, none⟩ = some (.string p.1) ∧ w.cell? ⟨b, o + i * 2 + 1, none⟩ = some (.string p.2) := by
  obtain ⟨a, cap, hv, hx⟩ := h
  obtain ⟨b, o, rfl, hj⟩ := hx i p hi
  have h0 := hj 0 _ rfl
  exact ⟨b, o, cap, hv, cell_lt' h0, h0, hj 1 _ rfl⟩

theorem grown_modT {S : Nat → Prop} {a w w' : World} {v : Value} (h : Mod S a w) (hg : w.grownBy w' v.ownBlock) (hv : ∀ k ∈ ownL v, k < a.heap.size → S k) : Mod S a w' :=
  ⟨hg.os.trans h.os, hg.tape.trans h.tape, hg.output.trans h.output, Nat.le_trans h.size hg.size, fun k hk hn => by
    rw [hg.block k (Nat.lt_of_lt_of_le hk h.size) (fun e => hn (hv k (by simp [ownL, ← e]) hk))]
    exact h.block k hk hn⟩

/-- all's loop in a leaf -/
def AllRel (w : World) (b : Nat) (xs outs : List Itm) (vout : Value) (o i : Value) (wr : World) : Prop :=
  ∃ k : Nat, k ≤ xs.length ∧ i = .int .i64 k ∧ wr.ownsRow 0 73 2 o (outs ++ xs.take k).length ((outs ++ xs.take k).flatMap encIt) ∧ Mod (· ∈ ownL vout) w wr ∧ ∀ g ∈ ownL o, g ∈ ownL vout ∨ w.heap.size ≤ g

set_option maxRecDepth 100000 in
set_option maxHeartbeats 8000000 in
theorem all_leaf {w : World} {b : Nat} {xs : List Itm} {L : List Nat} (h : TreeAt w b (.mk xs []) L) (outs : List Itm) (vout : Value) (ho : w.ownsRow 0 73 2 vout outs.length (outs.flatMap encIt)) (hd : ∀ g ∈ ownL vout, g ∉ L)
    (hlen : outs.length + xs.length ≤ 1000000) :
    Calls Tryz.prog 154 #[.pointer (some ⟨b, 0, none⟩), vout] w fun e w' => ∃ v, e = .returned v ∧ w'.ownsRow 0 73 2 v (outs ++ xs).length ((outs ++ xs).flatMap encIt) ∧ Mod (· ∈ ownL vout) w w' ∧ ∀ g ∈ ownL v, g ∈ ownL vout ∨ w.heap.size ≤ g := by
  have HT := Lib.hid h
  unfold TreeAt at h
  obtain ⟨v, u, bs, Ls, h1, h2, h3, h4, rfl⟩ := h
  have c0 : w.cell? ⟨b, 0, none⟩ = some v := cell_of h1 0 rfl
  have hsl := own_slAt (k := 2) (enc := encIt) (fun _ => rfl) h2
  obtain ⟨av, cap, rfl, _⟩ := id hsl
  have HS := Lib.hid hsl
  have HO := Lib.hid ho
  have HD := Lib.hid hd
  clear h1 h2 h3 h4 hsl ho hd
  go_enter Tryz.func154, Tryz.ntmps154
  go_wp2_with fail
  go_loopw [1, 15] (fun o i wr => AllRel w b xs outs vout o i wr) (fun _ i _ => xs.length - (intOf i).toNat)
  case atStart => exact ⟨0, Nat.zero_le _, rfl, by simpa using HO.out, Mod.refl _ _, fun g hg => .inl hg⟩
  case round =>
    obtain ⟨k, hk, rfl, hrow, hm, hb⟩ := hrel
    have HR := Lib.hid hrow; have HM := Lib.hid hm; have HB := Lib.hid hb; clear hrow hm hb
    by_cases hlt : k < xs.length
    · have he : xs[k]? = some xs[k] := List.getElem?_eq_getElem hlt
      generalize xs[k] = x at he
      have hsl2 : SlAt 2 encIt wr (.slice av xs.length cap) xs := by
        obtain ⟨b', o', cap', hv, _⟩ := at2 HS.out he
        simp only [Value.slice.injEq] at hv
        obtain ⟨rfl, _, _⟩ := hv
        refine slAt_modS HS.out HM.out (fun hg => HD.out _ hg ?_)
        simp [ownL, Value.ownBlock]
      obtain ⟨b', o', cap', hv, hb', p0, p1⟩ := at2 hsl2 he
      simp only [Value.slice.injEq] at hv
      obtain ⟨rfl, _, rfl⟩ := hv
      have HT2 := Lib.hid (HT.out.mod HM.out (fun g hg hx => HD.out g hx hg))
      clear hsl2
      have HE := Lib.hid he; clear he
      obtain ⟨i0, z0, hi, hz0, hz1, hz2, hz3⟩ := itInfo_parts
      have hkl : (outs ++ xs.take k).length + 1 ≤ 2000000 := by simp; omega
      have HKL := Lib.hid hkl; clear hkl
      go_wp2_with fail
      refine (leaf_any (HT2.out.mod (S := NoB) (by repeat (first | exact Mod.refl _ _ | refine Mod.alloc ?_ _ | refine Mod.drew ?_)) (fun _ _ x => x))).mono ?_
      rintro e w1 ⟨rfl, rfl⟩
      go_wp2_with (at_builtin; go_loud (refine wpList_append_lies _ rfl _ _ 22 rfl 0 73 i0 z0 2 i0.bytes tyIts hi hz0 hz1 rfl hz2 (by decide) u1 (outs ++ xs.take k).length ((outs ++ xs.take k).flatMap encIt) rfl (own_mod' (S := NoB) HR.out (by repeat (first | exact Mod.refl _ _ | refine Mod.alloc ?_ _ | refine Mod.drew ?_)) (fun _ _ x => x)) ⟨wr.heap.size + 1, 0, none⟩ 1 1 (encIt x) rfl rfl (by intro j u hu; exact newsIt (heap_two2 _ _ _) hu) (by intro u hu; exact oneIt hu) (by decide) (by have := HKL.out; unfold maxLen; omega) (by have := HKL.out; exact Nat.le_trans (Nat.mul_le_mul this hz3) (by decide)) (Nat.zero_le _) _ rfl ?_; intro g cap2 w3 hown hgrow hat hlt3; have G1 := Lib.hid hown; have G2 := Lib.hid hgrow; have G3 := Lib.hid hat; clear hown hgrow hat))
      have e : outs ++ xs.take (k + 1) = (outs ++ xs.take k) ++ [x] := by rw [List.take_add_one, HE.out, List.append_assoc]; rfl
      have hl : (outs ++ xs.take k).length = outs.length + k := by simp; omega
      refine ⟨⟨k + 1, hlt, by go_num, ?_, ?_, ?_⟩, by simp [intOf]; omega⟩
      · have := G1.out
        rw [e, List.length_append, List.flatMap_append, hl]
        rw [hl] at this
        simpa using this
      · exact grown_modT (v := u1) ((HM.out.alloc _).alloc _) G2.out (fun j hj hlt => (HB.out j hj).resolve_right (by omega))
      · intro j hj
        simp [ownL, Value.ownBlock] at hj
        subst hj
        rcases G3.out with h1 | h1
        · exact HB.out j (by simp [ownL, h1])
        · right
          rw [h1]
          have := HM.out.size
          simp
          omega
    · obtain rfl : k = xs.length := by omega
      have HT2 := Lib.hid (HT.out.mod HM.out (fun g hg hx => HD.out g hx hg))
      go_wp2_with fail
      refine (leaf_any HT2.out).mono ?_
      rintro e w1 ⟨rfl, rfl⟩
      go_wp2_with fail
      go_ret
      exact ⟨_, rfl, by simpa using HR.out, HM.out, HB.out⟩

/-- what Items gives of a tree -/
def ItemsOK (tr : Option Tree) (xs : List Itm) : Prop := ∀ (w : World) (s : Nat) (most : Int) (n : Nat) (L : List Nat), ShelfAt w s most tr n L →
  Calls Tryz.prog 64 #[.pointer (some ⟨s, 0, none⟩)] w fun e w' => ∃ v, e = .returned v ∧ w'.ownsRow 0 73 2 v xs.length (xs.flatMap encIt) ∧ Mod NoB w w' ∧ ∀ g ∈ ownL v, w.heap.size ≤ g

theorem all_nil (v : Value) (w : World) : Calls Tryz.prog 154 #[.pointer none, v] w fun e w' => e = .returned v ∧ w' = w := by
  go_enter Tryz.func154, Tryz.ntmps154
  go_wp2_with fail
  go_ret
  exact ⟨rfl, rfl⟩

theorem items_none : ItemsOK none [] := by
  intro w s most n L h
  unfold ShelfAt at h
  obtain ⟨h1, rfl⟩ := h
  have c2 : w.cell? ⟨s, 2, none⟩ = some (.pointer none) := cell_of h1 2 rfl
  clear h1
  go_enter Tryz.func64, Tryz.ntmps64
  go_wp2_with fail
  refine (all_nil _ _).mono ?_
  rintro e w1 ⟨rfl, rfl⟩
  go_wp2_with fail
  go_ret
  exact ⟨_, rfl, World.ownsRow_nil _ _ _ _, Mod.refl _ _, fun g hg => by simp [ownL, Value.ownBlock] at hg⟩

theorem items_leaf (xs : List Itm) (hl : xs.length ≤ 1000000) : ItemsOK (some (.mk xs [])) xs := by
  intro w s most n L h
  unfold ShelfAt at h
  obtain ⟨b, Lt, h1, h2, rfl⟩ := h
  have c2 : w.cell? ⟨s, 2, none⟩ = some (.pointer (some ⟨b, 0, none⟩)) := cell_of h1 2 rfl
  have HT := Lib.hid h2
  clear h1 h2
  go_enter Tryz.func64, Tryz.ntmps64
  go_wp2_with fail
  refine (all_leaf HT.out [] (.slice none 0 0) (World.ownsRow_nil _ _ _ _) (fun g hg => by simp [ownL, Value.ownBlock] at hg) (by simpa using hl)).mono ?_
  rintro e w1 ⟨v, rfl, hr, hm, hb⟩
  have HR := Lib.hid hr; have HM := Lib.hid hm; have HB := Lib.hid hb; clear hr hm hb
  go_wp2_with fail
  go_ret
  exact ⟨_, rfl, by simpa using HR.out, HM.out.mono (fun k _ hk => by simp [ownL, Value.ownBlock] at hk), fun g hg => (HB.out g hg).resolve_left (fun hk => by simp [ownL, Value.ownBlock] at hk)⟩
end Go.Proofs.YtpcmbnbdppembaaGreatDoor
