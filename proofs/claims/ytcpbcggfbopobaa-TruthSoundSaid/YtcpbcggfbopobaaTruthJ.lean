/- Package truth: Held's inner function: it tells what the key has, if that is not what was told last. -/
import Derived.Test.YtcpbcggfbopobaaTruthG
namespace Go.Proofs.Ytcpbcggfbopobaa
open Go.RowKit Go.Proofs

def lastIs (out : List ByteArray) (v : ByteArray) : Prop := out.getLast? = some v
def tellL (m : SMap) (k : ByteArray) (out : List ByteArray) : List ByteArray :=
  match m.get k with
  | none => out
  | some v => if out.getLast? = some v then out else out ++ [v]

theorem textInfo : (Try.prog.info? 9).map (fun i => (i.zero, i.size, i.bytes)) = some (some (.string ⟨#[]⟩), 1, 16) := by kernel_rfl
theorem tyTexts : Try.prog.underlying 55 = some (.slice 9) := by kernel_rfl

theorem owns_slice {w : World} {base : Nat} {e : TypeId} {size : Nat} {v : Value} {n : Nat} {xs : List Value} (h : w.ownsRow base e size v n xs) : ∃ a cap, v = .slice a n cap := by
  obtain ⟨_, ⟨rfl, rfl⟩ | ⟨g, cap, cur, rfl, _⟩⟩ := h
  · exact ⟨none, 0, rfl⟩
  · exact ⟨_, cap, rfl⟩

structure HeldAt (w : World) (sB kB oB mb : Nat) (k : ByteArray) (m : SMap) (out : List ByteArray) : Prop where
  s : w.heap[sB]? = some (.cells #[.map (some mb)] 61 (0, 0))
  k : w.heap[kB]? = some (.cells #[.string k] 9 (0, 0))
  m : MapAt w mb m
  o : ∃ v, w.heap[oB]? = some (.cells #[v] 55 (0, 0)) ∧ w.ownsRow (oB + 1) 9 1 v out.length (out.map Value.string)
  lt : sB < oB ∧ kB < oB ∧ mb < oB
  base : oB + 1 ≤ w.heap.size

theorem cell_one {w : World} {b : Nat} {v : Value} {t : TypeId} (h : w.heap[b]? = some (.cells #[v] t (0, 0))) : w.cell? ⟨b, 0, none⟩ = some v := by
  simp [World.cell?, h]
theorem frozen_one {w : World} {b : Nat} {v : Value} {t : TypeId} (h : w.heap[b]? = some (.cells #[v] t (0, 0))) : w.frozen? ⟨b, 0, none⟩ = false := by
  simp [World.frozen?, h]
theorem set_one {w : World} {b : Nat} {v : Value} {t : TypeId} (h : w.heap[b]? = some (.cells #[v] t (0, 0))) (u : Value) : (w.setCell ⟨b, 0, none⟩ u).heap[b]? = some (.cells #[u] t (0, 0)) := by
  simp [World.setCell, Array.getElem?_modify, h]

/-- the block in which lies what was told -/
def rowOf (w : World) (oB : Nat) : Option Nat := (w.cell? ⟨oB, 0, none⟩).bind Value.ownBlock

def HeldPost (w : World) (sB kB oB mb : Nat) (k : ByteArray) (m : SMap) (out : List ByteArray) (w' : World) : Prop := HeldAt w' sB kB oB mb k m (tellL m k out) ∧ Mod (fun b => b = oB ∨ rowOf w oB = some b) w w'

theorem HeldAt.row {w : World} {sB kB oB mb : Nat} {k : ByteArray} {m : SMap} {out : List ByteArray} (h : HeldAt w sB kB oB mb k m out) {g : Nat} (hg : rowOf w oB = some g) : oB < g ∧ g < w.heap.size := by
  obtain ⟨v, hv, hown⟩ := h.o
  unfold rowOf at hg
  rw [cell_one hv] at hg
  have := hown.lt g hg
  omega

theorem held_append {w w1 : World} {sB kB oB mb : Nat} {k : ByteArray} {m : SMap} {out : List ByteArray} {v v' : Value} {u : ByteArray} {o : Obj} (h : HeldAt w sB kB oB mb k m out)
    (hv : w.heap[oB]? = some (.cells #[v] 55 (0, 0))) (hown : w.ownsRow (oB + 1) 9 1 v out.length (out.map Value.string))
    (hg : m.get k = some u) (hl : ¬ out.getLast? = some u)
    (hown' : w1.ownsRow (oB + 1) 9 1 v' (out.length + 1) (out.map Value.string ++ [.string u])) (hgrow : (w.alloc o).grownBy w1 v.ownBlock) :
    w1.heap[oB]? = some (.cells #[v] 55 (0, 0)) ∧ HeldPost w sB kB oB mb k m out (w1.setCell ⟨oB, 0, none⟩ v') := by
  have hrow : ∀ k, v.ownBlock = some k → oB + 1 ≤ k := fun k hk => (hown.lt k hk).1
  have hk1 : ∀ k, k ≤ oB → w1.heap[k]? = w.heap[k]? := fun k hk => by
    have := h.base
    rw [hgrow.block k (by simp; omega) (fun e => by have := hrow k e.symm; omega)]
    exact Below.heap_alloc _ _ _ (by omega)
  have h1 : w1.heap[oB]? = some (.cells #[v] 55 (0, 0)) := by rw [hk1 oB (Nat.le_refl _)]; exact hv
  refine ⟨h1, ?_, ?_⟩
  · have ht : tellL m k out = out ++ [u] := by simp [tellL, hg, hl]
    rw [ht]
    have hs := h.lt
    refine ⟨?_, ?_, ?_, ⟨v', set_one h1 v', ?_⟩, hs, ?_⟩
    · rw [Below.heap_setCell _ _ _ _ (by show sB ≠ oB; omega), hk1 _ (by omega)]; exact h.s
    · rw [Below.heap_setCell _ _ _ _ (by show kB ≠ oB; omega), hk1 _ (by omega)]; exact h.k
    · exact h.m.kept (by rw [Below.heap_setCell _ _ _ _ (by show mb ≠ oB; omega), hk1 _ (by omega)])
    · rw [List.length_append, List.map_append]
      exact ownsRow_setCell_below hown' (by show oB < oB + 1; omega) v'
    · have := hgrow.size; have := h.base; simp [World.setCell] at *; omega
  · refine ⟨hgrow.os, hgrow.tape, hgrow.output, ?_, fun j hj hn => ?_⟩
    · have := hgrow.size; simp [World.setCell] at *; omega
    · have hrv : rowOf w oB = v.ownBlock := by unfold rowOf; rw [cell_one hv]; rfl
      rw [Below.heap_setCell _ _ _ _ (by show j ≠ oB; exact fun e => hn (.inl e)), hgrow.block j (by simp; omega) (fun e => hn (.inr (by rw [hrv, e])))]
      exact Below.heap_alloc _ _ _ hj

set_option maxHeartbeats 2000000 in
theorem tell_any (sB kB oB mb : Nat) (k : ByteArray) (m : SMap) (out : List ByteArray) (w : World) (h : HeldAt w sB kB oB mb k m out) (hl : out.length ≤ 1000000) :
    Calls Try.prog 24 #[.pointer (some ⟨sB, 0, none⟩), .pointer (some ⟨kB, 0, none⟩), .pointer (some ⟨oB, 0, none⟩)] w fun e w' => e = .returned (.tuple #[]) ∧ HeldPost w sB kB oB mb k m out w' := by
  obtain ⟨v, hv, hown⟩ := h.o
  have hlk := lookup_ss (P := Try.prog) tyState tyString h.m (zeroString _) k
  have hs := cell_one h.s
  have hkc := cell_one h.k
  have hoc := cell_one hv
  have hof := frozen_one hv
  obtain ⟨i0, hi, hz0, hz1, hz2⟩ := info_parts textInfo
  have H := Lib.hid h; clear h
  have HV := Lib.hid hv; clear hv
  have HO := Lib.hid hown; clear hown
  cases hg : m.get k with
  | none =>
    rw [hg] at hlk
    have HP : Hid (HeldPost w sB kB oB mb k m out w) := by
      refine ⟨?_, Mod.refl _ _⟩
      have : tellL m k out = out := by simp [tellL, hg]
      rw [this]; exact H.out
    clear hg
    simp only [Option.getD_none, Option.isSome_none] at hlk
    go_enter Try.func24, Try.ntmps24
    go_wp2_with fail
    go_end0
    exact ⟨rfl, HP.out⟩
  | some u =>
    rw [hg] at hlk
    simp only [Option.getD_some, Option.isSome_some] at hlk
    have HG := Lib.hid hg; clear hg
    by_cases hlast : out.getLast? = some u
    · have HP : Hid (HeldPost w sB kB oB mb k m out w) := by
        refine ⟨?_, Mod.refl _ _⟩
        have : tellL m k out = out := by simp [tellL, HG.out, hlast]
        rw [this]; exact H.out
      obtain ⟨ys, rfl⟩ : ∃ ys, out = ys ++ [u] := List.getLast?_eq_some_iff.1 hlast
      clear hlast HG
      obtain ⟨hfl, hvv⟩ := HO.out
      rcases hvv with ⟨_, h0⟩ | ⟨g, cap, cur, rfl, hg, hgc, hcap1, hcap2, hcs, hct⟩
      · simp at h0
      · have hcell : w.cell? ⟨g, ys.length, none⟩ = some (.string u) := by
          have := HO.out.cellAt ys.length (by simp)
          rw [this]; simp
        have hn : (ys ++ [u]).length = ys.length + 1 := by simp
        have HN := Lib.hid hn; clear hn
        rw [HN.out] at hoc
        clear hfl hgc hcs hct hcap1 hcap2 HV HO
        have hl2 : ys.length + 1 ≤ 1000000 := by rw [← HN.out]; exact hl
        clear hl
        go_enter Try.func24, Try.ntmps24
        go_wp2_with fail
        go_end0
        exact ⟨rfl, HP.out⟩
    · rcases List.eq_nil_or_concat out with rfl | ⟨ys, y, rfl⟩
      · have hlast := Lib.hid hlast
        obtain ⟨a0, cap0, rfl⟩ : ∃ a0 cap0, v = .slice a0 0 cap0 := by
          obtain ⟨hfl, hvv⟩ := HO.out
          rcases hvv with ⟨rfl, h0⟩ | ⟨g, cap, cur, rfl, hg, hgc, hcap1, hcap2, hcs, hct⟩
          · exact ⟨none, 0, rfl⟩
          · exact ⟨_, _, rfl⟩
        go_enter Try.func24, Try.ntmps24
        go_wp2_with (at_builtin; refine wpList_append_own _ rfl _ _ 55 rfl (oB + 1) 9 i0 (.string ⟨#[]⟩) 1 16 tyTexts hi hz0 hz1 hz2 rfl (by decide) _ _ _ rfl (HO.out.alloc _) ⟨w.heap.size, 0, none⟩ 1 1 [.string u] rfl rfl ?c1 ?c2 ?c3 ?c4 ?c5 ?_)
        case c1 =>
          intro j x hx
          match j, hx with
          | 0, hx => simp at hx; subst hx; simp [Addr.add, go_sem]
          | j + 1, hx => simp at hx
        case c2 => intro x hx; simp at hx; subst hx; rfl
        case c3 => unfold maxLen; omega
        case c4 => omega
        case c5 => have := H.out.base; simp; omega
        intro v' w1 hown' hgrow _
        obtain ⟨a', cap', rfl⟩ := owns_slice hown'
        obtain ⟨g1, hpost⟩ := held_append H.out HV.out HO.out HG.out hlast.out hown' hgrow
        have hoc1 := cell_one g1
        have hof1 := frozen_one g1
        have HP := Lib.hid hpost; clear hpost g1 hown' hgrow
        go_wp2_with fail
        go_end0
        exact ⟨rfl, HP.out⟩
      · rw [List.concat_eq_append] at *
        have hyu : ¬ y = u := by simpa using hlast
        have hlast := Lib.hid hlast
        obtain ⟨hfl, hvv⟩ := HO.out
        rcases hvv with ⟨_, h0⟩ | ⟨g, cap, cur, rfl, hg, hgc, hcap1, hcap2, hcs, hct⟩
        · simp at h0
        · have hcell : w.cell? ⟨g, ys.length, none⟩ = some (.string y) := by
            have := HO.out.cellAt ys.length (by simp)
            rw [this]; simp
          have hne : (!y.toList == u.toList) = true := by
            have : ¬ y.toList = u.toList := fun e => hyu (ba_ext e)
            simpa using this
          have hn : (ys ++ [y]).length = ys.length + 1 := by simp
          have HN := Lib.hid hn; clear hn
          rw [HN.out] at hoc
          clear hfl hgc hcs hct hcap1 hcap2 hyu
          have hl2 : ys.length + 1 ≤ 1000000 := by rw [← HN.out]; exact hl
          clear hl
          have HO2 : Hid (w.ownsRow (oB + 1) 9 1 (.slice (some ⟨g, 0, none⟩) (ys.length + 1) cap) (ys.length + 1) ((ys ++ [y]).map Value.string)) := by
            have := HO.out; rw [HN.out] at this; exact this
          go_enter Try.func24, Try.ntmps24
          go_wp2_with (at_builtin; refine wpList_append_own _ rfl _ _ 55 rfl (oB + 1) 9 i0 (.string ⟨#[]⟩) 1 16 tyTexts hi hz0 hz1 hz2 rfl (by decide) _ _ _ rfl (HO2.out.alloc _) ⟨w.heap.size, 0, none⟩ 1 1 [.string u] rfl rfl ?c1 ?c2 ?c3 ?c4 ?c5 ?_)
          case c1 =>
            intro j x hx
            match j, hx with
            | 0, hx => simp at hx; subst hx; simp [Addr.add, go_sem]
            | j + 1, hx => simp at hx
          case c2 => intro x hx; simp at hx; subst hx; rfl
          case c3 => unfold maxLen; omega
          case c4 => omega
          case c5 => have := H.out.base; simp; omega
          intro v' w1 hown' hgrow _
          obtain ⟨a', cap', rfl⟩ := owns_slice hown'
          have hown2 : w1.ownsRow (oB + 1) 9 1 (.slice a' (ys.length + 1 + 1) cap') ((ys ++ [y]).length + 1) ((ys ++ [y]).map Value.string ++ [.string u]) := by
            rw [HN.out]; simpa using hown'
          obtain ⟨g1, hpost⟩ := held_append (out := ys ++ [y]) H.out HV.out HO.out HG.out hlast.out hown2 hgrow
          clear hown2
          have hoc1 := cell_one g1
          have hof1 := frozen_one g1
          have HP := Lib.hid hpost; clear hpost g1 hown' hgrow
          go_wp2_with fail
          go_end0
          exact ⟨rfl, HP.out⟩
end Go.Proofs.Ytcpbcggfbopobaa
