/- Package truth: items: all items of a map, sorted by their keys. -/
import Derived.Test.YtcpbcggfbopobaaTruthD
import Derived.Shelf.SlSortCmp.NoneTotal
import Derived.Deep.LoopGhost
namespace Go.Proofs.Ytcpbcggfbopobaa
open Go.RowKit Go.Proofs Go.Sort Go.Shelf

theorem sort_none (p : Option Addr) (cap : Nat) (fv : Value) (w : World) :
    Calls Try.prog 25 #[.slice p 0 cap, fv] w fun x w' => x = .returned (.tuple #[]) ∧ w' = w :=
  AnyF.slices_SortFunc_none Try.sortIt p cap fv w

theorem IterAt.kept {w w' : World} {r b : Nat} {m left : SMap} (h : IterAt w r b m left) (hb : w'.heap[b]? = w.heap[b]?) (hr : w'.heap[r]? = w.heap[r]?) : IterAt w' r b m left := by
  obtain ⟨es, c, seen, h1, h2, h3, h4⟩ := h
  exact ⟨es, c, seen, hb.trans h1, h2, hr.trans h3, h4⟩
theorem IterAt.lt {w : World} {r b : Nat} {m left : SMap} (h : IterAt w r b m left) : b < w.heap.size ∧ r < w.heap.size := by
  obtain ⟨es, c, seen, h1, h2, h3, h4⟩ := h
  exact ⟨(Array.getElem?_eq_some_iff.1 h1).1, (Array.getElem?_eq_some_iff.1 h3).1⟩

theorem itemInfo : (Try.prog.info? 58).map (fun i => (i.zero, i.size, i.bytes)) = some (some (.agg #[.string ⟨#[]⟩, .string ⟨#[]⟩]), 2, 32) := by kernel_rfl
theorem tyItems : Try.prog.underlying 40 = some (.slice 58) := by kernel_rfl

/-- the loop over the map: what has come, what is left -/
def ItemsRel (b r base : Nat) (m : SMap) (w : World) (v : Value) (wr : World) : Prop :=
  ∃ acc left : SMap, m.Perm (acc ++ left) ∧ wr.ownsRow base 58 2 v acc.length (flatIt acc) ∧ IterAt wr r b m left ∧ Mod NoB w wr ∧ base ≤ wr.heap.size

/-- how much is left: the loop's measure -/
noncomputable def leftN (r : Nat) (wr : World) : Nat := match wr.heap[r]? with | some (.mapIter (some b) _ seen _) => (match wr.heap[b]? with | some (.map es _) => (leftOf es seen).size | _ => 0) | _ => 0

theorem leftN_of {w : World} {r b : Nat} {m left : SMap} (h : IterAt w r b m left) : leftN r w = left.length := by
  obtain ⟨es, c, seen, h1, h2, h3, h4⟩ := h
  simp only [leftN, h3, h1]
  have := congrArg List.length h4
  simpa using this

set_option maxHeartbeats 1000000 in
theorem items_any (b : Nat) (m : SMap) (w : World) (h : MapAt w b m) (hm : m.length ≤ 1000000) :
    Calls Try.prog 22 #[.map (some b)] w fun e w' => ∃ v xs, e = .returned v ∧ xs.Perm m ∧ SortedS xs ∧ ItemsAt w' v xs ∧ Mod NoB w w' := by
  obtain ⟨o, hrange, hit⟩ := range_ss (P := Try.prog) tyState h
  have hb := h.lt
  obtain ⟨i0, hi, hz0, hz1, hz2⟩ := info_parts itemInfo
  go_enter Try.func22, Try.ntmps22
  go_wp2_with fail
  generalize hr : w.heap.size = r at *
  have hrb : r ≠ b := by omega
  have hrel0 : ItemsRel b r (r + 1) m w (.slice none 0 0) (w.alloc o) := by
    refine ⟨[], m, by simp, World.ownsRow_nil _ _ _ _, hit, (Mod.refl _ _).alloc _, ?_⟩
    simp [hr]
  clear h hit hrange
  have HR := Lib.hid hr; clear hr
  go_loopw [3] (fun v wr => ItemsRel b r (r + 1) m w v wr) (fun _ wr => leftN r wr)
  case atStart => exact hrel0
  case round =>
    obtain ⟨acc, left, hp, hown, hit, hmod, hbase⟩ := hrel
    clear hrel0
    have hlen : Hid (acc.length + left.length = m.length) := by have := hp.length_eq; simp at this; exact this.symm
    have hlm : Hid (leftN r wr = left.length) := leftN_of hit
    have hlt := hit.lt
    rcases next_ss (P := Try.prog) hit hrb 0 with ⟨rfl, hnext⟩ | ⟨x, left', w2, hpx, hnext, hit2, hmod2, hentry⟩
    · have hp2 : acc.Perm m := by simpa using hp.symm
      have HP := Lib.hid hp2; clear hp2 hp
      have HM := Lib.hid hmod; clear hmod
      obtain ⟨hfl, hown⟩ := hown
      rcases hown with ⟨rfl, h0⟩ | ⟨g, cap, cur, rfl, hg, hgc, hcap1, hcap2, hcs, hct⟩
      · obtain rfl : acc = [] := List.eq_nil_of_length_eq_zero h0
        clear hfl h0 hlt hb hm hit
        go_wp2_with fail
        refine (sort_none none 0 _ _).mono ?_; rintro e w' ⟨rfl, rfl⟩
        go_wp2_with fail
        go_ret
        exact ⟨_, [], rfl, HP.out, List.Pairwise.nil, SlAt.nil _ _ _ _ _, HM.out⟩
      · have hsort := sort_some acc (r + 1) 58 g cap wr ⟨hfl, .inr ⟨g, cap, cur, rfl, hg, hgc, hcap1, hcap2, hcs, hct⟩⟩ (Array.getElem?_eq_some_iff.1 hgc).1 (by have := hlen.out; omega)
        have HS := Lib.hid hsort
        have hgr : w.heap.size < g := by have := HR.out; omega
        clear hfl hgc hcs hct hcap1 hcap2 hlt hb hm hit hsort
        go_wp2_with fail
        refine HS.out.mono ?_; rintro e w' ⟨rfl, acc', hpa, hso, hia, hma⟩
        have H1 := Lib.hid hpa; clear hpa
        have H2 := Lib.hid hso; clear hso
        have H3 := Lib.hid hia; clear hia
        have H4 := Lib.hid hma; clear hma
        go_wp2_with fail
        go_ret
        exact ⟨_, acc', rfl, H1.out.trans HP.out, H2.out, H3.out, HM.out.then H4.out (fun k hk e => by omega)⟩
    · have HM := Lib.hid hmod2; clear hmod2
      have HP := Lib.hid hpx; clear hpx
      have HI := Lib.hid hit2; clear hit2
      have HO := Lib.hid hown; clear hown
      have hown2 : w2.ownsRow (r + 1) 58 2 u3 acc.length (flatIt acc) := by
        refine HO.out.kept (row := some r) ⟨HM.out.os, HM.out.tape, HM.out.output, HM.out.size, fun k hk hn => HM.out.block k hk (fun e => hn (by rw [e]))⟩ ?_
        cases hv : u3.ownBlock with
        | none => exact .inl rfl
        | some k => exact .inr (fun e => by have := (HO.out.lt k hv).1; simp at e; omega)
      have H2 := Lib.hid hown2; clear hown2
      have hba : r + 1 ≤ w2.heap.size := Nat.le_trans hbase HM.out.size
      have hac : acc.length ≤ 1000000 := by have := hlen.out; omega
      have hpp := Lib.hid hp
      have hmm := Lib.hid hmod
      have hbr : b < r := by have := HR.out; omega
      clear hit hp hmod hrb hb hm
      go_wp2_with (at_builtin; refine wpList_append_own _ rfl _ _ 40 rfl (r + 1) 58 i0 (.agg #[.string ⟨#[]⟩, .string ⟨#[]⟩]) 2 32 tyItems hi hz0 hz1 hz2 rfl (by decide) _ _ _ rfl (H2.out.alloc _) ⟨w2.heap.size, 0, none⟩ 1 1 [.string x.1, .string x.2] rfl rfl ?c1 ?c2 ?c3 ?c4 ?c5 ?_)
      case c1 =>
        intro j u hu
        match j, hu with
        | 0, hu => simp at hu; subst hu; simp [Addr.add, go_sem]
        | 1, hu => simp at hu; subst hu; simp [Addr.add, go_sem]
        | j + 2, hu => simp at hu
      case c2 => intro u hu; simp at hu; rcases hu with rfl | rfl <;> rfl
      case c3 => unfold maxLen; omega
      case c4 => omega
      case c5 => simp; omega
      intro v' w' hown3 hgrow hnn
      have H3 := Lib.hid hown3; clear hown3
      have HG := Lib.hid hgrow; clear hgrow hnn
      go_wp2_with fail
      go_roundw
      case rel =>
        have hrow : ∀ k, u3.ownBlock = some k → r + 1 ≤ k := fun k hk => (HO.out.lt k hk).1
        have hk1 : ∀ k, k ≤ r → k < w2.heap.size → w'.heap[k]? = w2.heap[k]? := fun k hk hlt => by
          rw [HG.out.block k (by simp; omega) (fun e => by have := hrow k e.symm; omega)]
          exact Below.heap_alloc _ _ _ hlt
        refine ⟨acc ++ [x], left', ?_, ?_, ?_, ?_, ?_⟩
        · exact hpp.out.trans (by
            rw [List.append_assoc]
            exact List.Perm.append_left _ HP.out)
        · have : flatIt (acc ++ [x]) = flatIt acc ++ [.string x.1, .string x.2] := by simp [flatIt]
          rw [this, List.length_append]
          exact H3.out
        · have hl := HI.out.lt
          exact HI.out.kept (hk1 b (by omega) hl.1) (hk1 r (by omega) hl.2)
        · have h0 : Mod NoB w w2 := hmm.out.then HM.out (fun k hk e => by have := HR.out; omega)
          have h1 : Mod NoB w (w2.alloc (.cells #[.string x.1, .string x.2] 58)) := h0.alloc _
          refine ⟨HG.out.os.trans h1.os, HG.out.tape.trans h1.tape, HG.out.output.trans h1.output, Nat.le_trans h1.size HG.out.size, fun k hk hn => ?_⟩
          have hkr : k < r := by have := HR.out; omega
          have hk2 : k < w2.heap.size := by omega
          rw [hk1 k (by omega) hk2]
          exact h0.block k hk hn
        · have := HG.out.size; simp at this; omega
      case measure =>
        have hl := HI.out.lt
        have hrow : ∀ k, u3.ownBlock = some k → r + 1 ≤ k := fun k hk => (HO.out.lt k hk).1
        have hk1 : ∀ k, k ≤ r → k < w2.heap.size → w'.heap[k]? = w2.heap[k]? := fun k hk hlt => by
          rw [HG.out.block k (by simp; omega) (fun e => by have := hrow k e.symm; omega)]
          exact Below.heap_alloc _ _ _ hlt
        have := leftN_of (HI.out.kept (hk1 b (by omega) hl.1) (hk1 r (by omega) hl.2))
        rw [this, hlm.out, HP.out.length_eq]
        simp
end Go.Proofs.Ytcpbcggfbopobaa
