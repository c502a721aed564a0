/- Package truth: Fold and At: what events come to. -/
import Derived.Test.YtcpbcggfbopobaaTruthE
namespace Go.Proofs.Ytcpbcggfbopobaa
open Go.RowKit Go.Proofs

def foldM (l : List Ev) : SMap := l.foldl evStep []

theorem put_len (m : SMap) (k v : ByteArray) : (m.put k v).length ≤ m.length + 1 := by
  unfold SMap.put
  split <;> simp
theorem del_len (m : SMap) (k : ByteArray) : (m.del k).length ≤ m.length := List.length_filter_le _ _
theorem evStep_len (m : SMap) (e : Ev) : (evStep m e).length ≤ m.length + 1 := by
  unfold evStep
  split
  · split
    · exact put_len _ _ _
    · split
      · have := del_len m e.key; omega
      · omega
  · omega
theorem foldl_len (l : List Ev) : ∀ m : SMap, (l.foldl evStep m).length ≤ m.length + l.length := by
  induction l with
  | nil => intro m; simp
  | cons e l ih => intro m; have := ih (evStep m e); have := evStep_len m e; simp; omega
theorem foldM_len (l : List Ev) : (foldM l).length ≤ l.length := by have := foldl_len l []; simpa [foldM] using this

theorem take_succ_fold (l : List Ev) (k : Nat) (e : Ev) (h : l[k]? = some e) : foldM (l.take (k + 1)) = evStep (foldM (l.take k)) e := by
  unfold foldM
  rw [List.take_add_one, h]
  simp

/-- Fold's loop -/
def FoldRel (B : Nat) (l : List Ev) (w : World) (i : Value) (wr : World) : Prop :=
  ∃ k : Nat, k ≤ l.length ∧ i = .int .i64 k ∧ MapAt wr B (foldM (l.take k)) ∧ Mod NoB w wr

set_option maxHeartbeats 1000000 in
theorem fold_any (l : List Ev) (v : Value) (w : World) (h : EvsAt w v l) (hl : l.length ≤ 1000000) :
    Calls Try.prog 16 #[v] w fun e w' => ∃ r xs, e = .returned r ∧ xs.Perm (foldM l) ∧ SortedS xs ∧ ItemsAt w' r xs ∧ Mod NoB w w' := by
  obtain ⟨a, cap, rfl, hx⟩ := id h
  have hmk := @run_makeMap Try.prog
  go_enter Try.func16, Try.ntmps16
  go_wp2_with fail
  have hrel0 : FoldRel w.heap.size l w (.int .i64 0) (w.alloc (.map #[] 0)) := ⟨0, Nat.zero_le _, rfl, MapAt.made w, (Mod.refl _ _).alloc _⟩
  generalize hB : w.heap.size = B at *
  have HB := Lib.hid hB; clear hB hx
  have HE := Lib.hid h; clear h
  go_loopw [9] (fun i wr => FoldRel B l w i wr) (fun i _ => l.length - (intOf i).toNat)
  case atStart => exact hrel0
  case round =>
    clear hrel0
    obtain ⟨k, hk, rfl, hm, hmod⟩ := hrel
    by_cases hlt : k < l.length
    · have he : l[k]? = some l[k] := List.getElem?_eq_getElem hlt
      obtain ⟨b, o, cap', hv, hbl, c0, c1, c2, c3, c4, c5, c6, c7, c8, c9, c10, c11, c12, c13, c14⟩ := (HE.out.mod hmod).at15 he
      have HF := Lib.hid (take_succ_fold l k _ he); 
      generalize l[k] = e at *
      clear he
      simp only [Value.slice.injEq] at hv
      obtain ⟨rfl, _, rfl⟩ := hv
      go_wp2_with fail
      clear c0 c1 c2 c3 c4 c5 c6 c7 c8 c9 c10 c11 c12 c13 c14
      refine (take_any e B _ _ (hm.kept (Below.heap_alloc _ _ _ hm.lt))).mono ?_; rintro x w2 ⟨rfl, hm2, hmod2⟩
      have H2 := Lib.hid hm2; clear hm2
      have H3 := Lib.hid hmod2; clear hmod2
      go_wp2_with fail
      go_roundw
      case rel =>
        refine ⟨k + 1, by omega, by go_num, ?_, (hmod.alloc _).then H3.out (fun j hj e => by have := HB.out; omega)⟩
        rw [HF.out]
        exact H2.out
      case measure => simp [intOf]; omega
    · obtain rfl : k = l.length := by omega
      rw [List.take_length] at hm
      go_wp2_with fail
      refine (items_any _ _ _ hm (Nat.le_trans (foldM_len l) hl)).mono ?_; rintro e w' ⟨v, xs, rfl, hp, hs, hi, hmm⟩
      have H1 := Lib.hid hp; clear hp
      have H2 := Lib.hid hs; clear hs
      have H3 := Lib.hid hi; clear hi
      have H4 := Lib.hid hmm; clear hmm
      go_wp2_with fail
      go_ret
      exact ⟨_, xs, rfl, H1.out, H2.out, H3.out, hmod.trans H4.out⟩
end Go.Proofs.Ytcpbcggfbopobaa
