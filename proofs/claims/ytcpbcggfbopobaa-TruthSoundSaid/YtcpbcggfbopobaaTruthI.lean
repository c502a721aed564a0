/- Package truth: Sound: the first event that is not what those ahead of it say. -/
import Derived.Test.YtcpbcggfbopobaaTruthH
namespace Go.Proofs.Ytcpbcggfbopobaa
open Go.RowKit Go.Proofs

/-- how many events, from the first on, are sound -/
def soundN : SMap → List Ev → Nat
  | _, [] => 0
  | m, e :: l => if soundE m e then soundN (evStep m e) l + 1 else 0

theorem soundN_at (l : List Ev) : ∀ (m : SMap) (k : Nat) (e : Ev), l[k]? = some e → soundN m l = k + soundN ((l.take k).foldl evStep m) (l.drop k) →
    (soundE ((l.take k).foldl evStep m) e = true → soundN m l = (k + 1) + soundN ((l.take (k + 1)).foldl evStep m) (l.drop (k + 1))) ∧
    (soundE ((l.take k).foldl evStep m) e = false → soundN m l = k) := by
  intro m k e he h
  have hk : k < l.length := (List.getElem?_eq_some_iff.1 he).1
  have hd : l.drop k = e :: l.drop (k + 1) := by
    rw [List.drop_eq_getElem_cons hk]
    congr 1
    exact (List.getElem?_eq_some_iff.1 he).2
  rw [hd] at h
  refine ⟨fun hs => ?_, fun hs => ?_⟩
  · rw [h]
    simp only [soundN, hs, if_true]
    rw [List.take_add_one, he]
    simp only [Option.toList_some, List.foldl_append, List.foldl_cons, List.foldl_nil]
    omega
  · rw [h]
    simp [soundN, hs]

theorem int_eq_dec (k n : Nat) : ((k : Int) == (n : Int)) = decide (k = n) := by
  rw [Bool.eq_iff_iff]
  simp
  omega

/-- Sound's loop -/
def SoundRel (B : Nat) (l : List Ev) (w : World) (i : Value) (wr : World) : Prop :=
  ∃ k : Nat, k ≤ l.length ∧ i = .int .i64 k ∧ MapAt wr B (foldM (l.take k)) ∧ Mod NoB w wr ∧ soundN [] l = k + soundN (foldM (l.take k)) (l.drop k)

set_option maxHeartbeats 1000000 in
theorem sounds_any (l : List Ev) (v : Value) (w : World) (h : EvsAt w v l) (hl : l.length ≤ 1000000) (hscan : ∀ e ∈ l, ¬ e.op = 4) :
    Calls Try.prog 17 #[v] w fun e w' => e = .returned (.tuple #[.int .i64 (soundN [] l), .bool (decide (soundN [] l = l.length))]) ∧ Mod NoB w w' := by
  obtain ⟨a, cap, rfl, hx⟩ := id h
  have hmk := @run_makeMap Try.prog
  go_enter Try.func17, Try.ntmps17
  go_wp2_with fail
  go_step3
  go_wp2_with fail
  go_step3
  go_wp2_with fail
  have hrel0 : SoundRel w.heap.size l w (.int .i64 0) (w.alloc (.map #[] 0)) := ⟨0, Nat.zero_le _, rfl, MapAt.made w, (Mod.refl _ _).alloc _, by simp [foldM]⟩
  generalize hB : w.heap.size = B at *
  have HB := Lib.hid hB; clear hB hx
  have HE := Lib.hid h; clear h
  have HS := Lib.hid hscan; clear hscan
  go_loopw [5] (fun i wr => SoundRel B l w i wr) (fun i _ => l.length - (intOf i).toNat)
  case atStart => exact hrel0
  case round =>
    clear hrel0
    obtain ⟨k, hk, rfl, hm, hmod, hsn⟩ := hrel
    have HN := Lib.hid hsn; clear hsn
    by_cases hlt : k < l.length
    · have he : l[k]? = some l[k] := List.getElem?_eq_getElem hlt
      obtain ⟨b, o, cap', hv, hbl, c0, c1, c2, c3, c4, c5, c6, c7, c8, c9, c10, c11, c12, c13, c14⟩ := (HE.out.mod hmod).at15 he
      have HF := Lib.hid (take_succ_fold l k _ he)
      have HA := Lib.hid (soundN_at l [] k _ he HN.out)
      have H4 := Lib.hid (HS.out l[k] (List.getElem_mem hlt))
      generalize l[k] = e at *
      clear he
      simp only [Value.slice.injEq] at hv
      obtain ⟨rfl, _, rfl⟩ := hv
      go_wp2_with fail
      refine (sound_any e B _ _ hm H4.out).mono ?_; rintro x w2 ⟨rfl, hmod2⟩
      replace c0 := hmod2.cellS c0
      replace c1 := hmod2.cellS c1
      replace c2 := hmod2.cellS c2
      replace c3 := hmod2.cellS c3
      replace c4 := hmod2.cellS c4
      replace c5 := hmod2.cellS c5
      replace c6 := hmod2.cellS c6
      replace c7 := hmod2.cellS c7
      replace c8 := hmod2.cellS c8
      replace c9 := hmod2.cellS c9
      replace c10 := hmod2.cellS c10
      replace c11 := hmod2.cellS c11
      replace c12 := hmod2.cellS c12
      replace c13 := hmod2.cellS c13
      replace c14 := hmod2.cellS c14
      have hm2 := hm.mod hmod2 (fun x => x)
      have hmm := hmod.trans hmod2
      clear hmod2 hm hmod
      cases hsE : soundE (foldM (l.take k)) e with
      | false =>
        have hfin := HA.out.2 hsE
        have HFin := Lib.hid hfin; clear hfin hsE
        go_wp2_with fail
        rw [Exit.noGoto_ret]
        go_ret2
        rw [HFin.out]
        refine ⟨?_, hmm⟩
        show Ending.returned (.tuple #[.int .i64 k, .bool ((k : Int) == (l.length : Int))]) = _
        rw [int_eq_dec]
      | true =>
        have HT := Lib.hid (HA.out.1 hsE); clear hsE
        go_wp2_with fail
        refine (take_any e B _ _ hm2).mono ?_; rintro x w3 ⟨rfl, hm3, hmod3⟩
        have H2 := Lib.hid hm3; clear hm3
        have H3 := Lib.hid hmod3; clear hmod3
        go_wp2_with fail
        go_roundw
        case rel =>
          refine ⟨k + 1, by omega, by go_num, ?_, hmm.then H3.out (fun j hj e => by have := HB.out; omega), ?_⟩
          · rw [HF.out]; exact H2.out
          · rw [HT.out]
            rfl
        case measure => simp [intOf]; omega
    · obtain rfl : k = l.length := by omega
      have hfin : soundN [] l = l.length := by have := HN.out; simpa [soundN] using this
      have HFin := Lib.hid hfin; clear hfin
      go_wp2_with fail
      rw [Exit.noGoto_ret]
      go_ret2
      rw [HFin.out]
      exact ⟨by simp, hmod⟩
end Go.Proofs.Ytcpbcggfbopobaa
