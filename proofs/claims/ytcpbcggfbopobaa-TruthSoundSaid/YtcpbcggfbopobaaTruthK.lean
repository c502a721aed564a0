/- Package truth: Held: the values that a key had. -/
import Derived.Test.YtcpbcggfbopobaaTruthJ
namespace Go.Proofs.Ytcpbcggfbopobaa
open Go.RowKit Go.Proofs

structure HState where
  m : SMap
  out : List ByteArray
  begun : Bool

def heldStep (k : ByteArray) (fr to : Int) (s : HState) (e : Ev) : HState :=
  if e.step ≤ fr then ⟨evStep s.m e, s.out, s.begun⟩
  else if e.step ≤ to then ⟨evStep s.m e, tellL (evStep s.m e) k (if s.begun then s.out else tellL s.m k s.out), true⟩
  else ⟨s.m, if s.begun then s.out else tellL s.m k s.out, true⟩
def heldS (k : ByteArray) (fr to : Int) (l : List Ev) : HState := l.foldl (heldStep k fr to) ⟨[], [], false⟩
def heldL (k : ByteArray) (fr to : Int) (l : List Ev) : List ByteArray :=
  if (heldS k fr to l).begun then (heldS k fr to l).out else tellL (heldS k fr to l).m k (heldS k fr to l).out

theorem tellL_len (m : SMap) (k : ByteArray) (out : List ByteArray) : (tellL m k out).length ≤ out.length + 1 := by
  unfold tellL
  split
  · omega
  · split <;> simp
theorem heldStep_len (k : ByteArray) (fr to : Int) (s : HState) (e : Ev) : (heldStep k fr to s e).out.length ≤ s.out.length + 2 := by
  have h1 := tellL_len s.m k s.out
  unfold heldStep
  split
  · simp
  · split
    · have := tellL_len (evStep s.m e) k (if s.begun then s.out else tellL s.m k s.out)
      show (tellL _ _ _).length ≤ _
      split at this <;> simp_all <;> omega
    · show (if s.begun then s.out else tellL s.m k s.out).length ≤ _
      split <;> omega
theorem heldS_len (k : ByteArray) (fr to : Int) (l : List Ev) : (heldS k fr to l).out.length ≤ 2 * l.length := by
  have : ∀ (l : List Ev) (s : HState), (l.foldl (heldStep k fr to) s).out.length ≤ s.out.length + 2 * l.length := by
    intro l
    induction l with
    | nil => intro s; simp
    | cons e l ih =>
      intro s
      have h1 := ih (heldStep k fr to s e)
      have h2 := heldStep_len k fr to s e
      simp only [List.foldl_cons, List.length_cons]
      omega
  have := this l ⟨[], [], false⟩
  simpa [heldS] using this

theorem heldS_succ (k : ByteArray) (fr to : Int) (l : List Ev) (i : Nat) (e : Ev) (h : l[i]? = some e) : heldS k fr to (l.take (i + 1)) = heldStep k fr to (heldS k fr to (l.take i)) e := by
  unfold heldS
  rw [List.take_add_one, h]
  simp

theorem HeldAt.alloc {w : World} {sB kB oB mb : Nat} {k : ByteArray} {m : SMap} {out : List ByteArray} (h : HeldAt w sB kB oB mb k m out) (o : Obj) : HeldAt (w.alloc o) sB kB oB mb k m out := by
  obtain ⟨h1, h2, h3, ⟨v, h4, h5⟩, h6, h7⟩ := h
  have hlt := h6
  refine ⟨?_, ?_, ?_, ⟨v, ?_, h5.alloc _⟩, h6, ?_⟩
  · rw [Below.heap_alloc _ _ _ (by omega)]; exact h1
  · rw [Below.heap_alloc _ _ _ (by omega)]; exact h2
  · exact h3.kept (Below.heap_alloc _ _ _ (by omega))
  · rw [Below.heap_alloc _ _ _ (by omega)]; exact h4
  · simp; omega

theorem HeldAt.took {w w' : World} {sB kB oB mb : Nat} {k : ByteArray} {m m' : SMap} {out : List ByteArray} (h : HeldAt w sB kB oB mb k m out) (hm : MapAt w' mb m') (hmod : Mod (· = mb) w w') (hs : sB ≠ mb) (hk : kB ≠ mb) :
    HeldAt w' sB kB oB mb k m' out := by
  obtain ⟨h1, h2, h3, ⟨v, h4, h5⟩, h6, h7⟩ := h
  have hlt := h6
  refine ⟨?_, ?_, hm, ⟨v, ?_, h5.kept (row := some mb) ⟨hmod.os, hmod.tape, hmod.output, hmod.size, fun j hj hn => hmod.block j hj (fun e => hn (by rw [e]))⟩ ?_⟩, h6, ?_⟩
  · rw [hmod.block _ (by omega) hs]; exact h1
  · rw [hmod.block _ (by omega) hk]; exact h2
  · rw [hmod.block _ (by omega) (by omega)]; exact h4
  · cases hv : v.ownBlock with
    | none => exact .inl rfl
    | some j => exact .inr (fun e => by have := (h5.lt j hv).1; simp at e; omega)
  · have := hmod.size; omega

theorem texts_of_owns {w : World} {base : Nat} {e : TypeId} {v : Value} {out : List ByteArray} (h : w.ownsRow base e 1 v out.length (out.map Value.string)) : TextsAt w v out := by
  obtain ⟨a, cap, rfl⟩ := owns_slice h
  refine ⟨a, cap, rfl, fun i x hi => ?_⟩
  have hil : i < out.length := (List.getElem?_eq_some_iff.1 hi).1
  obtain ⟨_, ⟨_, h0⟩ | ⟨g, cap', cur, hv, _⟩⟩ := id h
  · omega
  · simp only [Value.slice.injEq] at hv
    obtain ⟨rfl, _, rfl⟩ := hv
    refine ⟨g, 0, rfl, fun j u hu => ?_⟩
    match j, hu with
    | 0, hu =>
      simp at hu; subst hu
      have := h.cellAt i (by omega)
      simp only [Nat.zero_add, Nat.mul_one, Nat.add_zero]
      rw [this, List.getElem?_map, hi]; rfl
    | j + 1, hu => simp at hu

theorem Mod.held {w w1 w2 : World} {oB : Nat} {R : Option Nat} (h : Mod NoB w w1) (h2 : Mod (fun b => b = oB ∨ R = some b) w1 w2) (ho : w.heap.size ≤ oB) (hR : ∀ g, R = some g → oB < g) : Mod NoB w w2 :=
  h.then h2 (fun j hj e => by
    rcases e with e | e
    · omega
    · have := hR j e; omega)

/-- an event's cells in a block of its own, behind what turns another one -/
theorem ev_kept {w w' : World} {e : Ev} {b : Nat} {T : TypeId} {S : Nat → Prop} (hb : w.heap[b]? = some (.cells e.cells.toArray T (0, 0))) (h : Mod S w w') (hn : ¬ S b) : w'.heap[b]? = some (.cells e.cells.toArray T (0, 0)) := by
  rw [h.block b (Array.getElem?_eq_some_iff.1 hb).1 hn]; exact hb
theorem ev_cell {w : World} {e : Ev} {b : Nat} {T : TypeId} (hb : w.heap[b]? = some (.cells e.cells.toArray T (0, 0))) (j : Nat) (u : Value) (hu : e.cells[j]? = some u) : w.cell? ⟨b, j, none⟩ = some u := by
  simp only [World.cell?, hb]
  simpa using hu

/-- Held's loop -/
def HeldRel (sB kB oB mb : Nat) (k : ByteArray) (fr to : Int) (l : List Ev) (w : World) (b i : Value) (wr : World) : Prop :=
  ∃ j : Nat, j ≤ l.length ∧ i = .int .i64 j ∧ b = .bool (heldS k fr to (l.take j)).begun ∧ HeldAt wr sB kB oB mb k (heldS k fr to (l.take j)).m (heldS k fr to (l.take j)).out ∧ Mod NoB w wr

set_option maxHeartbeats 2000000 in
theorem held_any (k : ByteArray) (fr to : Int) (l : List Ev) (v : Value) (w : World) (h : EvsAt w v l) (hl : l.length ≤ 400000) :
    Calls Try.prog 19 #[.string k, .int .i64 fr, .int .i64 to, v] w fun e w' => ∃ r, e = .returned r ∧ TextsAt w' r (heldL k fr to l) ∧ Mod NoB w w' := by
  obtain ⟨a, cap, rfl, hx⟩ := id h
  have HE := Lib.hid h; clear h
  clear hx
  have hmk := @run_makeMap Try.prog
  go_enter Try.func19, Try.ntmps19
  go_wp2_with fail
  go_step3
  go_wp2_with fail
  go_step3
  go_wp2_with fail
  have hrel0 : HeldRel (w.heap.size + 1 + 1) w.heap.size (w.heap.size + 1 + 1 + 1) (w.heap.size + 1) k fr to l w (.bool false) (.int .i64 0)
      ((((w.alloc (.cells #[.string k] 9)).alloc (.map #[] 0)).alloc (.cells #[.map (some (w.heap.size + 1))] 61)).alloc (.cells #[.slice none 0 0] 55)) := by
    refine ⟨0, Nat.zero_le _, rfl, rfl, ⟨?_, ?_, ?_, ⟨.slice none 0 0, ?_, World.ownsRow_nil _ _ _ _⟩, by omega, by simp⟩, ((((Mod.refl _ _).alloc _).alloc _).alloc _).alloc _⟩
    · rw [Below.heap_alloc _ _ _ (by simp)]
      have := (MapKept.heap_alloc ((w.alloc (.cells #[.string k] 9)).alloc (.map #[] 0)) (.cells #[.map (some (w.heap.size + 1))] 61)).1
      simpa using this
    · rw [Below.heap_alloc _ _ _ (by simp; omega), Below.heap_alloc _ _ _ (by simp; omega), Below.heap_alloc _ _ _ (by simp)]
      exact (MapKept.heap_alloc w _).1
    · have h1 := MapAt.made (w.alloc (.cells #[.string k] 9))
      have h2 : MapAt ((w.alloc (.cells #[.string k] 9)).alloc (.map #[] 0)) (w.heap.size + 1) [] := by simpa using h1
      exact (h2.kept (Below.heap_alloc _ _ _ h2.lt)).kept (Below.heap_alloc _ _ _ (by simp))
    · have := (MapKept.heap_alloc (((w.alloc (.cells #[.string k] 9)).alloc (.map #[] 0)).alloc (.cells #[.map (some (w.heap.size + 1))] 61)) (.cells #[.slice none 0 0] 55)).1
      simpa using this
  generalize h3 : w.heap.size + 1 + 1 + 1 = oB at *
  generalize h2 : w.heap.size + 1 + 1 = sB at *
  generalize h1 : w.heap.size + 1 = mb at *
  generalize h0 : w.heap.size = kB at *
  have HN : Hid (sB ≠ mb ∧ kB ≠ mb ∧ kB < oB ∧ kB < mb ∧ kB < sB) := ⟨by omega, by omega, by omega, by omega, by omega⟩
  have HB := Lib.hid h0
  clear h0 h1 h2 h3
  go_loopw [12, 19] (fun b i wr => HeldRel sB kB oB mb k fr to l w b i wr) (fun _ i _ => l.length - (intOf i).toNat)
  case atStart => exact hrel0
  case round =>
    clear hrel0
    obtain ⟨j, hj, rfl, rfl, hH, hmod⟩ := hrel
    have hlen : (heldS k fr to (l.take j)).out.length ≤ 999998 := by
      have := heldS_len k fr to (l.take j)
      have : (l.take j).length ≤ l.length := by simp; omega
      omega
    by_cases hlt : j < l.length
    · have he : l[j]? = some l[j] := List.getElem?_eq_getElem hlt
      obtain ⟨b, o, cap', hv, hbl, c0, c1, c2, c3, c4, c5, c6, c7, c8, c9, c10, c11, c12, c13, c14⟩ := (HE.out.mod hmod).at15 he
      have HF := Lib.hid (heldS_succ k fr to l j _ he)
      generalize l[j] = e at *
      clear he
      simp only [Value.slice.injEq] at hv
      obtain ⟨rfl, _, rfl⟩ := hv
      generalize heldS k fr to (l.take j) = s at *
      obtain ⟨m, out, begun⟩ := s
      have hW : (wr.alloc (.cells #[.int .i64 e.step, .int .i64 e.node, .int .i64 e.guest, .int .i64 e.id, .int .i64 e.op, .string e.key, .string e.value, .string e.to, .int .i64 e.most, .int .i64 e.errno, .string e.tvalue, .slice e.ia e.il e.ic, .bool e.more, .string e.next, .int .i64 e.tnode] 44)).heap[wr.heap.size]? = some (.cells e.cells.toArray 44 (0, 0)) := (MapKept.heap_alloc wr _).1
      have hH1 := hH.alloc (.cells #[.int .i64 e.step, .int .i64 e.node, .int .i64 e.guest, .int .i64 e.id, .int .i64 e.op, .string e.key, .string e.value, .string e.to, .int .i64 e.most, .int .i64 e.errno, .string e.tvalue, .slice e.ia e.il e.ic, .bool e.more, .string e.next, .int .i64 e.tnode] 44)
      have hmod1 : Mod NoB w (wr.alloc (.cells #[.int .i64 e.step, .int .i64 e.node, .int .i64 e.guest, .int .i64 e.id, .int .i64 e.op, .string e.key, .string e.value, .string e.to, .int .i64 e.most, .int .i64 e.errno, .string e.tvalue, .slice e.ia e.il e.ic, .bool e.more, .string e.next, .int .i64 e.tnode] 44)) := hmod.alloc _
      have hrow := fun g (hg : rowOf (wr.alloc (.cells #[.int .i64 e.step, .int .i64 e.node, .int .i64 e.guest, .int .i64 e.id, .int .i64 e.op, .string e.key, .string e.value, .string e.to, .int .i64 e.most, .int .i64 e.errno, .string e.tvalue, .slice e.ia e.il e.ic, .bool e.more, .string e.next, .int .i64 e.tnode] 44)) oB = some g) => hH1.row hg
      have hoB : wr.heap.size ≠ oB := by have := hH.base; omega
      have hrw : rowOf (wr.alloc (.cells #[.int .i64 e.step, .int .i64 e.node, .int .i64 e.guest, .int .i64 e.id, .int .i64 e.op, .string e.key, .string e.value, .string e.to, .int .i64 e.most, .int .i64 e.errno, .string e.tvalue, .slice e.ia e.il e.ic, .bool e.more, .string e.next, .int .i64 e.tnode] 44)) oB ≠ some wr.heap.size := fun hg => by
        have : rowOf wr oB = some wr.heap.size := by
          unfold rowOf at hg ⊢
          rw [World.cell?_of_block (w := wr) (a := ⟨oB, 0, none⟩) (Below.heap_alloc wr _ oB (by have := hH.base; omega))] at hg
          exact hg
        have := (hH.row this).2
        omega
      have HH := Lib.hid hH; clear hH
      have HM := Lib.hid hmod; clear hmod
      have HW := Lib.hid hW; clear hW
      have H1 := Lib.hid hH1; clear hH1
      have M1 := Lib.hid hmod1; clear hmod1
      have HR := Lib.hid hrow; clear hrow
      have HO := Lib.hid hoB; clear hoB
      have HQ := Lib.hid hrw; clear hrw
      have s1 := cell_one H1.out.s
      by_cases hs : e.step ≤ fr
      · -- it is ahead of the time that is asked for
        have HS : Hid (heldStep k fr to ⟨m, out, begun⟩ e = ⟨evStep m e, out, begun⟩) := by unfold Hid heldStep; rw [if_pos hs]
        go_wp2_with fail
        clear c0 c1 c2 c3 c4 c5 c6 c7 c8 c9 c10 c11 c12 c13 c14
        refine (take_any e mb _ _ H1.out.m).mono ?_; rintro x w2 ⟨rfl, hm2, hmod2⟩
        have HR2 : Hid (HeldRel sB kB oB mb k fr to l w (.bool begun) (.int .i64 (j + 1 : Nat)) w2) := by
          refine ⟨j + 1, by omega, rfl, ?_, ?_, M1.out.then hmod2 (fun i hi e => by have := HB.out; have := HN.out; omega)⟩
          · rw [HF.out, HS.out]
          · rw [HF.out, HS.out]; exact H1.out.took hm2 hmod2 HN.out.1 HN.out.2.1
        clear hm2 hmod2
        go_wp2_with fail
        exact ⟨by have := HR2.out; simpa using this, by simp [intOf]; omega⟩
      · have hsn := Lib.hid hs
        cases begun with
        | true =>
          by_cases ht : e.step ≤ to
          · have HS : Hid (heldStep k fr to ⟨m, out, true⟩ e = ⟨evStep m e, tellL (evStep m e) k out, true⟩) := by unfold Hid heldStep; rw [if_neg (by have := hsn.out; omega), if_pos ht]; rfl
            go_wp2_with fail
            clear c0 c1 c2 c3 c4 c5 c6 c7 c8 c9 c10 c11 c12 c13 c14
            refine (take_any e mb _ _ H1.out.m).mono ?_; rintro x w2 ⟨rfl, hm2, hmod2⟩
            have H2 := Lib.hid (H1.out.took hm2 hmod2 HN.out.1 HN.out.2.1)
            have M2 := Lib.hid (M1.out.then hmod2 (fun i hi e => by have := HB.out; have := HN.out; omega) : Mod NoB w w2)
            clear hm2 hmod2
            go_wp2_with fail
            refine (tell_any sB kB oB mb k _ _ _ H2.out (by omega)).mono ?_; rintro x w3 ⟨rfl, hp⟩
            have HR2 : Hid (HeldRel sB kB oB mb k fr to l w (.bool true) (.int .i64 (j + 1 : Nat)) w3) := by
              refine ⟨j + 1, by omega, rfl, ?_, ?_, M2.out.held hp.2 (by have := HB.out; have := HN.out; omega) (fun g hg => (H2.out.row hg).1)⟩
              · rw [HF.out, HS.out]
              · rw [HF.out, HS.out]; exact hp.1
            clear hp
            go_wp2_with fail
            exact ⟨by have := HR2.out; simpa using this, by simp [intOf]; omega⟩
          · have HS : Hid (heldStep k fr to ⟨m, out, true⟩ e = ⟨m, out, true⟩) := by unfold Hid heldStep; rw [if_neg (by have := hsn.out; omega), if_neg ht]; rfl
            have HR2 : Hid (HeldRel sB kB oB mb k fr to l w (.bool true) (.int .i64 (j + 1 : Nat)) (wr.alloc (.cells #[.int .i64 e.step, .int .i64 e.node, .int .i64 e.guest, .int .i64 e.id, .int .i64 e.op, .string e.key, .string e.value, .string e.to, .int .i64 e.most, .int .i64 e.errno, .string e.tvalue, .slice e.ia e.il e.ic, .bool e.more, .string e.next, .int .i64 e.tnode] 44))) := by
              refine ⟨j + 1, by omega, rfl, ?_, ?_, M1.out⟩
              · rw [HF.out, HS.out]
              · rw [HF.out, HS.out]; exact H1.out
            go_wp2_with fail
            exact ⟨by have := HR2.out; simpa using this, by simp [intOf]; omega⟩
        | false =>
          go_wp2_with fail
          clear c0 c1 c2 c3 c4 c5 c6 c7 c8 c9 c10 c11 c12 c13 c14
          refine (tell_any sB kB oB mb k _ _ _ H1.out (by omega)).mono ?_; rintro x w2 ⟨rfl, hp⟩
          have hW2 : w2.heap[wr.heap.size]? = some (.cells e.cells.toArray 44 (0, 0)) := ev_kept HW.out hp.2 (fun x => by
            rcases x with x | x
            · exact HO.out x
            · exact HQ.out x)
          have d0 := ev_cell hW2 0 _ rfl
          have d1 := ev_cell hW2 1 _ rfl
          have d2 := ev_cell hW2 2 _ rfl
          have d3 := ev_cell hW2 3 _ rfl
          have d4 := ev_cell hW2 4 _ rfl
          have d5 := ev_cell hW2 5 _ rfl
          have d6 := ev_cell hW2 6 _ rfl
          have d7 := ev_cell hW2 7 _ rfl
          have d8 := ev_cell hW2 8 _ rfl
          have d9 := ev_cell hW2 9 _ rfl
          have d10 := ev_cell hW2 10 _ rfl
          have d11 := ev_cell hW2 11 _ rfl
          have d12 := ev_cell hW2 12 _ rfl
          have d13 := ev_cell hW2 13 _ rfl
          have d14 := ev_cell hW2 14 _ rfl
          have H2 := Lib.hid hp.1
          have M2 := Lib.hid (M1.out.held hp.2 (by have := HB.out; have := HN.out; omega) (fun g hg => (H1.out.row hg).1))
          have s2 := cell_one H2.out.s
          have htl : (tellL m k out).length ≤ 999999 := by have := tellL_len m k out; have : out.length ≤ 999998 := hlen; omega
          clear hp hW2
          by_cases ht : e.step ≤ to
          · have HS : Hid (heldStep k fr to ⟨m, out, false⟩ e = ⟨evStep m e, tellL (evStep m e) k (tellL m k out), true⟩) := by unfold Hid heldStep; rw [if_neg (by have := hsn.out; omega), if_pos ht]; rfl
            go_wp2_with fail
            clear d0 d1 d2 d3 d4 d5 d6 d7 d8 d9 d10 d11 d12 d13 d14
            refine (take_any e mb _ _ H2.out.m).mono ?_; rintro x w3 ⟨rfl, hm2, hmod2⟩
            have H3 := Lib.hid (H2.out.took hm2 hmod2 HN.out.1 HN.out.2.1)
            have M3 := Lib.hid (M2.out.then hmod2 (fun i hi e => by have := HB.out; have := HN.out; omega) : Mod NoB w w3)
            clear hm2 hmod2
            go_wp2_with fail
            refine (tell_any sB kB oB mb k _ _ _ H3.out (by omega)).mono ?_; rintro x w4 ⟨rfl, hp⟩
            have HR2 : Hid (HeldRel sB kB oB mb k fr to l w (.bool true) (.int .i64 (j + 1 : Nat)) w4) := by
              refine ⟨j + 1, by omega, rfl, ?_, ?_, M3.out.held hp.2 (by have := HB.out; have := HN.out; omega) (fun g hg => (H3.out.row hg).1)⟩
              · rw [HF.out, HS.out]
              · rw [HF.out, HS.out]; exact hp.1
            clear hp
            go_wp2_with fail
            exact ⟨by have := HR2.out; simpa using this, by simp [intOf]; omega⟩
          · have HS : Hid (heldStep k fr to ⟨m, out, false⟩ e = ⟨m, tellL m k out, true⟩) := by unfold Hid heldStep; rw [if_neg (by have := hsn.out; omega), if_neg ht]; rfl
            have HR2 : Hid (HeldRel sB kB oB mb k fr to l w (.bool true) (.int .i64 (j + 1 : Nat)) w2) := by
              refine ⟨j + 1, by omega, rfl, ?_, ?_, M2.out⟩
              · rw [HF.out, HS.out]
              · rw [HF.out, HS.out]; exact H2.out
            go_wp2_with fail
            exact ⟨by have := HR2.out; simpa using this, by simp [intOf]; omega⟩
    · obtain rfl : j = l.length := by omega
      rw [List.take_length] at *
      have HL : Hid (heldL k fr to l = if (heldS k fr to l).begun then (heldS k fr to l).out else tellL (heldS k fr to l).m k (heldS k fr to l).out) := rfl
      generalize heldS k fr to l = s at *
      obtain ⟨m, out, begun⟩ := s
      have HM := Lib.hid hmod; clear hmod
      cases begun with
      | true =>
        have HL2 : Hid (heldL k fr to l = out) := HL.out
        obtain ⟨v, hv, hown⟩ := hH.o
        have HT := Lib.hid (texts_of_owns hown); clear hown
        have hoc := cell_one hv
        clear hv hH HL
        go_wp2_with fail
        first | rw [Exit.noGoto_ret] | skip
        go_ret
        rw [HL2.out]
        exact ⟨_, rfl, HT.out, HM.out⟩
      | false =>
        have HL2 : Hid (heldL k fr to l = tellL m k out) := HL.out
        have H1 := Lib.hid hH; clear hH HL
        go_wp2_with fail
        refine (tell_any sB kB oB mb k _ _ _ H1.out (by have : out.length ≤ 999998 := hlen; omega)).mono ?_; rintro x w2 ⟨rfl, hp⟩
        obtain ⟨v, hv, hown⟩ := hp.1.o
        have HT := Lib.hid (texts_of_owns hown); clear hown
        have hoc := cell_one hv
        have M2 := Lib.hid (HM.out.held hp.2 (by have := HB.out; have := HN.out; omega) (fun g hg => (H1.out.row hg).1))
        clear hv hp
        go_wp2_with fail
        first | rw [Exit.noGoto_ret] | skip
        go_ret
        rw [HL2.out]
        exact ⟨_, rfl, HT.out, M2.out⟩
end Go.Proofs.Ytcpbcggfbopobaa
