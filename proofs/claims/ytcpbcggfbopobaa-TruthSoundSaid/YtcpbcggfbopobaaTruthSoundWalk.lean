/- TruthSound: what was made of a plain history is sound; with one answer turned it is not, from there on; for every input; no condition. -/
import Derived.Test.YtcpbcggfbopobaaRows
import Derived.Test.YtcpbcggfbopobaaTruthOrder
import Derived.Test.YtcpbcggfbopobaaTruthSound
namespace Go.Proofs.Ytcpbcggfbopobaa
open Go.ChangeShapes Go.WideShapes Go.ChangeAt Go.RowKit Go.Proofs

theorem SlAt.at5 {w : World} {v : Value} {l : List Ak} (h : AsksAt w v l) {i : Nat} {x : Ak} (hi : l[i]? = some x) :
    ∃ b o cap, v = .slice (some ⟨b, o, none⟩) l.length cap ∧ b < w.heap.size ∧ w.cell? ⟨b, o + i * 5, none⟩ = some (.int .i64 x.op) ∧ w.cell? ⟨b, o + i * 5 + 1, none⟩ = some (.string x.key) ∧
      w.cell? ⟨b, o + i * 5 + 2, none⟩ = some (.string x.value) ∧ w.cell? ⟨b, o + i * 5 + 3, none⟩ = some (.string x.to) ∧ w.cell? ⟨b, o + i * 5 + 4, none⟩ = some (.int .i64 x.most) := by
  obtain ⟨a, cap, hv, hx⟩ := h
  obtain ⟨b, o, rfl, hj⟩ := hx i x hi
  have h0 := hj 0 _ rfl
  exact ⟨b, o, cap, hv, cell_lt' h0, h0, hj 1 _ rfl, hj 2 _ rfl, hj 3 _ rfl, hj 4 _ rfl⟩

/-- the loop over the asks -/
def AsksRel (B n : Nat) (w : World) (v i : Value) (wr : World) : Prop :=
  ∃ (j : Nat) (had : SMap) (acc : List Ev), j ≤ n ∧ i = .int .i64 j ∧ acc.length ≤ j ∧ Made had acc ∧ MapAt wr B had ∧ wr.ownsRow (B + 1) 44 15 v acc.length (acc.flatMap Ev.cells) ∧ Mod NoB w wr ∧ B + 1 ≤ wr.heap.size

theorem tyHad : Try.prog.underlying 49 = some (.map 9 9) := by kernel_rfl

theorem own_mod {S : Nat → Prop} {w w' : World} {base : Nat} {e : TypeId} {size : Nat} {v : Value} {n : Nat} {xs : List Value} (h : w.ownsRow base e size v n xs) (hm : Mod S w w') (hs : ∀ k, S k → k < base) : w'.ownsRow base e size v n xs := by
  obtain ⟨h1, h2⟩ := h
  refine ⟨h1, ?_⟩
  rcases h2 with h2 | ⟨g, cap, cur, hv, hg, hgc, hr⟩
  · exact .inl h2
  · refine .inr ⟨g, cap, cur, hv, hg, ?_, hr⟩
    rw [hm.block g (Array.getElem?_eq_some_iff.1 hgc).1 (fun h => by have := hs g h; omega)]
    exact hgc

theorem alloc_cells (W : World) (cs : List Value) (E : TypeId) (q : Nat) (u : Value) (h : cs[q]? = some u) : (W.alloc (.cells cs.toArray E)).cell? ((⟨W.heap.size, 0, none⟩ : Addr).add q) = some u := by
  rw [add_none]
  have := (MapKept.heap_alloc W (.cells cs.toArray E)).1
  simp only [World.cell?, this, Nat.zero_add]
  simpa using h

theorem ev_cells15 {w : World} {e : Ev} {b : Nat} {T : TypeId} (h : w.heap[b]? = some (.cells e.cells.toArray T (0, 0))) :
    w.cell? ⟨b, 0, none⟩ = some (.int .i64 e.step) ∧ w.cell? ⟨b, 1, none⟩ = some (.int .i64 e.node) ∧ w.cell? ⟨b, 2, none⟩ = some (.int .i64 e.guest) ∧
      w.cell? ⟨b, 3, none⟩ = some (.int .i64 e.id) ∧ w.cell? ⟨b, 4, none⟩ = some (.int .i64 e.op) ∧ w.cell? ⟨b, 5, none⟩ = some (.string e.key) ∧
      w.cell? ⟨b, 6, none⟩ = some (.string e.value) ∧ w.cell? ⟨b, 7, none⟩ = some (.string e.to) ∧ w.cell? ⟨b, 8, none⟩ = some (.int .i64 e.most) ∧
      w.cell? ⟨b, 9, none⟩ = some (.int .i64 e.errno) ∧ w.cell? ⟨b, 10, none⟩ = some (.string e.tvalue) ∧ w.cell? ⟨b, 11, none⟩ = some (.slice e.ia e.il e.ic) ∧
      w.cell? ⟨b, 12, none⟩ = some (.bool e.more) ∧ w.cell? ⟨b, 13, none⟩ = some (.string e.next) ∧ w.cell? ⟨b, 14, none⟩ = some (.int .i64 e.tnode) := by
  have c := ev_cell h
  exact ⟨c 0 _ rfl, c 1 _ rfl, c 2 _ rfl, c 3 _ rfl, c 4 _ rfl, c 5 _ rfl, c 6 _ rfl, c 7 _ rfl, c 8 _ rfl, c 9 _ rfl, c 10 _ rfl, c 11 _ rfl, c 12 _ rfl, c 13 _ rfl, c 14 _ rfl⟩

theorem heap_alloc2 (w : World) (o1 o2 : Obj) : ((w.alloc o1).alloc o2).heap[w.heap.size + 1]? = some o2 := by
  have h := (MapKept.heap_alloc (w.alloc o1) o2).1
  rw [show (w.alloc o1).heap.size = w.heap.size + 1 from by simp] at h
  exact h

/-- one more event -/
theorem asksRel_next {B n j : Nat} {w wr W w' : World} {S : Nat → Prop} {had' : SMap} {acc : List Ev} {e : Ev} {v v' : Value} (hj : j < n) (hacc : acc.length ≤ j) (hmade : Made had' (acc ++ [e]))
    (hown : w'.ownsRow (B + 1) 44 15 v' (acc.length + 1) (acc.flatMap Ev.cells ++ e.cells)) (hold : wr.ownsRow (B + 1) 44 15 v acc.length (acc.flatMap Ev.cells)) (hB : w.heap.size ≤ B)
    (hmap : MapAt W B had') (hmod : Mod NoB w wr) (hm : Mod S wr W) (hS : ∀ k, S k → B ≤ k) (hg : W.grownBy w' v.ownBlock) (hb : B + 1 ≤ wr.heap.size) :
    AsksRel B n w v' (.int .i64 ((j : Int) + 1)) w' := by
  have hrow : ∀ k, v.ownBlock = some k → B + 1 ≤ k := fun k hk => (hold.lt k hk).1
  have hWB : B < W.heap.size := by have := hm.size; omega
  refine ⟨j + 1, had', acc ++ [e], by omega, by simp, by simp; omega, hmade, ?_, ?_, ?_, ?_⟩
  · exact hmap.kept (hg.block B hWB (fun h => by have := hrow B h.symm; omega))
  · simpa using hown
  · have h1 : Mod NoB w W := hmod.then hm (fun k hk h => by have := hS k h; omega)
    exact ⟨hg.os.trans h1.os, hg.tape.trans h1.tape, hg.output.trans h1.output, Nat.le_trans h1.size hg.size, fun k hk hn => by
      rw [hg.block k (Nat.lt_of_lt_of_le hk h1.size) (fun h => by have := hrow k h.symm; omega)]
      exact h1.block k hk hn⟩
  · have := hg.size; have := hm.size; omega

/-- one cell of one event is turned -/
theorem set_at {W : World} {g cap : Nat} {l : List Ev} (h : EvsAt W (.slice (some ⟨g, 0, none⟩) l.length cap) l) {q p : Nat} {e e' : Ev} (he : l[q]? = some e) (hp : p < 15) (u : Value) (hu : e'.cells = e.cells.set p u) :
    EvsAt (W.setCell ⟨g, q * 15 + p, none⟩ u) (.slice (some ⟨g, 0, none⟩) l.length cap) (l.set q e') := by
  obtain ⟨a, cap', hv, hx⟩ := h
  simp only [Value.slice.injEq] at hv
  obtain ⟨rfl, _, rfl⟩ := hv
  have hq := (List.getElem?_eq_some_iff.1 he).1
  have hr : ∀ (i : Nat) (x : Ev), l[i]? = some x → ∀ t u, x.cells[t]? = some u → W.cell? ⟨g, i * 15 + t, none⟩ = some u := by
    intro i x hi t u ht
    obtain ⟨b, o, hbo, hj⟩ := hx i x hi
    simp only [Option.some.injEq, Addr.mk.injEq, and_true] at hbo
    obtain ⟨rfl, rfl⟩ := hbo
    have := hj t u ht
    rw [Nat.zero_add] at this
    exact this
  refine ⟨_, cap, by simp, fun i x hi => ⟨g, 0, rfl, fun t v ht => ?_⟩⟩
  rw [Nat.zero_add]
  have htl : t < 15 := (List.getElem?_eq_some_iff.1 ht).1
  by_cases hiq : i = q
  · subst hiq
    rw [List.getElem?_set_self hq] at hi
    cases hi
    rw [hu] at ht
    by_cases htp : t = p
    · subst htp
      rw [List.getElem?_set_self (by exact hp)] at ht
      cases ht
      obtain ⟨c, hc⟩ : ∃ c, e.cells[t]? = some c := ⟨_, List.getElem?_eq_getElem (by exact hp)⟩
      exact World.cell?_setCell_same _ _ _ (hr i e he t c hc)
    · rw [List.getElem?_set_ne (fun h => htp h.symm)] at ht
      rw [World.cell?_setCell_other _ _ _ _ (fun h => by simp only [Addr.mk.injEq] at h; omega)]
      exact hr i e he t v ht
  · rw [List.getElem?_set_ne (fun h => hiq h.symm)] at hi
    rw [World.cell?_setCell_other _ _ _ _ (fun h => by simp only [Addr.mk.injEq] at h; omega)]
    exact hr i x hi t v ht

theorem turn_index (k : Int) (n : Nat) (h1 : 1 ≤ n) (hn : n ≤ 60) : ∃ q : Nat, (wrap64 (k.tmod (n : Int) + n)).tmod (n : Int) = (q : Int) ∧ q < n := by
  have h3 : -(n : Int) < k.tmod (n : Int) := by
    have := Int.neg_tmod k (n : Int)
    have h4 := Int.tmod_lt_of_pos (-k) (show (0 : Int) < (n : Int) by omega)
    omega
  have h7 := Int.tmod_lt_of_pos k (show (0 : Int) < (n : Int) by omega)
  rw [IntWalk.wrap64_in _ ⟨by omega, by omega⟩]
  have h5 := Int.tmod_lt_of_pos (k.tmod (n : Int) + n) (show (0 : Int) < (n : Int) by omega)
  have h6 := Int.tmod_nonneg (n : Int) (show (0 : Int) ≤ k.tmod (n : Int) + n by omega)
  exact ⟨((k.tmod (n : Int) + n).tmod (n : Int)).toNat, by omega, by omega⟩

set_option maxRecDepth 100000 in
set_option maxHeartbeats 40000000 in
theorem sound_walk (l : List Ak) (v : Value) (k : Int) (w : World) (h : AsksAt w v l) (hll : l.length ≤ 9223372036854775807) :
    Calls Try.prog 6 #[v, .int .i64 k] w fun e w' => e = .returned (.bool true) ∧ Mod NoB w w' := by
  obtain ⟨a, cap, rfl, hx⟩ := id h
  have HE := Lib.hid h; clear h
  clear hx
  have hmk := @run_makeMap Try.prog
  obtain ⟨i0, z0, hi, hz0, hz1, hz2, hz3⟩ := evInfo_parts
  go_enter Try.func6, Try.ntmps6
  by_cases hl : 60 < l.length
  · have hl1 : (60 : Int) < l.length := by omega
    go_wp2_with fail
    refine (truthAlive _).mono ?_; rintro e w1 ⟨rfl, hm⟩
    go_wp2_with fail
    go_ret
    exact ⟨rfl, hm⟩
  have hl1 : ¬ (60 : Int) < l.length := by omega
  go_wp2_with fail
  refine (truthAlive _).mono ?_; rintro e w1 ⟨rfl, hm1⟩
  go_wp2_with fail
  have hrel0 : AsksRel w1.heap.size l.length w (.slice none 0 0) (.int .i64 0) (w1.alloc (.map #[] 0)) :=
    ⟨0, [], [], Nat.zero_le _, rfl, Nat.le_refl _, ⟨fun _ => rfl, rfl, (fun _ h => absurd h List.not_mem_nil), (fun _ h => absurd h List.not_mem_nil), (fun _ h => absurd h List.not_mem_nil)⟩, MapAt.made w1, World.ownsRow_nil _ _ _ _, hm1.alloc _, by simp⟩
  have hsz0 := Lib.hid hm1.size
  have HE2 := Lib.hid (HE.out.mod hm1)
  generalize hB : w1.heap.size = B at *
  clear hB hm1
  go_loopw [6, 27] (fun v i wr => AsksRel B l.length w v i wr) (fun _ i _ => l.length - (intOf i).toNat)
  case atStart => exact hrel0
  case round =>
    clear hrel0
    obtain ⟨j, had, acc, hj, rfl, hacc, hmade, hmap, hown, hmod, hbase⟩ := hrel
    have HMD := Lib.hid hmade; clear hmade
    have HOW := Lib.hid hown; clear hown
    have HMP := Lib.hid hmap; clear hmap
    have HMO := Lib.hid hmod; clear hmod
    by_cases hlt : j < l.length
    · have he : l[j]? = some l[j] := List.getElem?_eq_getElem hlt
      obtain ⟨b, o, cap', hv, hbl, p0, p1, p2, p3, p4⟩ := (HE.out.mod HMO.out).at5 he
      generalize l[j] = x at *
      clear he
      simp only [Value.slice.injEq] at hv
      obtain ⟨rfl, _, rfl⟩ := hv
      have hi0 : (0 : Int) ≤ j := by omega
      have hi1 : (j : Int) < l.length := by omega
      by_cases hk1 : 40 < x.key.size
      · have hk2 : (40 : Int) < x.key.size := by omega
        go_wp2_with fail
        go_ret
        exact ⟨rfl, HMO.out.alloc _⟩
      have hk2 : ¬ (40 : Int) < x.key.size := by omega
      by_cases hv1 : 40 < x.value.size
      · have hv2 : (40 : Int) < x.value.size := by omega
        go_wp2_with fail
        go_ret
        exact ⟨rfl, HMO.out.alloc _⟩
      have hv2 : ¬ (40 : Int) < x.value.size := by omega
      have hm1 : Mod NoB wr (wr.alloc (.cells x.cells.toArray 38)) := (Mod.refl _ _).alloc _
      have hm2 := hm1.alloc (.cells (mkEv j x 0 ⟨#[]⟩).cells.toArray 44)
      have hmp2 := HMP.out.mod hm2 (fun h => h)
      have hlk := lookup_ss (P := Try.prog) tyHad tyString hmp2 (zeroString _) x.key
      have HM2 := Lib.hid hm2; clear hm2 hm1
      have HP2 := Lib.hid hmp2; clear hmp2
      simp only [Ak.cells, Ev.cells, mkEv] at hlk
      by_cases hop1 : x.op = 1
      · have ho1 : (x.op == 1) = true := by simpa using hop1
        have HOP := Lib.hid hop1; clear hop1
        cases hg : had.get x.key with
        | some vv =>
          rw [hg] at hlk
          have HV := Lib.hid (made_get HMD.out j x HOP.out)
          rw [hg] at HV
          go_wp2_with (at_builtin; refine wpList_append_own _ rfl _ _ 35 rfl (B + 1) 44 i0 z0 15 i0.bytes tyEvs hi hz0 hz1 rfl hz2 (by decide) u6 acc.length (acc.flatMap Ev.cells) rfl ?c0 _ 1 1 (mkEv j x 0 vv).cells rfl rfl ?c1 ?c2 ?c3 ?c4 ?c5 ?_)
          case c0 => exact (own_mod HOW.out (((Mod.refl NoB wr).alloc _).alloc _) (fun k h => h.elim)).alloc _
          case c1 => intro q u hu; exact hu
          case c2 => exact ⟨rfl, rfl, rfl, rfl, rfl, rfl, rfl, rfl, rfl, rfl, rfl, rfl, rfl, rfl, rfl⟩
          case c3 => unfold maxLen; omega
          case c4 => exact Nat.le_trans (Nat.mul_le_mul (by omega : acc.length + 1 ≤ 200) hz3) (by decide)
          case c5 => first | omega | (simp; omega)
          intro v' wa hown2 hgrow hnn
          have HW2 := Lib.hid hown2; have HG := Lib.hid hgrow; clear hown2 hgrow hnn
          go_wp2_with fail
          exact ⟨asksRel_next hlt hacc HV.out HW2.out HOW.out hsz0.out (HMP.out.mod ((((Mod.refl NoB wr).alloc _).alloc _).alloc _) (fun h => h)) HMO.out (((((Mod.refl NoB wr).alloc _).alloc _)).alloc _) (fun k h => by first | exact h.elim | exact Nat.le_of_eq h.symm) HG.out hbase, by simp [intOf]; omega⟩
        | none =>
          rw [hg] at hlk
          have HV := Lib.hid (made_get HMD.out j x HOP.out)
          rw [hg] at HV
          go_wp2_with (at_builtin; refine wpList_append_own _ rfl _ _ 35 rfl (B + 1) 44 i0 z0 15 i0.bytes tyEvs hi hz0 hz1 rfl hz2 (by decide) u6 acc.length (acc.flatMap Ev.cells) rfl ?c0 _ 1 1 (mkEv j x 6 ⟨#[]⟩).cells rfl rfl ?c1 ?c2 ?c3 ?c4 ?c5 ?_)
          case c0 => exact (own_mod HOW.out (((Mod.refl NoB wr).alloc _).alloc _) (fun k h => h.elim)).alloc _
          case c1 => intro q u hu; exact hu
          case c2 => exact ⟨rfl, rfl, rfl, rfl, rfl, rfl, rfl, rfl, rfl, rfl, rfl, rfl, rfl, rfl, rfl⟩
          case c3 => unfold maxLen; omega
          case c4 => exact Nat.le_trans (Nat.mul_le_mul (by omega : acc.length + 1 ≤ 200) hz3) (by decide)
          case c5 => first | omega | (simp; omega)
          intro v' wa hown2 hgrow hnn
          have HW2 := Lib.hid hown2; have HG := Lib.hid hgrow; clear hown2 hgrow hnn
          go_wp2_with fail
          exact ⟨asksRel_next hlt hacc HV.out HW2.out HOW.out hsz0.out (HMP.out.mod ((((Mod.refl NoB wr).alloc _).alloc _).alloc _) (fun h => h)) HMO.out (((((Mod.refl NoB wr).alloc _).alloc _)).alloc _) (fun k h => by first | exact h.elim | exact Nat.le_of_eq h.symm) HG.out hbase, by simp [intOf]; omega⟩
      · have ho1 : (x.op == 1) = false := by simpa using hop1
        by_cases hop2 : x.op = 2
        · have ho2 : (x.op == 2) = true := by simpa using hop2
          have HV := Lib.hid (made_put HMD.out j x hop2 (by omega))
          clear hop1 hop2
          obtain ⟨w2, hrun, hm2, hmod2⟩ := update_ss (P := Try.prog) tyHad tyString HP2.out x.key x.value
          simp only [Ak.cells, Ev.cells, mkEv] at hrun
          obtain ⟨e0, e1, e2, e3, e4, e5, e6, e7, e8, e9, e10, e11, e12, e13, e14⟩ := ev_cells15 (e := mkEv j x 0 ⟨#[]⟩) (ev_kept (T := 44) (heap_alloc2 wr (.cells x.cells.toArray 38) _) hmod2 (fun h => by have := HMP.out.lt; omega))
          have HC := Lib.hid hm2; clear hm2
          have HD := Lib.hid ((((Mod.refl (· = B) wr).alloc _).alloc _).trans hmod2 : Mod (· = B) wr w2)
          clear hmod2
          go_wp2_with (at_builtin; refine wpList_append_own _ rfl _ _ 35 rfl (B + 1) 44 i0 z0 15 i0.bytes tyEvs hi hz0 hz1 rfl hz2 (by decide) u6 acc.length (acc.flatMap Ev.cells) rfl ?q0 _ 1 1 (mkEv j x 0 ⟨#[]⟩).cells rfl rfl ?q1 ?q2 ?q3 ?q4 ?q5 ?_)
          case q0 => exact (own_mod HOW.out HD.out (fun k h => by have : k = B := h; omega)).alloc _
          case q2 => exact ⟨rfl, rfl, rfl, rfl, rfl, rfl, rfl, rfl, rfl, rfl, rfl, rfl, rfl, rfl, rfl⟩
          case q3 => unfold maxLen; omega
          case q4 => exact Nat.le_trans (Nat.mul_le_mul (by omega : acc.length + 1 ≤ 200) hz3) (by decide)
          case q5 => have := HD.out.size; first | omega | (simp; omega)
          intro v' wa hown2 hgrow hnn
          have HW2 := Lib.hid hown2; have HG := Lib.hid hgrow; clear hown2 hgrow hnn
          go_wp2_with fail
          exact ⟨asksRel_next hlt hacc HV.out HW2.out HOW.out hsz0.out (HC.out.kept (Below.heap_alloc _ _ _ HC.out.lt)) HMO.out ((HD.out).alloc _) (fun k h => by first | exact h.elim | exact Nat.le_of_eq h.symm) HG.out hbase, by simp [intOf]; omega⟩
        · have ho2 : (x.op == 2) = false := by simpa using hop2
          by_cases hop3 : x.op = 3
          · have ho3 : (x.op == 3) = true := by simpa using hop3
            have HV := Lib.hid (made_del HMD.out j x hop3)
            clear hop1 hop2 hop3
            cases hg : had.get x.key with
            | some vv =>
              rw [hg] at hlk HV
              obtain ⟨w2, hrun, hm2, hmod2⟩ := delete_ss (P := Try.prog) tyHad tyString HP2.out x.key 9 0
              simp only [Ak.cells, Ev.cells, mkEv] at hrun
              obtain ⟨e0, e1, e2, e3, e4, e5, e6, e7, e8, e9, e10, e11, e12, e13, e14⟩ := ev_cells15 (e := mkEv j x 0 ⟨#[]⟩) (ev_kept (T := 44) (heap_alloc2 wr (.cells x.cells.toArray 38) _) hmod2 (fun h => by have := HMP.out.lt; omega))
              have HC := Lib.hid hm2; clear hm2
              have HD := Lib.hid ((((Mod.refl (· = B) wr).alloc _).alloc _).trans hmod2 : Mod (· = B) wr w2)
              clear hmod2
              go_wp2_with (at_builtin; refine wpList_append_own _ rfl _ _ 35 rfl (B + 1) 44 i0 z0 15 i0.bytes tyEvs hi hz0 hz1 rfl hz2 (by decide) u6 acc.length (acc.flatMap Ev.cells) rfl ?r0 _ 1 1 (mkEv j x 0 ⟨#[]⟩).cells rfl rfl ?r1 ?r2 ?r3 ?r4 ?r5 ?_)
              case r0 => exact (own_mod HOW.out HD.out (fun k h => by have : k = B := h; omega)).alloc _
              case r2 => exact ⟨rfl, rfl, rfl, rfl, rfl, rfl, rfl, rfl, rfl, rfl, rfl, rfl, rfl, rfl, rfl⟩
              case r3 => unfold maxLen; omega
              case r4 => exact Nat.le_trans (Nat.mul_le_mul (by omega : acc.length + 1 ≤ 200) hz3) (by decide)
              case r5 => have := HD.out.size; first | omega | (simp; omega)
              intro v' wa hown2 hgrow hnn
              have HW2 := Lib.hid hown2; have HG := Lib.hid hgrow; clear hown2 hgrow hnn
              go_wp2_with fail
              exact ⟨asksRel_next hlt hacc HV.out HW2.out HOW.out hsz0.out (HC.out.kept (Below.heap_alloc _ _ _ HC.out.lt)) HMO.out ((HD.out).alloc _) (fun k h => by first | exact h.elim | exact Nat.le_of_eq h.symm) HG.out hbase, by simp [intOf]; omega⟩
            | none =>
              rw [hg] at hlk HV
              have HP3 := Lib.hid (HMP.out.mod (((Mod.refl NoB wr).alloc (.cells x.cells.toArray 38)).alloc (.cells (mkEv j x 6 ⟨#[]⟩).cells.toArray 44)) (fun h => h))
              obtain ⟨w2, hrun, hm2, hmod2⟩ := delete_ss (P := Try.prog) tyHad tyString HP3.out x.key 9 0
              simp only [Ak.cells, Ev.cells, mkEv] at hrun
              obtain ⟨e0, e1, e2, e3, e4, e5, e6, e7, e8, e9, e10, e11, e12, e13, e14⟩ := ev_cells15 (e := mkEv j x 6 ⟨#[]⟩) (ev_kept (T := 44) (heap_alloc2 wr (.cells x.cells.toArray 38) _) hmod2 (fun h => by have := HMP.out.lt; omega))
              have HC := Lib.hid hm2; clear hm2
              have HD := Lib.hid ((((Mod.refl (· = B) wr).alloc _).alloc _).trans hmod2 : Mod (· = B) wr w2)
              clear hmod2
              go_wp2_with (at_builtin; refine wpList_append_own _ rfl _ _ 35 rfl (B + 1) 44 i0 z0 15 i0.bytes tyEvs hi hz0 hz1 rfl hz2 (by decide) u6 acc.length (acc.flatMap Ev.cells) rfl ?s0 _ 1 1 (mkEv j x 6 ⟨#[]⟩).cells rfl rfl ?s1 ?s2 ?s3 ?s4 ?s5 ?_)
              case s0 => exact (own_mod HOW.out HD.out (fun k h => by have : k = B := h; omega)).alloc _
              case s2 => exact ⟨rfl, rfl, rfl, rfl, rfl, rfl, rfl, rfl, rfl, rfl, rfl, rfl, rfl, rfl, rfl⟩
              case s3 => unfold maxLen; omega
              case s4 => exact Nat.le_trans (Nat.mul_le_mul (by omega : acc.length + 1 ≤ 200) hz3) (by decide)
              case s5 => have := HD.out.size; first | omega | (simp; omega)
              intro v' wa hown2 hgrow hnn
              have HW2 := Lib.hid hown2; have HG := Lib.hid hgrow; clear hown2 hgrow hnn
              go_wp2_with fail
              exact ⟨asksRel_next hlt hacc HV.out HW2.out HOW.out hsz0.out (HC.out.kept (Below.heap_alloc _ _ _ HC.out.lt)) HMO.out ((HD.out).alloc _) (fun k h => by first | exact h.elim | exact Nat.le_of_eq h.symm) HG.out hbase, by simp [intOf]; omega⟩
          · have ho3 : (x.op == 3) = false := by simpa using hop3
            clear hop1 hop2 hop3
            go_wp2_with fail
            exact ⟨⟨j + 1, had, acc, by omega, by go_num, by omega, HMD.out, HP2.out, own_mod HOW.out HM2.out (fun k h => h.elim), HMO.out.trans HM2.out, Nat.le_trans hbase HM2.out.size⟩, by simp [intOf]; omega⟩
    · obtain rfl : j = l.length := by omega
      have hac : acc.length ≤ 60 := by omega
      have FW := Lib.hid (slAt_own evCells_len HOW.out)
      obtain ⟨a6, cap6, rfl⟩ := owns_slice HOW.out
      go_wp2_with fail
      refine (sounds_any acc _ _ FW.out (by omega) HMD.out.no4).mono ?_
      rw [HMD.out.sound]
      rintro e w2 ⟨rfl, hm2⟩
      have HM2 := Lib.hid hm2; clear hm2
      by_cases h0 : acc.length = 0
      · have h1 : (acc.length : Int) = 0 := by omega
        go_wp2_with fail
        go_ret
        exact ⟨rfl, HMO.out.trans HM2.out⟩
      · have h1 : ¬ (acc.length : Int) = 0 := by omega
        have hoo := HOW.out
        obtain ⟨_, ⟨_, h2⟩ | ⟨g0, cap0, cur0, hv0, hg0, _⟩⟩ := hoo
        · exact absurd h2 h0
        simp only [Value.slice.injEq] at hv0
        obtain ⟨rfl, _, rfl⟩ := hv0
        have FW2 := Lib.hid (FW.out.mod HM2.out)
        obtain ⟨q, hq, hql⟩ := turn_index k acc.length (by omega) (by omega)
        have HQ := Lib.hid hq
        go_wp2_with (at_builtin; refine wpList_append_own _ rfl _ _ 35 rfl w2.heap.size 44 i0 z0 15 i0.bytes tyEvs hi hz0 hz1 rfl hz2 (by decide) _ _ _ rfl (World.ownsRow_nil _ _ _ _) ⟨g0, 0, none⟩ acc.length cap6 (acc.flatMap Ev.cells) rfl (flat_len evCells_len acc) ?t1 ?t2 ?t4 ?t5 ?t6 ?_)
        case t1 => exact FW2.out.flat evCells_len (by decide)
        case t2 => intro u hu; obtain ⟨x, _, hx⟩ := List.mem_flatMap.1 hu; exact evCells_one x u hx
        case t4 => unfold maxLen; omega
        case t5 => exact Nat.le_trans (Nat.mul_le_mul (by omega : 0 + acc.length ≤ 200) hz3) (by decide)
        case t6 => exact Nat.le_refl _
        intro v' wa hown hgrow hnn
        have hown2 : wa.ownsRow w2.heap.size 44 15 v' acc.length (acc.flatMap Ev.cells) := by simpa using hown
        have hma : Mod NoB w2 wa := grown_mod (Mod.refl _ _) hgrow rfl
        have FW3 := Lib.hid (slAt_own evCells_len hown2)
        obtain ⟨_, ⟨_, h2⟩ | ⟨g, capg, cur, rfl, hg, hgc, _⟩⟩ := hown2
        · exact absurd h2 h0
        have he : acc[q]? = some acc[q] := List.getElem?_eq_getElem hql
        obtain ⟨g', o', cap'', hv, _, c0, c1, c2, c3, c4, c5, c6, c7, c8, c9, c10, c11, c12, c13, c14⟩ := FW3.out.at15 he
        simp only [Value.slice.injEq, Option.some.injEq, Addr.mk.injEq] at hv
        obtain ⟨⟨rfl, rfl, _⟩, _, rfl⟩ := hv
        simp only [Nat.zero_add] at c0 c1 c2 c3 c4 c5 c6 c7 c8 c9 c10 c11 c12 c13 c14
        have hgw : ¬ g < w.heap.size := by have := HMO.out.size; have := HM2.out.size; omega
        have hfz : ∀ o, wa.frozen? ⟨g, o, none⟩ = false := fun o => frozen_own hgc o
        have HWA := Lib.hid ((HMO.out.trans HM2.out).trans hma)
        have HT := Lib.hid (HMD.out.turned he)
        have HN4 := Lib.hid (HMD.out.no4' he)
        have HP := Lib.hid (HMD.out.plain _ (List.getElem_mem hql))
        have HTV := HMD.out.tv _ (List.getElem_mem hql)
        have HEE := Lib.hid he; clear he
        generalize acc[q] = e at *
        clear c0 c1 c2 c3 c5 c6 c7 c8 c11 c12 c13 c14 hown hgrow hnn hma hi hz0 hz1 hz2 hz3 hgc hg
        have hi0 : (0 : Int) ≤ q := by omega
        have hi1 : (q : Int) < acc.length := by omega
        by_cases ho2 : e.op = 2
        · have hb2 : (e.op == 2) = true := by simpa using ho2
          have HO := Lib.hid ho2; clear ho2
          go_wp2_with fail
          refine (sounds_any (acc.set q (turnE e)) _ _ (set_at FW3.out HEE.out (p := 9) (by decide) (.int .i64 6) (by unfold turnE; rw [if_pos HO.out]; rfl)) (by simp; omega) HN4.out).mono ?_
          rw [HT.out]
          rintro e5 w5 ⟨rfl, hm5⟩
          have HM5 := Lib.hid hm5; clear hm5
          have hne : decide (q = (acc.set q (turnE e)).length) = false := by simp; omega
          rw [hne]
          go_wp2_with fail
          go_ret
          exact ⟨rfl, (HWA.out.setCell (fun h => absurd h hgw) _).trans HM5.out⟩
        · have hb2 : (e.op == 2) = false := by simpa using ho2
          by_cases hr6 : e.errno = 6
          · have hb6 : (e.errno == 6) = true := by simpa using hr6
            have HO := Lib.hid ho2; clear ho2
            have HR := Lib.hid hr6; clear hr6
            go_wp2_with fail
            refine (sounds_any (acc.set q (turnE e)) _ _ (set_at FW3.out HEE.out (p := 9) (by decide) (.int .i64 0) (by unfold turnE; rw [if_neg HO.out, if_pos HR.out]; rfl)) (by simp; omega) HN4.out).mono ?_
            rw [HT.out]
            rintro e5 w5 ⟨rfl, hm5⟩
            have HM5 := Lib.hid hm5; clear hm5
            have hne : decide (q = (acc.set q (turnE e)).length) = false := by simp; omega
            rw [hne]
            go_wp2_with fail
            go_ret
            exact ⟨rfl, (HWA.out.setCell (fun h => absurd h hgw) _).trans HM5.out⟩
          · have hb6 : (e.errno == 6) = false := by simpa using hr6
            have hts : e.tvalue.size + 1 ≤ 9223372036854775807 := by omega
            have htm : e.tvalue.size + 1 ≤ maxLen := by unfold maxLen; omega
            by_cases ho1 : e.op = 1
            · have hb1 : (e.op == 1) = true := by simpa using ho1
              have HO := Lib.hid ho2; clear ho2
              have HR := Lib.hid hr6; clear hr6
              have H1 := Lib.hid ho1; clear ho1
              go_wp2_with fail
              refine (sounds_any (acc.set q (turnE e)) _ _ (set_at FW3.out HEE.out (p := 10) (by decide) (.string (e.tvalue ++ ⟨#[120]⟩)) (by unfold turnE; rw [if_neg HO.out, if_neg HR.out, if_pos H1.out]; rfl)) (by simp; omega) HN4.out).mono ?_
              rw [HT.out]
              rintro e5 w5 ⟨rfl, hm5⟩
              have HM5 := Lib.hid hm5; clear hm5
              have hne : decide (q = (acc.set q (turnE e)).length) = false := by simp; omega
              rw [hne]
              go_wp2_with fail
              go_ret
              exact ⟨rfl, (HWA.out.setCell (fun h => absurd h hgw) _).trans HM5.out⟩
            · have hb1 : (e.op == 1) = false := by simpa using ho1
              have HO := Lib.hid ho2; clear ho2
              have HR := Lib.hid hr6; clear hr6
              have H1 := Lib.hid ho1; clear ho1
              go_wp2_with fail
              refine (sounds_any (acc.set q (turnE e)) _ _ (set_at FW3.out HEE.out (p := 9) (by decide) (.int .i64 6) (by unfold turnE; rw [if_neg HO.out, if_neg HR.out, if_neg H1.out]; rfl)) (by simp; omega) HN4.out).mono ?_
              rw [HT.out]
              rintro e5 w5 ⟨rfl, hm5⟩
              have HM5 := Lib.hid hm5; clear hm5
              have hne : decide (q = (acc.set q (turnE e)).length) = false := by simp; omega
              rw [hne]
              go_wp2_with fail
              go_ret
              exact ⟨rfl, (HWA.out.setCell (fun h => absurd h hgw) _).trans HM5.out⟩

theorem rd_ask {w : World} {cs : List Value} (h : Rd w askShp cs) : ∃ x : Ak, cs = x.cells := by
  obtain ⟨d1, s1, rfl, g1, h⟩ := rds_cons (rd_st h)
  obtain ⟨d2, s2, rfl, g2, h⟩ := rds_cons h
  obtain ⟨d3, s3, rfl, g3, h⟩ := rds_cons h
  obtain ⟨d4, s4, rfl, g4, h⟩ := rds_cons h
  obtain ⟨d5, s5, rfl, g5, h⟩ := rds_cons h
  obtain rfl := rds_nil h
  obtain ⟨m1, rfl, _⟩ := rdc_int g1
  obtain ⟨m2, rfl, _⟩ := rdc_str g2
  obtain ⟨m3, rfl, _⟩ := rdc_str g3
  obtain ⟨m4, rfl, _⟩ := rdc_str g4
  obtain ⟨m5, rfl, _⟩ := rdc_int g5
  exact ⟨⟨m1, m2, m3, m4, m5⟩, rfl⟩
theorem asksAt_of_rd {w : World} {v : Value} (h : RdV w (.sl askShp) v) : ∃ l : List Ak, AsksAt w v l ∧ l.length ≤ 9223372036854775807 :=
  slAt_of_rd h rfl (by decide) (fun _ _ h => rd_ask h)

set_option maxRecDepth 100000 in
theorem truthSound_lifted (os : Os) (started : os.Started) (H : Type) (enc : TypeId × Value → H) :
    ReturnsInHanded {} Try.checked os 6 .any (Rows.truthSoundSpec.pre6 enc Try.prog Try.f6 Rows.truthSoundRow.domain false) (Rows.truthSoundSpec.post enc Try.prog Try.f6 false true false false) := by
  refine returnsInHanded_of_change (C := Try.checked) progOwn started (by kernel_rfl) Try.func6
    (ChangeSpec.witness6 (enc := enc) (C := Try.checked) false ⟨#[], #[.slice none 0 0, .int .i64 0], []⟩ 8 (by kernel_rfl) (by kernel_rfl) (by kernel_rfl) (by kernel_rfl)) ?_
  intro W base args ds gs before hval hW _ _
  refine law_post (P := Try.prog) (B := 4) (fun ds h => ?_) rfl rfl (by kernel_rfl) (by kernel_rfl) progLaid hW ?_
  · match ds, h with
    | [_, _], _ => rfl
  · obtain ⟨p, q, hA, _⟩ := hW
    have hR := rdAll_of_trod (P := Try.prog) [.sl askShp, .i .i64] (by kernel_rfl) rfl (fun j t v h1 h2 => hval j t v (by simpa using h1) (by simpa using h2)) hA
    obtain ⟨l⟩ := args
    obtain ⟨v0, vs, rfl, h0, hR⟩ := hR
    obtain ⟨v1, vs, rfl, h1, hR⟩ := hR
    obtain rfl := hR
    obtain ⟨l, hl, hll⟩ := asksAt_of_rd h0
    obtain ⟨k, rfl, _⟩ := rd_int h1
    exact (sound_walk l v0 k W hl hll).mono fun _ _ ⟨he, hm⟩ => ⟨he, hm.below_self⟩

theorem truthSound_over : Rows.truthSoundRow.holds Try.pinned (OpenSpec.ofChange Rows.truthSoundSpec) :=
  OpenClaim.holds_of_wide 6 Try.f6 rfl rfl rfl rfl rfl rfl rfl ⟨rfl, rfl, rfl, rfl, rfl⟩ rfl rfl rfl rfl rfl (by kernel_rfl) Try.func6 (by kernel_rfl)
    (of_decide_eq_true (by kernel_rfl)) (by unfold Func.isWrapper; first | (rw [if_pos (by decide +kernel)]; kernel_rfl) | (rw [if_neg (by decide +kernel)]; exact ⟨rfl, rfl⟩))
    (fun os started H enc _ => truthSound_lifted os started H enc)

theorem truthSound_proved : Rows.TruthSoundSaid := truthSound_over
end Go.Proofs.Ytcpbcggfbopobaa
