/- HoldSees: the walk. -/
import Derived.Test.YtmagddchjidamaaGreatDoorHoldCut
import Derived.Test.YtmagddchjidamaaGreatDoorSameIt
namespace Go.Proofs.YtmagddchjidamaaGreatDoor
set_option linter.unusedSimpArgs false
set_option linter.unusedVariables false
open Go.RowKit Go.Shelf
attribute [local go_sem ↓] Go.wp_at_zero Go.wp_at_succ

set_option maxRecDepth 100000 in
set_option maxHeartbeats 4000000 in
theorem sameTold_refl (e n : Int) (v : ByteArray) (w : World) : Calls Tryz.prog 15 #[encTold e v n, encTold e v n] w fun en w' => en = .returned (.bool true) ∧ Mod NoB w w' := by
  have hbe : (v == v) = true := (MapKept.bytes_beq v v).2 rfl
  have hsi := fun W => sameItems_eq [] (.slice none 0 0) (.slice none 0 0) W (SlAt.nil _ _ _ _ _) (SlAt.nil _ _ _ _ _) (by decide)
  go_enter Tryz.func15, Tryz.ntmps15
  go_wp2_with (go_at_call 24; refine (hsi _).mono ?_; rintro e w2 ⟨rfl, hm2⟩; obtain ⟨b1, b2, b3, b4⟩ := two_new hm2; have c3 : w2.cell? ⟨w.heap.size, 3, none⟩ = some (.bool false) := cell_of b1 3 rfl; have c4 : w2.cell? ⟨w.heap.size, 4, none⟩ = some (.string ⟨#[]⟩) := cell_of b1 4 rfl; have c5 : w2.cell? ⟨w.heap.size, 5, none⟩ = some (.int .i64 n) := cell_of b1 5 rfl; have d3 : w2.cell? ⟨w.heap.size + 1, 3, none⟩ = some (.bool false) := cell_of b2 3 rfl; have d4 : w2.cell? ⟨w.heap.size + 1, 4, none⟩ = some (.string ⟨#[]⟩) := cell_of b2 4 rfl; have d5 : w2.cell? ⟨w.heap.size + 1, 5, none⟩ = some (.int .i64 n) := cell_of b2 5 rfl; have HM2 := Lib.hid b4; clear hm2 b1 b2 b3 b4)
  go_ret
  exact ⟨rfl, HM2.out⟩

/-! ### A map and a row of items that are alike -/
theorem get_mem : {m : SMap} → (m.map (·.1)).Nodup → {k v : ByteArray} → (m.get k = some v ↔ (k, v) ∈ m)
  | [], _, k, v => by simp [SMap.get]
  | x :: m, h, k, v => by
    rw [List.map_cons, List.nodup_cons] at h
    have ih := get_mem (m := m) h.2 (k := k) (v := v)
    by_cases hx : x.1 = k
    · have e : SMap.get (x :: m) k = some x.2 := by simp [SMap.get, hx]
      rw [e, Option.some.injEq, List.mem_cons]
      constructor
      · rintro rfl
        exact .inl (by rw [← hx])
      · rintro (e | e)
        · rw [← e]
        · exact absurd (List.mem_map.2 ⟨(k, v), e, rfl⟩) (hx ▸ h.1)
    · have e : SMap.get (x :: m) k = SMap.get m k := by simp [SMap.get, hx]
      rw [e, ih, List.mem_cons]
      constructor
      · exact .inr
      · rintro (e | e)
        · exact absurd (by rw [← e]) hx
        · exact e

theorem rising_nodup {l : List Itm} (h : Rising l) : (l.map (·.1)).Nodup := by
  rw [rising_keys] at h
  exact h.imp (fun hab e => keyLt_ne hab e)

theorem agree_get {m : SMap} {xs : List Itm} (hp : m.Perm xs) (hr : Rising xs) (k : ByteArray) : m.get k = getS k xs := by
  have hx := rising_nodup hr
  have hm : (m.map (·.1)).Nodup := ((hp.map _).nodup_iff).2 hx
  cases hg : getS k xs with
  | some v => exact (get_mem hm).2 (hp.mem_iff.2 ((get_mem hx).1 hg))
  | none =>
    cases hg2 : SMap.get m k with
    | none => rfl
    | some v =>
      have := (get_mem hx).2 (hp.mem_iff.1 ((get_mem hm).1 hg2))
      unfold getS at hg
      rw [this] at hg
      cases hg

theorem insS_perm {x : Itm} {xs : List Itm} (hr : Rising xs) (hg : getS x.1 xs = none) : (insS x xs).Perm (x :: xs) := by
  obtain ⟨x1, x2, rfl, _, h1, h2⟩ := plc_none hr hg
  rw [insS_leaf h1 h2]
  exact List.perm_middle

theorem agree_put {m : SMap} {xs : List Itm} (hp : m.Perm xs) (hr : Rising xs) (k v : ByteArray) : (m.put k v).Perm (if (getS k xs).isSome then setS k v xs else insS (k, v) xs) := by
  have hg := agree_get hp hr k
  cases h : getS k xs with
  | none =>
    rw [h] at hg
    rw [put_new hg]
    simp only [Option.isSome_none, Bool.false_eq_true, if_false]
    refine List.Perm.trans ?_ (insS_perm (x := (k, v)) hr h).symm
    exact (List.perm_append_comm).trans (List.Perm.cons _ hp)
  | some u =>
    rw [h] at hg
    rw [put_old hg]
    simp only [Option.isSome_some, if_true]
    exact hp.map _

theorem agree_del {m : SMap} {xs : List Itm} (hp : m.Perm xs) (k : ByteArray) : (m.del k).Perm (delS k xs) := hp.filter _

/-- the arc from a point to itself is the whole ring -/
theorem five_at (x : Int) (hx : 0 ≤ x) (st : HSt) (ho : st.own = [⟨5, 0, 1, 0⟩, ⟨0, 5, 1, 0⟩]) : (st.at x).isSome = true := by
  unfold HSt.at
  rw [ho]
  by_cases h : 5 ≤ x
  · simp [hasP, Ow.arc, h]
  · have : x < 5 := by omega
    simp [hasP, Ow.arc, h, this, hx]

structure Ak5 where
  op : Int
  key : ByteArray
  value : ByteArray
  kt : ByteArray
  most : Int
abbrev enc5 (x : Ak5) : List Value := [.int .i64 x.op, .string x.key, .string x.value, .string x.kt, .int .i64 x.most]

theorem at5a {w : World} {v : Value} {l : List Ak5} (h : SlAt 5 enc5 w v l) {i : Nat} {x : Ak5} (hi : l[i]? = some x) : ∃ b o cap, v = .slice (some ⟨b, o, none⟩) l.length cap ∧ b < w.heap.size ∧
    w.cell? ⟨b, o + i * 5, none⟩ = some (.int .i64 x.op) ∧ w.cell? ⟨b, o + i * 5 + 1, none⟩ = some (.string x.key) ∧ w.cell? ⟨b, o + i * 5 + 2, none⟩ = some (.string x.value) ∧ w.cell? ⟨b, o + i * 5 + 3, none⟩ = some (.string x.kt) ∧ w.cell? ⟨b, o + i * 5 + 4, none⟩ = some (.int .i64 x.most) := by
  obtain ⟨a, cap, hv, hx⟩ := h
  obtain ⟨b, o, rfl, hj⟩ := hx i x hi
  have h0 := hj 0 _ rfl
  exact ⟨b, o, cap, hv, cell_lt' h0, by simpa using h0, by simpa using hj 1 _ rfl, by simpa using hj 2 _ rfl, by simpa using hj 3 _ rfl, by simpa using hj 4 _ rfl⟩

theorem tyHad : Tryz.prog.underlying 30 = some (.map 9 9) := by kernel_rfl
theorem tyString : Tryz.prog.underlying 9 = some .string := by kernel_rfl
theorem zeroString (w : World) : (zeroValue 9).run Tryz.prog w = .ok (.string ⟨#[]⟩) w := by kernel_rfl

theorem hlenI {w : World} {h : Nat} {st : HSt} {xs : List Itm} {B : List Nat} (hh : HoldI w h st xs B) : Calls Tryz.prog 16 #[.pointer (some ⟨h, 0, none⟩)] w fun e w' => e = .returned (.int .i64 (xs.length : Int)) ∧ w' = w := by
  obtain ⟨tr, n, hh, ho⟩ := hh
  rw [← ho.1]
  exact hlen_any hh

theorem mapAt_len {w : World} {b : Nat} {m : SMap} (h : MapAt w b m) : ∃ es c, w.heap[b]? = some (.map es c) ∧ (es.size : Int) = (m.length : Int) := by
  obtain ⟨es, c, hb, r⟩ := h
  refine ⟨es, c, hb, ?_⟩
  have := congrArg List.length r.ents
  simp at this
  omega

def stS : HSt := ⟨1, 20, 0, [⟨5, 0, 1, 0⟩, ⟨0, 5, 1, 0⟩], false, ⟨0, 0⟩, []⟩
theorem stS_at (k : ByteArray) : (stS.at (addr k)).isSome = true := five_at _ (by unfold addr; omega) _ rfl

theorem pair_kept {w5 w8 : World} {p r : Array Value} {e1 e2 : TypeId} {b : Nat} (hm : Mod (· = b) ((w5.alloc (.cells p e1)).alloc (.cells r e2)) w8) (hb : b < w5.heap.size) :
    w8.heap[w5.heap.size]? = some (.cells p e1 (0, 0)) ∧ w8.heap[w5.heap.size + 1]? = some (.cells r e2 (0, 0)) ∧ Mod (· = b) w5 w8 := by
  have h1 : ((w5.alloc (.cells p e1)).alloc (.cells r e2)).heap[w5.heap.size]? = some (.cells p e1 (0, 0)) := by rw [Below.heap_alloc _ _ _ (by simp)]; exact heap_alloc_new w5 _
  have h2 : ((w5.alloc (.cells p e1)).alloc (.cells r e2)).heap[w5.heap.size + 1]? = some (.cells r e2 (0, 0)) := heap_two2 _ _ _
  refine ⟨?_, ?_, ((((Mod.refl NoB w5).alloc _).alloc _).mono (fun _ _ e => e.elim)).trans hm⟩
  · rw [hm.block _ (by simp; omega) (by omega)]; exact h1
  · rw [hm.block _ (by simp) (by omega)]; exact h2

theorem len_map {w : World} {b : Nat} {m : SMap} (h : MapAt w b m) : (Builtin.len_ #[30] 3 #[.map (some b)]).run Tryz.prog w = .ok (.int .i64 (m.length : Int)) w := by
  obtain ⟨es, c, hb, hes⟩ := mapAt_len h
  rw [run_len_map w _ _ b es c (by kernel_rfl) hb, ← hes]
  rfl

theorem told6 {w : World} {q : Nat} {e n : Int} {v : ByteArray} {T : TypeId} (h : w.heap[q]? = some (.cells #[.int .i64 e, .string v, .slice none 0 0, .bool false, .string ⟨#[]⟩, .int .i64 n] T (0, 0))) :
    w.cell? ⟨q, 0, none⟩ = some (.int .i64 e) ∧ w.cell? ⟨q, 1, none⟩ = some (.string v) ∧ w.cell? ⟨q, 2, none⟩ = some (.slice none 0 0) ∧ w.cell? ⟨q, 3, none⟩ = some (.bool false) ∧ w.cell? ⟨q, 4, none⟩ = some (.string ⟨#[]⟩) ∧ w.cell? ⟨q, 5, none⟩ = some (.int .i64 n) :=
  ⟨cell_of h 0 rfl, cell_of h 1 rfl, cell_of h 2 rfl, cell_of h 3 rfl, cell_of h 4 rfl, cell_of h 5 rfl⟩

theorem stS_put {xs : List Itm} {k v : ByteArray} (h1 : 1 ≤ k.size) (h2 : k.size ≤ 16) (hv : v.size ≤ 16) : pErr stS k v xs = hErr stS k v xs ∧ pNode stS k = 0 ∧ pIts stS k v xs = hIts stS k v xs := by
  have hbb : ¬ ¬ (1 ≤ k.size ∧ k.size ≤ 16) := fun e => e ⟨h1, h2⟩
  have hat2 : ¬ (stS.at (addr k)).isSome = false := by rw [stS_at]; simp
  have hf2 : ¬ (stS.shut && inA stS.a (addr k)) = true := by simp [stS]
  unfold pErr pNode pIts
  rw [if_neg hbb, if_neg hbb, if_neg hbb, if_neg hat2, if_neg hat2, if_neg hat2, if_neg hf2, if_neg hf2]
  exact ⟨rfl, rfl, rfl⟩
theorem stS_full {xs : List Itm} {k v : ByteArray} (hv : v.size ≤ 16) (hg : getS k xs = none) (hx : 20 ≤ xs.length) : hErr stS k v xs = 5 ∧ hIts stS k v xs = xs := by
  have hvv : ¬ ¬ v.size ≤ 16 := fun e => e hv
  unfold hErr hIts
  have h1 : ¬ (getS k xs).isSome = true := by rw [hg]; simp
  have h2 : stS.most ≤ (xs.length : Int) + stS.kept := by simp [stS]; omega
  rw [if_neg hvv, if_neg hvv, if_neg h1, if_neg h1, if_pos h2, if_pos h2]
  exact ⟨rfl, rfl⟩
theorem stS_open {xs : List Itm} {k v : ByteArray} (hv : v.size ≤ 16) (hx : (getS k xs).isSome = true ∨ xs.length < 20) : hErr stS k v xs = 0 ∧ hIts stS k v xs = (if (getS k xs).isSome then setS k v xs else insS (k, v) xs) := by
  have hvv : ¬ ¬ v.size ≤ 16 := fun e => e hv
  unfold hErr hIts
  rw [if_neg hvv, if_neg hvv]
  by_cases h : (getS k xs).isSome = true
  · rw [if_pos h, if_pos h, if_pos h]
    exact ⟨rfl, rfl⟩
  · have hx' : xs.length < 20 := hx.resolve_left h
    rw [if_neg h, if_neg h, if_neg h, if_neg (by simp [stS]; omega), if_neg (by simp [stS]; omega)]
    exact ⟨rfl, rfl⟩

def SeesRel (w : World) (n h b : Nat) (i : Value) (wr : World) : Prop :=
  ∃ (j : Nat) (xs : List Itm) (B : List Nat) (m : SMap), j ≤ n ∧ i = .int .i64 j ∧ NewI w wr h stS xs B ∧ MapAt wr b m ∧ m.Perm xs ∧ b ∉ B ∧ w.heap.size ≤ b ∧ xs.length ≤ 20

set_option maxRecDepth 100000 in
set_option maxHeartbeats 16000000 in
theorem sees_walk {w : World} {v : Value} {l : List Ak5} (hl : SlAt 5 enc5 w v l) (hll : l.length ≤ 9223372036854775807) :
    Calls Tryz.prog 3 #[v] w fun e w' => e = .returned (.bool true) ∧ Mod NoB w w' := by
  obtain ⟨va, vcap, hv, hx⟩ := hl
  have HL := Lib.hid (show SlAt 5 enc5 w v l from ⟨va, vcap, hv, hx⟩)
  subst hv
  clear hx
  have hmk := @run_makeMap Tryz.prog
  by_cases hl60 : 60 < l.length
  · have hl1 : (60 : Int) < l.length := by omega
    go_enter Tryz.func3, Tryz.ntmps3
    go_wp2_with fail
    refine (alive_any _).mono ?_
    rintro e w1 ⟨rfl, hm1⟩
    have M1 := Lib.hid hm1
    clear hm1
    go_wp2_with fail
    go_ret
    exact ⟨rfl, M1.out⟩
  have hl1 : ¬ (60 : Int) < l.length := by omega
  go_enter Tryz.func3, Tryz.ntmps3
  go_wp2_with fail
  refine (alive_any _).mono ?_
  rintro e w1 ⟨rfl, hm1⟩
  have M1 := Lib.hid hm1
  clear hm1
  go_wp2_with fail
  refine (new_any 1 20 _ (by decide) (by decide)).mono ?_
  rintro e w2 ⟨h, B2, rfl, q1, q2, q3⟩
  have N2 : Hid (NewI w1 w2 h ⟨1, 20, 0, [], false, ⟨0, 0⟩, []⟩ [] B2) := Lib.hid ⟨⟨none, 0, q1, ShOK.start⟩, q2, q3⟩
  have Q1 := Lib.hid q1
  clear q1 q2 q3
  go_wp2_with fail
  refine (own_any Q1.out ⟨5, 5⟩ 0 (by simp)).mono ?_
  rintro e w3 ⟨rfl, B3, hh3, ht3⟩
  rw [may_none (by decide) rfl] at hh3 ⊢
  rw [if_pos rfl] at hh3
  have N3 : Hid (NewI w1 w3 h stS [] B3) := Lib.hid (N2.out.turn ⟨none, 0, hh3, ShOK.start⟩ ht3)
  clear hh3 ht3 Q1 N2
  go_wp2_with fail
  have hb0 : w3.heap.size ∉ B3 := fun hb => by have := N3.out.1.lts _ hb; omega
  have hb1 : w1.heap.size ≤ w3.heap.size := N3.out.2.1.size
  have hrel0 : SeesRel w1 l.length h w3.heap.size (.int .i64 0) (w3.alloc (.map #[] 0)) :=
    ⟨0, [], B3, [], Nat.zero_le _, rfl, N3.out.quiet ((Mod.refl _ _).alloc _), MapAt.made w3, List.Perm.refl _, hb0, hb1, by decide⟩
  have HR0 := Lib.hid hrel0
  obtain ⟨b, hb⟩ : ∃ b, b = w3.heap.size := ⟨_, rfl⟩
  rw [← hb] at HR0 ⊢
  clear hb0 hb1 hrel0 N3
  go_loopw [31] (fun i wr => SeesRel w1 l.length h b i wr) (fun i _ => l.length - (intOf i).toNat)
  case atStart => exact HR0.out
  case round =>
    clear HR0 hb
    obtain ⟨j, xs, B, m, hj, rfl, hN, hmap, hperm, hbB, hbw, hx20⟩ := hrel
    obtain ⟨Wr, rfl⟩ : ∃ Wr : World, Wr = wr := ⟨_, rfl⟩
    by_cases hlt : j < l.length
    · have he : l[j]? = some l[j] := List.getElem?_eq_getElem hlt
      obtain ⟨pb, po, cap', hv, hbl, p0, p1, p2, p3, p4⟩ := at5a (HL.out.mod (M1.out.trans hN.2.1)) he
      generalize l[j] = x at *
      clear he
      simp only [Value.slice.injEq] at hv
      obtain ⟨rfl, _, rfl⟩ := hv
      obtain ⟨op, k, vv, kt, most⟩ := x
      dsimp only at p0 p1 p2 p3 p4
      have hrise := hN.1.rising
      have hget := agree_get hperm hrise k
      have hlenm := hperm.length_eq
      have NN := Lib.hid hN; have HMAP := Lib.hid hmap; have HP := Lib.hid hperm; have HBB := Lib.hid hbB; have HBW := Lib.hid hbw; have HX := Lib.hid hx20; have HRI := Lib.hid hrise; have HLM := Lib.hid hlenm; have HGT := Lib.hid hget
      clear hN hmap hperm hbB hbw hx20 hrise hlenm hget
      by_cases hc : 1 ≤ k.size ∧ k.size ≤ 16 ∧ vv.size ≤ 16 ∧ 1 ≤ op ∧ op ≤ 3
      case neg =>
        have hcc : k.size < 1 ∨ (¬ k.size < 1 ∧ 16 < k.size) ∨ (¬ k.size < 1 ∧ ¬ 16 < k.size ∧ 16 < vv.size) ∨ (¬ k.size < 1 ∧ ¬ 16 < k.size ∧ ¬ 16 < vv.size ∧ op < 1) ∨ (¬ k.size < 1 ∧ ¬ 16 < k.size ∧ ¬ 16 < vv.size ∧ ¬ op < 1 ∧ 3 < op) := by omega
        clear hc
        have hfin : Mod NoB w Wr := M1.out.trans NN.out.2.1
        rcases hcc with h1 | ⟨h1, h2⟩ | ⟨h1, h2, h3⟩ | ⟨h1, h2, h3, h4⟩ | ⟨h1, h2, h3, h4, h5⟩
        all_goals
          go_wp2_with fail
          go_ret
          exact ⟨rfl, hfin.alloc _⟩
      obtain ⟨c1, c2, c3, c4, c5⟩ := hc
      have n1 : ¬ k.size < 1 := by omega
      have n2 : ¬ 16 < k.size := by omega
      have n3 : ¬ 16 < vv.size := by omega
      have n4 : ¬ op < 1 := by omega
      have n5 : ¬ 3 < op := by omega
      have hma : MapAt (Wr.alloc (.cells #[.int .i64 op, .string k, .string vv, .string kt, .int .i64 most] 32)) b m := HMAP.out.mod (S := NoB) ((Mod.refl _ _).alloc _) (fun x => x)
      have hlk := lookup_ss (P := Tryz.prog) tyHad tyString hma (zeroString _) k
      have NA := Lib.hid (NN.out.quiet ((Mod.refl NoB Wr).alloc (.cells #[.int .i64 op, .string k, .string vv, .string kt, .int .i64 most] 32)))
      have HMA := Lib.hid hma
      clear hma
      cases hg : SMap.get m k with
      | none =>
        rw [hg] at hlk
        have HGX : Hid (getS k xs = none) := Lib.hid (by rw [← HGT.out]; exact hg)
        clear hg
        have hop : op = 1 ∨ op = 3 ∨ op = 2 := by omega
        rcases hop with rfl | rfl | rfl
        · go_wp2_with fail
          refine (do_miss1 (st := stS) NA.out.1 k vv kt most c1 c2 (stS_at k) rfl HGX.out).mono ?_
          rintro e w5 ⟨rfl, hm5⟩
          have N8 := Lib.hid (NA.out.quiet hm5); have M8 := Lib.hid (HMA.out.mod hm5 (fun x => x)); have HP8 := HP; have HB8 := HBB; have HX8 := HX
          have HEQ : Hid ((xs.length : Int) = (m.length : Int)) := Lib.hid (by have := HLM.out; omega)
          have hA5 : w5.heap[Wr.heap.size]? = _ := (hm5.block _ (by simp) (fun x => x)).trans (heap_alloc_new Wr _)
          have qa0 : ∀ o1 o2, ((w5.alloc o1).alloc o2).cell? ⟨Wr.heap.size, 0, none⟩ = some (.int .i64 1) := fun o1 o2 => (((Mod.refl NoB w5).alloc o1).alloc o2).cellS (cell_of hA5 0 rfl)
          have qa1 : ∀ o1 o2, ((w5.alloc o1).alloc o2).cell? ⟨Wr.heap.size, 1, none⟩ = some (.string k) := fun o1 o2 => (((Mod.refl NoB w5).alloc o1).alloc o2).cellS (cell_of hA5 1 rfl)
          clear hm5 hA5
          dsimp only [encTold]
          go_wp2_with (first
            | (go_at_call 15; refine (sameTold_refl 6 0 ⟨#[]⟩ _).mono ?_; rintro en w9 ⟨rfl, hm9⟩; have HM9 := Lib.hid (show Mod NoB w5 w9 from Mod.trans (by repeat (first | exact Mod.refl _ _ | refine Mod.alloc ?_ _ | refine Mod.drew ?_ | refine Mod.drewN ?_ _)) hm9); have hlen9 := len_map (M8.out.mod HM9.out (fun x => x)); have heq9 : (xs.length : Int) = _ := HEQ.out; clear hm9)
            | (go_at_call 16; refine (hlenI (N8.out.quiet HM9.out).1).mono ?_; rintro en w10 ⟨rfl, rfl⟩))
          exact ⟨⟨j + 1, xs, B, m, by omega, by go_num, N8.out.quiet HM9.out, M8.out.mod HM9.out (fun x => x), HP8.out, HB8.out, HBW.out, HX8.out⟩, by simp [intOf]; omega⟩
        · go_wp2_with fail
          refine (do_miss3 (st := stS) NA.out.1 k vv kt most c1 c2 (stS_at k) rfl HGX.out).mono ?_
          rintro e w5 ⟨rfl, hm5⟩
          have N8 := Lib.hid (NA.out.quiet hm5); have M8 := Lib.hid (HMA.out.mod hm5 (fun x => x)); have HP8 := HP; have HB8 := HBB; have HX8 := HX
          have HEQ : Hid ((xs.length : Int) = (m.length : Int)) := Lib.hid (by have := HLM.out; omega)
          have hA5 : w5.heap[Wr.heap.size]? = _ := (hm5.block _ (by simp) (fun x => x)).trans (heap_alloc_new Wr _)
          have qa0 : ∀ o1 o2, ((w5.alloc o1).alloc o2).cell? ⟨Wr.heap.size, 0, none⟩ = some (.int .i64 3) := fun o1 o2 => (((Mod.refl NoB w5).alloc o1).alloc o2).cellS (cell_of hA5 0 rfl)
          have qa1 : ∀ o1 o2, ((w5.alloc o1).alloc o2).cell? ⟨Wr.heap.size, 1, none⟩ = some (.string k) := fun o1 o2 => (((Mod.refl NoB w5).alloc o1).alloc o2).cellS (cell_of hA5 1 rfl)
          clear hm5 hA5
          dsimp only [encTold]
          go_wp2_with (first
            | (go_at_call 15; refine (sameTold_refl 6 0 ⟨#[]⟩ _).mono ?_; rintro en w9 ⟨rfl, hm9⟩; have HM9 := Lib.hid (show Mod NoB w5 w9 from Mod.trans (by repeat (first | exact Mod.refl _ _ | refine Mod.alloc ?_ _ | refine Mod.drew ?_ | refine Mod.drewN ?_ _)) hm9); have hlen9 := len_map (M8.out.mod HM9.out (fun x => x)); have heq9 : (xs.length : Int) = _ := HEQ.out; clear hm9)
            | (go_at_call 16; refine (hlenI (N8.out.quiet HM9.out).1).mono ?_; rintro en w10 ⟨rfl, rfl⟩))
          exact ⟨⟨j + 1, xs, B, m, by omega, by go_num, N8.out.quiet HM9.out, M8.out.mod HM9.out (fun x => x), HP8.out, HB8.out, HBW.out, HX8.out⟩, by simp [intOf]; omega⟩
        · have hsp := stS_put (xs := xs) (v := vv) c1 c2 c3
          have HLK : b < Wr.heap.size := HMAP.out.lt
          go_wp2_with fail
          refine (do_put_any (st := stS) NA.out.1 k vv kt most (by omega) (by omega) (by have := HX.out; omega) (by decide) (by decide) (by decide)).mono ?_
          rintro e w5 ⟨rfl, B5, hh5, ht5⟩
          rw [hsp.1, hsp.2.1]
          rw [hsp.2.2] at hh5
          have hb5 : b ∉ B5 := fun hb => by
            rcases ht5.2 _ hb with h | h
            · exact HBB.out h
            · simp at h; omega
          have hM5 : MapAt w5 b m := HMA.out.mod ht5.1 HBB.out
          have hN5 := NA.out.turn hh5 ht5
          have hlt5 : b < w5.heap.size := hM5.lt
          have hA5 : w5.heap[Wr.heap.size]? = _ := (ht5.1.block _ (by simp) (fun hb => by have := NN.out.1.lts _ hb; omega)).trans (heap_alloc_new Wr _)
          have qa0 : ∀ o1 o2, ((w5.alloc o1).alloc o2).cell? ⟨Wr.heap.size, 0, none⟩ = some (.int .i64 2) := fun o1 o2 => (((Mod.refl NoB w5).alloc o1).alloc o2).cellS (cell_of hA5 0 rfl)
          have qa1 : ∀ o1 o2, ((w5.alloc o1).alloc o2).cell? ⟨Wr.heap.size, 1, none⟩ = some (.string k) := fun o1 o2 => (((Mod.refl NoB w5).alloc o1).alloc o2).cellS (cell_of hA5 1 rfl)
          have qa2 : ∀ o1 o2, ((w5.alloc o1).alloc o2).cell? ⟨Wr.heap.size, 2, none⟩ = some (.string vv) := fun o1 o2 => (((Mod.refl NoB w5).alloc o1).alloc o2).cellS (cell_of hA5 2 rfl)
          clear hA5
          have hHW : ∀ o1 o2, MapAt ((w5.alloc o1).alloc o2) b m := fun o1 o2 => hM5.mod (((Mod.refl NoB w5).alloc o1).alloc o2) (fun x => x)
          have hlen7 := fun o1 o2 => len_map (hHW o1 o2)
          by_cases hfull : 20 ≤ xs.length
          · have hso := stS_full (k := k) c3 HGX.out hfull
            have hf20 : (20 : Int) ≤ (m.length : Int) := by have := HLM.out; omega
            rw [hso.1]
            rw [hso.2] at hN5
            have N8 := Lib.hid hN5; have M8 := Lib.hid hM5; have HP8 := HP; have HB8 := Lib.hid hb5; have HX8 := HX
            have HEQ : Hid ((xs.length : Int) = (m.length : Int)) := Lib.hid (by have := HLM.out; omega)
            clear hN5 hM5 hh5 ht5 hb5 hHW hsp hso
            dsimp only [encTold]
            go_wp2_with (first
              | (go_at_call 15; refine (sameTold_refl 5 0 ⟨#[]⟩ _).mono ?_; rintro en w9 ⟨rfl, hm9⟩; have HM9 := Lib.hid (show Mod NoB w5 w9 from Mod.trans (by repeat (first | exact Mod.refl _ _ | refine Mod.alloc ?_ _ | refine Mod.drew ?_ | refine Mod.drewN ?_ _)) hm9); have hlen9 := len_map (M8.out.mod HM9.out (fun x => x)); have heq9 : (xs.length : Int) = _ := HEQ.out; clear hm9)
              | (go_at_call 16; refine (hlenI (N8.out.quiet HM9.out).1).mono ?_; rintro en w10 ⟨rfl, rfl⟩))
            exact ⟨⟨j + 1, xs, B5, m, by omega, by go_num, N8.out.quiet HM9.out, M8.out.mod HM9.out (fun x => x), HP8.out, HB8.out, HBW.out, HX8.out⟩, by simp [intOf]; omega⟩
          · have hf20 : ¬ (20 : Int) ≤ (m.length : Int) := by have := HLM.out; omega
            have hso := stS_open (xs := xs) (k := k) c3 (.inr (by omega))
            have hx8 : (if (getS k xs).isSome then setS k vv xs else insS (k, vv) xs).length ≤ 20 := by
              rw [HGX.out]
              simp only [Option.isSome_none, Bool.false_eq_true, if_false]
              rw [insS_length (x := (k, vv)) HRI.out HGX.out]
              omega
            rw [hso.1]
            rw [hso.2] at hN5
            have N5 := Lib.hid hN5; have HB8 := Lib.hid hb5
            have hperm8 := agree_put HP.out HRI.out k vv
            obtain ⟨w8, hrun, hm8, hmod8⟩ := update_ss (P := Tryz.prog) tyHad tyString (hHW (.cells #[.int .i64 0, .string ⟨#[]⟩, .slice none 0 0, .bool false, .string ⟨#[]⟩, .int .i64 0] 37) (.cells #[.int .i64 0, .string ⟨#[]⟩, .slice none 0 0, .bool false, .string ⟨#[]⟩, .int .i64 0] 37)) k vv
            obtain ⟨t1, t2, hm58⟩ := pair_kept hmod8 hlt5
            obtain ⟨a0, a1, a2, a3, a4, a5⟩ := told6 t1
            obtain ⟨d0, d1, d2, d3, d4, d5⟩ := told6 t2
            have N8 := Lib.hid (show NewI w1 w8 h stS _ B5 from ⟨N5.out.1.mod hm58 (fun g hg e => hb5 (e ▸ hg)), N5.out.2.1.then hm58 (fun q hq e => by have := HBW.out; omega), N5.out.2.2⟩)
            have M8 := Lib.hid hm8; have HP8 := Lib.hid hperm8
            have HX8 := Lib.hid hx8
            have HEQ : Hid (((if (getS k xs).isSome then setS k vv xs else insS (k, vv) xs).length : Int) = ((m.put k vv).length : Int)) := Lib.hid (by rw [hperm8.length_eq])
            have HRUN := Lib.hid hrun
            clear t1 t2 hm58 hm8 hmod8 hperm8 hN5 hM5 hh5 ht5 hb5 hx8 hHW hsp hso
            dsimp only [encTold]
            generalize hYS : (if (getS k xs).isSome then setS k vv xs else insS (k, vv) xs) = ys at *
            have HYS := Lib.hid hYS
            clear hYS
            have hrun2 := HRUN.out
            go_wp2_with (first
              | (go_at_call 15; refine (sameTold_refl 0 0 ⟨#[]⟩ _).mono ?_; rintro en w9 ⟨rfl, hm9⟩; have HM9 := Lib.hid (show Mod NoB w8 w9 from Mod.trans (by repeat (first | exact Mod.refl _ _ | refine Mod.alloc ?_ _ | refine Mod.drew ?_ | refine Mod.drewN ?_ _)) hm9); have hlen9 := len_map (M8.out.mod HM9.out (fun x => x)); have heq9 : (ys.length : Int) = _ := HEQ.out; clear hm9)
              | (go_at_call 16; refine (hlenI (N8.out.quiet HM9.out).1).mono ?_; rintro en w10 ⟨rfl, rfl⟩))
            exact ⟨⟨j + 1, ys, B5, (m.put k vv), by omega, by go_num, N8.out.quiet HM9.out, M8.out.mod HM9.out (fun x => x), HP8.out, HB8.out, HBW.out, HX8.out⟩, by simp [intOf]; omega⟩
      | some u =>
        rw [hg] at hlk
        have HGX : Hid (getS k xs = some u) := Lib.hid (by rw [← HGT.out]; exact hg)
        clear hg
        have hop : op = 1 ∨ op = 3 ∨ op = 2 := by omega
        rcases hop with rfl | rfl | rfl
        · go_wp2_with fail
          refine (do_get_in (st := stS) NA.out.1 k vv kt most c1 c2 (stS_at k) rfl HGX.out).mono ?_
          rintro e w5 ⟨rfl, hm5⟩
          have N8 := Lib.hid (NA.out.quiet hm5); have M8 := Lib.hid (HMA.out.mod hm5 (fun x => x)); have HP8 := HP; have HB8 := HBB; have HX8 := HX
          have HEQ : Hid ((xs.length : Int) = (m.length : Int)) := Lib.hid (by have := HLM.out; omega)
          have hA5 : w5.heap[Wr.heap.size]? = _ := (hm5.block _ (by simp) (fun x => x)).trans (heap_alloc_new Wr _)
          have qa0 : ∀ o1 o2, ((w5.alloc o1).alloc o2).cell? ⟨Wr.heap.size, 0, none⟩ = some (.int .i64 1) := fun o1 o2 => (((Mod.refl NoB w5).alloc o1).alloc o2).cellS (cell_of hA5 0 rfl)
          have qa1 : ∀ o1 o2, ((w5.alloc o1).alloc o2).cell? ⟨Wr.heap.size, 1, none⟩ = some (.string k) := fun o1 o2 => (((Mod.refl NoB w5).alloc o1).alloc o2).cellS (cell_of hA5 1 rfl)
          clear hm5 hA5
          dsimp only [encTold]
          go_wp2_with (first
            | (go_at_call 15; refine (sameTold_refl 0 0 u _).mono ?_; rintro en w9 ⟨rfl, hm9⟩; have HM9 := Lib.hid (show Mod NoB w5 w9 from Mod.trans (by repeat (first | exact Mod.refl _ _ | refine Mod.alloc ?_ _ | refine Mod.drew ?_ | refine Mod.drewN ?_ _)) hm9); have hlen9 := len_map (M8.out.mod HM9.out (fun x => x)); have heq9 : (xs.length : Int) = _ := HEQ.out; clear hm9)
            | (go_at_call 16; refine (hlenI (N8.out.quiet HM9.out).1).mono ?_; rintro en w10 ⟨rfl, rfl⟩))
          exact ⟨⟨j + 1, xs, B, m, by omega, by go_num, N8.out.quiet HM9.out, M8.out.mod HM9.out (fun x => x), HP8.out, HB8.out, HBW.out, HX8.out⟩, by simp [intOf]; omega⟩
        · have HLK : b < Wr.heap.size := HMAP.out.lt
          go_wp2_with fail
          refine (do_del_in (st := stS) NA.out.1 k vv kt most (by have := HX.out; omega) c1 c2 (stS_at k) rfl HGX.out).mono ?_
          rintro e w5 ⟨rfl, B5, hh5, ht5⟩
          have hb5 : b ∉ B5 := fun hb => by
            rcases ht5.2 _ hb with h | h
            · exact HBB.out h
            · simp at h; omega
          have hM5 : MapAt w5 b m := HMA.out.mod ht5.1 HBB.out
          have hN5 := NA.out.turn hh5 ht5
          have hlt5 : b < w5.heap.size := hM5.lt
          have hA5 : w5.heap[Wr.heap.size]? = _ := (ht5.1.block _ (by simp) (fun hb => by have := NN.out.1.lts _ hb; omega)).trans (heap_alloc_new Wr _)
          have qa0 : ∀ o1 o2, ((w5.alloc o1).alloc o2).cell? ⟨Wr.heap.size, 0, none⟩ = some (.int .i64 3) := fun o1 o2 => (((Mod.refl NoB w5).alloc o1).alloc o2).cellS (cell_of hA5 0 rfl)
          have qa1 : ∀ o1 o2, ((w5.alloc o1).alloc o2).cell? ⟨Wr.heap.size, 1, none⟩ = some (.string k) := fun o1 o2 => (((Mod.refl NoB w5).alloc o1).alloc o2).cellS (cell_of hA5 1 rfl)
          have hMW : MapAt ((w5.alloc (.cells #[.int .i64 0, .string ⟨#[]⟩, .slice none 0 0, .bool false, .string ⟨#[]⟩, .int .i64 0] 37)).alloc (.cells #[.int .i64 0, .string ⟨#[]⟩, .slice none 0 0, .bool false, .string ⟨#[]⟩, .int .i64 0] 37)) b m := hM5.mod (((Mod.refl NoB w5).alloc _).alloc _) (fun x => x)
          obtain ⟨w8, hrun, hm8, hmod8⟩ := delete_ss (P := Tryz.prog) tyHad tyString hMW k 9 0
          obtain ⟨t1, t2, hm58⟩ := pair_kept hmod8 hlt5
          obtain ⟨a0, a1, a2, a3, a4, a5⟩ := told6 t1
          obtain ⟨d0, d1, d2, d3, d4, d5⟩ := told6 t2
          have N8 := Lib.hid (show NewI w1 w8 h stS _ B5 from ⟨hN5.1.mod hm58 (fun g hg e => hb5 (e ▸ hg)), hN5.2.1.then hm58 (fun q hq e => by have := HBW.out; omega), hN5.2.2⟩)
          have M8 := Lib.hid hm8; have HP8 := Lib.hid (agree_del HP.out k); have HB8 := Lib.hid hb5
          have HX8 : Hid ((delS k xs).length ≤ 20) := Lib.hid (Nat.le_trans (delS_le k xs) HX.out)
          have HEQ : Hid (((delS k xs).length : Int) = ((m.del k).length : Int)) := Lib.hid (by rw [(agree_del HP.out k).length_eq])
          clear t1 t2 hm58 hm8 hmod8 hN5 hM5 hh5 ht5 hb5 hMW hA5
          dsimp only [encTold]
          generalize hYS : delS k xs = ys at *
          have HYS := Lib.hid hYS
          clear hYS
          go_wp2_with (first
            | (go_at_call 15; refine (sameTold_refl 0 0 ⟨#[]⟩ _).mono ?_; rintro en w9 ⟨rfl, hm9⟩; have HM9 := Lib.hid (show Mod NoB w8 w9 from Mod.trans (by repeat (first | exact Mod.refl _ _ | refine Mod.alloc ?_ _ | refine Mod.drew ?_ | refine Mod.drewN ?_ _)) hm9); have hlen9 := len_map (M8.out.mod HM9.out (fun x => x)); have heq9 : (ys.length : Int) = _ := HEQ.out; clear hm9)
            | (go_at_call 16; refine (hlenI (N8.out.quiet HM9.out).1).mono ?_; rintro en w10 ⟨rfl, rfl⟩))
          exact ⟨⟨j + 1, ys, B5, (m.del k), by omega, by go_num, N8.out.quiet HM9.out, M8.out.mod HM9.out (fun x => x), HP8.out, HB8.out, HBW.out, HX8.out⟩, by simp [intOf]; omega⟩
        · have hsp := stS_put (xs := xs) (v := vv) c1 c2 c3
          have HLK : b < Wr.heap.size := HMAP.out.lt
          go_wp2_with fail
          refine (do_put_any (st := stS) NA.out.1 k vv kt most (by omega) (by omega) (by have := HX.out; omega) (by decide) (by decide) (by decide)).mono ?_
          rintro e w5 ⟨rfl, B5, hh5, ht5⟩
          rw [hsp.1, hsp.2.1]
          rw [hsp.2.2] at hh5
          have hb5 : b ∉ B5 := fun hb => by
            rcases ht5.2 _ hb with h | h
            · exact HBB.out h
            · simp at h; omega
          have hM5 : MapAt w5 b m := HMA.out.mod ht5.1 HBB.out
          have hN5 := NA.out.turn hh5 ht5
          have hlt5 : b < w5.heap.size := hM5.lt
          have hA5 : w5.heap[Wr.heap.size]? = _ := (ht5.1.block _ (by simp) (fun hb => by have := NN.out.1.lts _ hb; omega)).trans (heap_alloc_new Wr _)
          have qa0 : ∀ o1 o2, ((w5.alloc o1).alloc o2).cell? ⟨Wr.heap.size, 0, none⟩ = some (.int .i64 2) := fun o1 o2 => (((Mod.refl NoB w5).alloc o1).alloc o2).cellS (cell_of hA5 0 rfl)
          have qa1 : ∀ o1 o2, ((w5.alloc o1).alloc o2).cell? ⟨Wr.heap.size, 1, none⟩ = some (.string k) := fun o1 o2 => (((Mod.refl NoB w5).alloc o1).alloc o2).cellS (cell_of hA5 1 rfl)
          have qa2 : ∀ o1 o2, ((w5.alloc o1).alloc o2).cell? ⟨Wr.heap.size, 2, none⟩ = some (.string vv) := fun o1 o2 => (((Mod.refl NoB w5).alloc o1).alloc o2).cellS (cell_of hA5 2 rfl)
          clear hA5
          have hHW : ∀ o1 o2, MapAt ((w5.alloc o1).alloc o2) b m := fun o1 o2 => hM5.mod (((Mod.refl NoB w5).alloc o1).alloc o2) (fun x => x)
          have hlen7 := fun o1 o2 => len_map (hHW o1 o2)
          have hso := stS_open (xs := xs) (k := k) c3 (.inl (by rw [HGX.out]; rfl))
          have hx8 : (if (getS k xs).isSome then setS k vv xs else insS (k, vv) xs).length ≤ 20 := by
            rw [HGX.out]
            simp only [Option.isSome_some, if_true]
            rw [setS_length]
            exact HX.out
          rw [hso.1]
          rw [hso.2] at hN5
          have N5 := Lib.hid hN5; have HB8 := Lib.hid hb5
          have hperm8 := agree_put HP.out HRI.out k vv
          obtain ⟨w8, hrun, hm8, hmod8⟩ := update_ss (P := Tryz.prog) tyHad tyString (hHW (.cells #[.int .i64 0, .string ⟨#[]⟩, .slice none 0 0, .bool false, .string ⟨#[]⟩, .int .i64 0] 37) (.cells #[.int .i64 0, .string ⟨#[]⟩, .slice none 0 0, .bool false, .string ⟨#[]⟩, .int .i64 0] 37)) k vv
          obtain ⟨t1, t2, hm58⟩ := pair_kept hmod8 hlt5
          obtain ⟨a0, a1, a2, a3, a4, a5⟩ := told6 t1
          obtain ⟨d0, d1, d2, d3, d4, d5⟩ := told6 t2
          have N8 := Lib.hid (show NewI w1 w8 h stS _ B5 from ⟨N5.out.1.mod hm58 (fun g hg e => hb5 (e ▸ hg)), N5.out.2.1.then hm58 (fun q hq e => by have := HBW.out; omega), N5.out.2.2⟩)
          have M8 := Lib.hid hm8; have HP8 := Lib.hid hperm8
          have HX8 := Lib.hid hx8
          have HEQ : Hid (((if (getS k xs).isSome then setS k vv xs else insS (k, vv) xs).length : Int) = ((m.put k vv).length : Int)) := Lib.hid (by rw [hperm8.length_eq])
          have HRUN := Lib.hid hrun
          clear t1 t2 hm58 hm8 hmod8 hperm8 hN5 hM5 hh5 ht5 hb5 hx8 hHW hsp hso
          dsimp only [encTold]
          generalize hYS : (if (getS k xs).isSome then setS k vv xs else insS (k, vv) xs) = ys at *
          have HYS := Lib.hid hYS
          clear hYS
          have hrun2 := HRUN.out
          go_wp2_with (first
            | (go_at_call 15; refine (sameTold_refl 0 0 ⟨#[]⟩ _).mono ?_; rintro en w9 ⟨rfl, hm9⟩; have HM9 := Lib.hid (show Mod NoB w8 w9 from Mod.trans (by repeat (first | exact Mod.refl _ _ | refine Mod.alloc ?_ _ | refine Mod.drew ?_ | refine Mod.drewN ?_ _)) hm9); have hlen9 := len_map (M8.out.mod HM9.out (fun x => x)); have heq9 : (ys.length : Int) = _ := HEQ.out; clear hm9)
            | (go_at_call 16; refine (hlenI (N8.out.quiet HM9.out).1).mono ?_; rintro en w10 ⟨rfl, rfl⟩))
          exact ⟨⟨j + 1, ys, B5, (m.put k vv), by omega, by go_num, N8.out.quiet HM9.out, M8.out.mod HM9.out (fun x => x), HP8.out, HB8.out, HBW.out, HX8.out⟩, by simp [intOf]; omega⟩
    · obtain rfl : j = l.length := by omega
      have hfin : Mod NoB w Wr := M1.out.trans hN.2.1
      go_wp2_with fail
      go_ret
      exact ⟨rfl, hfin⟩
end Go.Proofs.YtmagddchjidamaaGreatDoor
