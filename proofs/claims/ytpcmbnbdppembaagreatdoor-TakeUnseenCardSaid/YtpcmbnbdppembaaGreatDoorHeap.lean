/- Words for memory: what a call may have turned (Mod); a map from texts to texts (MapAt) and what a look-up, a store, a delete do to it. -/
import Derived.Test.YtpcmbnbdppembaaGreatDoorProg
import Derived.WalkKit
import Derived.ProofKit
import Derived.Lib.Hide
import Derived.Deep.Draws
import Derived.Maps.RangeRun
namespace Go.Proofs.YtpcmbnbdppembaaGreatDoor
set_option linter.unusedSimpArgs false
set_option linter.unusedVariables false
open Go.RowKit

/-- What lay in w, but for the blocks of S, lies in w' as it did; new blocks may have come. -/
structure Mod (S : Nat → Prop) (w w' : World) : Prop where
  os : w'.os = w.os
  tape : w'.tape = w.tape
  output : w'.output = w.output
  size : w.heap.size ≤ w'.heap.size
  block : ∀ k, k < w.heap.size → ¬ S k → w'.heap[k]? = w.heap[k]?

/-- nothing that lay there may have been turned -/
def NoB : Nat → Prop := fun _ => False

theorem Mod.refl (S : Nat → Prop) (w : World) : Mod S w w := ⟨rfl, rfl, rfl, Nat.le_refl _, fun _ _ _ => rfl⟩
theorem Mod.trans {S : Nat → Prop} {a b c : World} (h : Mod S a b) (k : Mod S b c) : Mod S a c :=
  ⟨k.os.trans h.os, k.tape.trans h.tape, k.output.trans h.output, Nat.le_trans h.size k.size, fun i hi hn => (k.block i (Nat.lt_of_lt_of_le hi h.size) hn).trans (h.block i hi hn)⟩
theorem Mod.mono {S S' : Nat → Prop} {a b : World} (h : Mod S a b) (hs : ∀ k, k < a.heap.size → S k → S' k) : Mod S' a b :=
  ⟨h.os, h.tape, h.output, h.size, fun i hi hn => h.block i hi (fun x => hn (hs i hi x))⟩
/-- what a later call may turn: S, or what came since -/
theorem Mod.then {S S' : Nat → Prop} {a b c : World} (h : Mod S a b) (k : Mod S' b c) (hs : ∀ k, k < a.heap.size → S' k → S k) : Mod S a c :=
  ⟨k.os.trans h.os, k.tape.trans h.tape, k.output.trans h.output, Nat.le_trans h.size k.size, fun i hi hn => (k.block i (Nat.lt_of_lt_of_le hi h.size) (fun x => hn (hs i hi x))).trans (h.block i hi hn)⟩
theorem Mod.alloc {S : Nat → Prop} {a w : World} (h : Mod S a w) (o : Obj) : Mod S a (w.alloc o) :=
  h.trans ⟨rfl, rfl, rfl, by simp, fun k hk _ => Below.heap_alloc _ _ _ hk⟩
theorem Mod.setCell {S : Nat → Prop} {a w : World} (h : Mod S a w) {p : Addr} (hp : p.block < a.heap.size → S p.block) (u : Value) : Mod S a (w.setCell p u) :=
  ⟨h.os, h.tape, h.output, by simpa [World.setCell] using h.size, fun k hk hn => (Below.heap_setCell _ _ _ _ (fun e => hn (by subst e; exact hp hk))).trans (h.block k hk hn)⟩
theorem Mod.drew {S : Nat → Prop} {a w : World} (h : Mod S a w) : Mod S a w.drew := ⟨h.os, h.tape, h.output, h.size, h.block⟩
theorem Mod.drewN {S : Nat → Prop} {a w : World} (h : Mod S a w) (n : Nat) : Mod S a (w.drewN n) := ⟨h.os, h.tape, h.output, h.size, h.block⟩
theorem Mod.below {S : Nat → Prop} {a w : World} {B : Nat} (h : Mod S a w) (hB : B ≤ a.heap.size) (hS : ∀ k, S k → B ≤ k) : Below B a w :=
  ⟨h.os, h.tape, h.output, h.size, fun k hk => h.block k (by omega) (fun x => by have := hS k x; omega)⟩
theorem Mod.below_self {a w : World} (h : Mod NoB a w) : Below a.heap.size a w := h.below (Nat.le_refl _) (fun _ x => x.elim)
theorem Mod.of_below {S : Nat → Prop} {a w : World} (h : Below a.heap.size a w) : Mod S a w := ⟨h.os, h.tape, h.output, h.size, fun k hk _ => h.block k hk⟩
theorem Mod.cell {S : Nat → Prop} {w w' : World} (h : Mod S w w') {p : Addr} (hp : p.block < w.heap.size) (hn : ¬ S p.block) : w'.cell? p = w.cell? p := World.cell?_of_block (w := w) (h.block p.block hp hn)
theorem Mod.frozen {S : Nat → Prop} {w w' : World} (h : Mod S w w') {p : Addr} (hp : p.block < w.heap.size) (hn : ¬ S p.block) : w'.frozen? p = w.frozen? p := World.frozen?_of_block (w := w) (h.block p.block hp hn)

theorem beqd (a b : ByteArray) : (a == b) = decide (a = b) := by
  rw [Bool.eq_iff_iff, decide_eq_true_eq]
  exact MapKept.bytes_beq a b

/-! ### A map from texts to texts -/
abbrev SMap := List (ByteArray × ByteArray)
def SMap.get (m : SMap) (k : ByteArray) : Option ByteArray := (m.find? (fun x => decide (x.1 = k))).map (·.2)
def SMap.put (m : SMap) (k v : ByteArray) : SMap := if m.any (fun x => decide (x.1 = k)) then m.map (fun x => if x.1 = k then (k, v) else x) else m ++ [(k, v)]
def SMap.del (m : SMap) (k : ByteArray) : SMap := m.filter (fun x => !decide (x.1 = k))

structure MapRep (es : Array MapEntry) (clock : Nat) (m : SMap) : Prop where
  ents : es.toList.map (fun e => (e.key, e.val)) = m.map (fun x => (Value.string x.1, Value.string x.2))
  nodup : (m.map (·.1)).Nodup
  born : ∀ e ∈ es.toList, e.born < clock
  distinct : (es.toList.map (·.born)).Nodup

def MapAt (w : World) (b : Nat) (m : SMap) : Prop := ∃ es clock, w.heap[b]? = some (.map es clock) ∧ MapRep es clock m

/-- the world with another object in a block -/
def putO (w : World) (b : Nat) (o : Obj) : World := { w with heap := w.heap.setIfInBounds b o }

theorem MapAt.lt {w : World} {b : Nat} {m : SMap} (h : MapAt w b m) : b < w.heap.size := by
  obtain ⟨es, c, h, _⟩ := h
  exact (Array.getElem?_eq_some_iff.1 h).1

theorem MapAt.kept {w w' : World} {b : Nat} {m : SMap} (h : MapAt w b m) (hb : w'.heap[b]? = w.heap[b]?) : MapAt w' b m := by
  obtain ⟨es, c, h, r⟩ := h
  exact ⟨es, c, hb.trans h, r⟩

theorem MapAt.mod {S : Nat → Prop} {w w' : World} {b : Nat} {m : SMap} (h : MapAt w b m) (hm : Mod S w w') (hn : ¬ S b) : MapAt w' b m := h.kept (hm.block b h.lt hn)

theorem MapAt.made (w : World) : MapAt (w.alloc (.map #[] 0)) w.heap.size [] :=
  ⟨#[], 0, (MapKept.heap_alloc w _).1, ⟨rfl, List.nodup_nil, by simp, List.nodup_nil⟩⟩

theorem findNow_none {k : ByteArray} : (es : List MapEntry) → (m : SMap) → (i : Nat) → es.map (fun e => (e.key, e.val)) = m.map (fun x => (Value.string x.1, Value.string x.2)) → m.get k = none →
    Instr.findNow .string (.string k) es i = some none
  | [], _, _, _, _ => rfl
  | e :: es, [], _, h, _ => by simp at h
  | e :: es, x :: m, i, h, hg => by
    simp only [List.map_cons, List.cons.injEq, Prod.mk.injEq] at h
    obtain ⟨⟨hk, hv⟩, ht⟩ := h
    have hx : ¬ x.1 = k := fun hx => by simp [SMap.get, hx] at hg
    have hg' : SMap.get m k = none := by simpa [SMap.get, hx] using hg
    have hkx : (k == x.1) = false := by rw [beqd]; exact decide_eq_false (fun e => hx e.symm)
    unfold Instr.findNow
    rw [hk]
    simp only [Instr.sameNow, hkx]
    exact findNow_none es m (i + 1) ht hg'

theorem findNow_some {k v : ByteArray} : (es : List MapEntry) → (m : SMap) → (i : Nat) → es.map (fun e => (e.key, e.val)) = m.map (fun x => (Value.string x.1, Value.string x.2)) → m.get k = some v →
    ∃ j, j < es.length ∧ (es[j]?.map (·.key)) = some (.string k) ∧ (∀ i, i < j → ∀ x, m[i]? = some x → ¬ x.1 = k) ∧ m[j]? = some (k, v) ∧ Instr.findNow .string (.string k) es i = some (some (i + j, .string v))
  | [], [], _, _, hg => by simp [SMap.get] at hg
  | [], x :: m, _, h, _ => by simp at h
  | e :: es, [], _, h, _ => by simp at h
  | e :: es, x :: m, i, h, hg => by
    simp only [List.map_cons, List.cons.injEq, Prod.mk.injEq] at h
    obtain ⟨⟨hk, hv⟩, ht⟩ := h
    by_cases hx : x.1 = k
    · have hv2 : x.2 = v := by simpa [SMap.get, hx] using hg
      refine ⟨0, by simp, by simp [hk, hx], fun i hi => absurd hi (by omega), by simp [← hx, ← hv2], ?_⟩
      unfold Instr.findNow
      rw [hk, hv]
      have : (k == x.1) = true := by rw [beqd]; exact decide_eq_true hx.symm
      simp only [Instr.sameNow, this, hv2, Nat.add_zero]
    · have hg' : SMap.get m k = some v := by simpa [SMap.get, hx] using hg
      have hkx : (k == x.1) = false := by rw [beqd]; exact decide_eq_false (fun e => hx e.symm)
      obtain ⟨j, hj, hjk, hjl, hjm, hf⟩ := findNow_some es m (i + 1) ht hg'
      refine ⟨j + 1, by simp; omega, by simpa using hjk, fun i' hi' x' hx' => ?_, by simpa using hjm, ?_⟩
      · cases i' with
        | zero => simp at hx'; subst hx'; exact hx
        | succ i' => exact hjl i' (by omega) x' (by simpa using hx')
      · unfold Instr.findNow
        rw [hk]
        simp only [Instr.sameNow, hkx, hf]
        congr 3
        omega

theorem get_none_any {m : SMap} {k : ByteArray} (h : m.get k = none) : ∀ x ∈ m, ¬ x.1 = k := by
  intro x hx e
  simp only [SMap.get, Option.map_eq_none_iff, List.find?_eq_none] at h
  exact h x hx (by simpa using e)

theorem put_new {m : SMap} {k v : ByteArray} (h : m.get k = none) : m.put k v = m ++ [(k, v)] := by
  unfold SMap.put
  rw [if_neg]
  intro hany
  obtain ⟨x, hx, e⟩ := List.any_eq_true.1 hany
  exact get_none_any h x hx (by simpa using e)

theorem put_old {m : SMap} {k v u : ByteArray} (h : m.get k = some u) : m.put k v = m.map (fun x => if x.1 = k then (k, v) else x) := by
  unfold SMap.put
  rw [if_pos]
  rw [List.any_eq_true]
  simp only [SMap.get, Option.map_eq_some_iff] at h
  obtain ⟨x, hx, _⟩ := h
  exact ⟨x, List.mem_of_find?_eq_some hx, by have := List.find?_some hx; simpa using this⟩

section
variable {P : Program} {T K E : TypeId}

theorem checkKey_s (hK : P.underlying K = some .string) (e : Bool) (n : Nat) (k : ByteArray) (w : World) : (Instr.checkKey e (n + 1) K (.string k)).run P w = .ok () w := by
  simp [Instr.checkKey, run_underlying hK]

theorem lookup_ss (hT : P.underlying T = some (.map K E)) (hK : P.underlying K = some .string) {w : World} {b : Nat} {m : SMap} (h : MapAt w b m)
    (hz : (zeroValue E).run P w = .ok (.string ⟨#[]⟩) w) (k : ByteArray) :
    (Instr.lookup T (.map (some b)) (.string k) true).run P w = .ok (.tuple #[.string ((m.get k).getD ⟨#[]⟩), .bool (m.get k).isSome]) w := by
  obtain ⟨es, c, hb, r⟩ := h
  have hck := checkKey_s (P := P) hK es.isEmpty 9999 k w
  cases hg : m.get k with
  | none =>
    have hf := findNow_none es.toList m 0 r.ents hg
    simp [Instr.lookup, run_underlying hT, MapKept.run_getObj_map hb, hck, Instr.findKey, run_underlying hK, hf, hz, Result.andThen]
  | some v =>
    obtain ⟨j, hj, hjk, _, _, hf⟩ := findNow_some es.toList m 0 r.ents hg
    simp [Instr.lookup, run_underlying hT, MapKept.run_getObj_map hb, hck, Instr.findKey, run_underlying hK, hf, Result.andThen]

theorem putObj_mod (w : World) (b : Nat) (o : Obj) : Mod (· = b) w (putO w b o) :=
  ⟨rfl, rfl, rfl, by simp [putO], fun k _ hn => by
    simp only [putO, Array.getElem?_setIfInBounds]
    rw [if_neg (fun e => hn e.symm)]⟩

theorem putObj_at {w : World} {b : Nat} {o o' : Obj} (h : w.heap[b]? = some o') : (putO w b o).heap[b]? = some o := by
  have := (Array.getElem?_eq_some_iff.1 h).1
  simp [putO, this]

theorem setObj_run {w : World} {b : Nat} {es : Array MapEntry} {c : Nat} (h : w.heap[b]? = some (.map es c)) (o : Obj) : (setObj b o).run P w = .ok () (putO w b o) := by
  simp [setObj, Sem.run, h, putO]

theorem rep_key {es : Array MapEntry} {c : Nat} {m : SMap} (r : MapRep es c m) {j : Nat} {x : ByteArray × ByteArray} (h : m[j]? = some x) : ∃ e, es[j]? = some e ∧ e.key = .string x.1 ∧ e.val = .string x.2 := by
  have h1 : (es.toList.map (fun e => (e.key, e.val)))[j]? = (m.map (fun x => (Value.string x.1, Value.string x.2)))[j]? := by rw [r.ents]
  rw [List.getElem?_map, List.getElem?_map, h] at h1
  simp only [Array.getElem?_toList, Option.map_some, Option.map_eq_some_iff, Prod.mk.injEq] at h1
  obtain ⟨e, he, h2⟩ := h1
  exact ⟨e, he, h2⟩

theorem update_ss (hT : P.underlying T = some (.map K E)) (hK : P.underlying K = some .string) {w : World} {b : Nat} {m : SMap} (h : MapAt w b m) (k v : ByteArray) :
    ∃ w', (Instr.mapUpdate T (.map (some b)) (.string k) (.string v)).run P w = .ok () w' ∧ MapAt w' b (m.put k v) ∧ Mod (· = b) w w' := by
  obtain ⟨es, c, hb, r⟩ := h
  have hck := checkKey_s (P := P) hK false 9999 k w
  cases hg : m.get k with
  | none =>
    have hf := findNow_none es.toList m 0 r.ents hg
    refine ⟨putO w b (.map (es.push { key := .string k, val := .string v, born := c }) (c + 1)), ?_, ?_, putObj_mod _ _ _⟩
    · simp [Instr.mapUpdate, run_underlying hT, MapKept.run_getObj_map hb, hck, Instr.findKey, run_underlying hK, hf, setObj_run hb, Result.andThen]
    · refine ⟨_, _, putObj_at hb, ?_⟩
      rw [put_new hg]
      refine ⟨by simp [r.ents], ?_, ?_, ?_⟩
      · rw [List.map_append, List.nodup_append]
        refine ⟨r.nodup, by simp, fun x hx y hy => ?_⟩
        simp only [List.map_cons, List.map_nil, List.mem_singleton] at hy
        obtain ⟨z, hz, rfl⟩ := List.mem_map.1 hx
        subst hy
        exact get_none_any hg z hz
      · intro e he
        simp only [Array.toList_push, List.mem_append, List.mem_singleton] at he
        rcases he with he | rfl
        · exact Nat.lt_succ_of_lt (r.born e he)
        · exact Nat.lt_succ_self _
      · rw [Array.toList_push, List.map_append, List.nodup_append]
        refine ⟨r.distinct, by simp, fun x hx y hy => ?_⟩
        simp only [List.map_cons, List.map_nil, List.mem_singleton] at hy
        obtain ⟨z, hz, rfl⟩ := List.mem_map.1 hx
        subst hy
        exact Nat.ne_of_lt (r.born z hz)
  | some u =>
    obtain ⟨j, hj, hjk, hjl, hjm, hf⟩ := findNow_some es.toList m 0 r.ents hg
    obtain ⟨e, he, hek, hev⟩ := rep_key r hjm
    have hks : (Instr.keyThatStays (.string k) (.string k)).run P w = .ok (.string k) w := by
      have : Instr.sameBits 10000 (.string k) (.string k) = true := MapKept.sameBits_self (d := .string) (k := .string k) trivial 10000
      unfold Instr.keyThatStays
      rw [if_pos this]
      rfl
    refine ⟨putO w b (.map (es.modify j fun e => { e with key := .string k, val := .string v }) c), ?_, ?_, putObj_mod _ _ _⟩
    · simp [Instr.mapUpdate, run_underlying hT, MapKept.run_getObj_map hb, hck, Instr.findKey, run_underlying hK, hf, setObj_run hb, Result.andThen, he, hek, hks]
    · refine ⟨_, _, putObj_at hb, ?_⟩
      rw [put_old hg]
      have hborn : (es.modify j fun e => { e with key := .string k, val := .string v }).toList.map (·.born) = es.toList.map (·.born) := by
        apply List.ext_getElem?
        intro i
        simp only [List.getElem?_map, Array.getElem?_toList, Array.getElem?_modify]
        split
        · cases es[i]? <;> rfl
        · rfl
      refine ⟨?_, ?_, ?_, ?_⟩
      · apply List.ext_getElem?
        intro i
        have h0 : (es.toList.map (fun e => (e.key, e.val)))[i]? = (m.map (fun x => (Value.string x.1, Value.string x.2)))[i]? := by rw [r.ents]
        simp only [List.getElem?_map, Array.getElem?_toList, Array.getElem?_modify, Option.map_map] at h0 ⊢
        by_cases hij : j = i
        · subst hij
          simp [he, hjm]
        · rw [if_neg hij, h0]
          cases hm : m[i]? with
          | none => rfl
          | some x =>
            have hx : ¬ x.1 = k := by
              intro e2
              have h1 : (m.map (·.1))[i]? = some k := by simp [hm, e2]
              have h2 : (m.map (·.1))[j]? = some k := by simp [hjm]
              exact hij ((List.getElem?_inj (List.getElem?_eq_some_iff.1 h2).1 r.nodup).1 (h2.trans h1.symm))
            simp [hx]
      · have : (m.map (fun x => if x.1 = k then (k, v) else x)).map (·.1) = m.map (·.1) := by
          rw [List.map_map]
          apply List.map_congr_left
          intro x _
          by_cases hx : x.1 = k <;> simp [hx]
        rw [this]
        exact r.nodup
      · intro e' he'
        have : e'.born ∈ es.toList.map (·.born) := by rw [← hborn]; exact List.mem_map_of_mem he'
        obtain ⟨z, hz, hzb⟩ := List.mem_map.1 this
        rw [← hzb]
        exact r.born z hz
      · rw [hborn]; exact r.distinct

theorem del_none {m : SMap} {k : ByteArray} (h : m.get k = none) : m.del k = m := by
  unfold SMap.del
  rw [List.filter_eq_self]
  intro x hx
  have := get_none_any h x hx
  simp [this]

theorem del_some : {m : SMap} → {k v : ByteArray} → {j : Nat} → (m.map (·.1)).Nodup → m[j]? = some (k, v) → m.del k = m.eraseIdx j
  | [], _, _, _, _, h => by simp at h
  | x :: m, k, v, 0, hn, h => by
    simp only [List.getElem?_cons_zero, Option.some.injEq] at h
    subst h
    simp only [List.map_cons, List.nodup_cons] at hn
    have : SMap.del m k = m := by
      unfold SMap.del
      rw [List.filter_eq_self]
      intro x hx
      have : ¬ x.1 = k := fun e => hn.1 (e ▸ List.mem_map_of_mem hx)
      simp [this]
    unfold SMap.del at this ⊢
    simp [this]
  | x :: m, k, v, j + 1, hn, h => by
    simp only [List.getElem?_cons_succ] at h
    simp only [List.map_cons, List.nodup_cons] at hn
    have hx : ¬ x.1 = k := fun e => hn.1 (by
      rw [e]
      exact List.mem_map.2 ⟨(k, v), List.mem_of_getElem? h, rfl⟩)
    have := del_some (m := m) hn.2 h
    unfold SMap.del at this ⊢
    simp [hx, this]

theorem map_eraseIdx {α β : Type} (f : α → β) : (l : List α) → (j : Nat) → (l.eraseIdx j).map f = (l.map f).eraseIdx j
  | [], _ => rfl
  | _ :: _, 0 => rfl
  | x :: l, j + 1 => by simp [map_eraseIdx f l j]

theorem delete_ss (hT : P.underlying T = some (.map K E)) (hK : P.underlying K = some .string) {w : World} {b : Nat} {m : SMap} (h : MapAt w b m) (k : ByteArray) (t1 t2 : TypeId) :
    ∃ w', (Builtin.delete_ #[T, t1] t2 #[.map (some b), .string k]).run P w = .ok (.tuple #[]) w' ∧ MapAt w' b (m.del k) ∧ Mod (· = b) w w' := by
  obtain ⟨es, c, hb, r⟩ := h
  have hck := checkKey_s (P := P) hK es.isEmpty 9999 k w
  cases hg : m.get k with
  | none =>
    have hf := findNow_none es.toList m 0 r.ents hg
    refine ⟨putO w b (.map es c), ?_, ?_, putObj_mod _ _ _⟩
    · simp [Builtin.delete_, run_underlying hT, MapKept.run_getObj_map hb, hck, Instr.findKey, run_underlying hK, hf, setObj_run hb, Result.andThen]
    · rw [del_none hg]
      exact ⟨_, _, putObj_at hb, r⟩
  | some u =>
    obtain ⟨j, hj, hjk, hjl, hjm, hf⟩ := findNow_some es.toList m 0 r.ents hg
    refine ⟨putO w b (.map (es.eraseIdxIfInBounds j) c), ?_, ?_, putObj_mod _ _ _⟩
    · simp [Builtin.delete_, run_underlying hT, MapKept.run_getObj_map hb, hck, Instr.findKey, run_underlying hK, hf, setObj_run hb, Result.andThen]
    · rw [del_some r.nodup hjm]
      have hj' : j < es.size := by simpa using hj
      have hl : (es.eraseIdxIfInBounds j).toList = es.toList.eraseIdx j := by
        unfold Array.eraseIdxIfInBounds
        rw [dif_pos hj']
        exact Array.toList_eraseIdx ..
      refine ⟨_, _, putObj_at hb, ?_, ?_, ?_, ?_⟩
      · rw [hl, map_eraseIdx, r.ents, map_eraseIdx]
      · rw [map_eraseIdx]; exact r.nodup.sublist (List.eraseIdx_sublist ..)
      · intro e he
        rw [hl] at he
        exact r.born e ((List.eraseIdx_sublist ..).mem he)
      · rw [hl, map_eraseIdx]; exact r.distinct.sublist (List.eraseIdx_sublist ..)

/-- block r: an iterator over the map of block b; 'left': what is still to come -/
def IterAt (w : World) (r b : Nat) (m left : SMap) : Prop :=
  ∃ es c seen, w.heap[b]? = some (.map es c) ∧ MapRep es c m ∧ w.heap[r]? = some (.mapIter (some b) c seen c) ∧
    (leftOf es seen).toList.map (fun e => (e.key, e.val)) = left.map (fun x => (Value.string x.1, Value.string x.2))

theorem range_ss (hT : P.underlying T = some (.map K E)) {w : World} {b : Nat} {m : SMap} (h : MapAt w b m) :
    ∃ o, (Instr.range T (.map (some b))).run P w = .ok (.pointer (some ⟨w.heap.size, 0, none⟩)) (w.alloc o) ∧ IterAt (w.alloc o) w.heap.size b m m := by
  have hlt := h.lt
  obtain ⟨es, c, hb, r⟩ := h
  refine ⟨.mapIter (some b) c #[] c, ?_, es, c, #[], ?_, r, (MapKept.heap_alloc w _).1, ?_⟩
  · simp [Instr.range, run_underlying hT, MapKept.run_getObj_map hb, newObj, Sem.run, Result.andThen]
  · rw [Below.heap_alloc _ _ _ hlt]; exact hb
  · have : leftOf es #[] = es := by simp [leftOf]
    rw [this]; exact r.ents

theorem filter_born : (L : List MapEntry) → (L.map (·.born)).Nodup → (e : MapEntry) → e ∈ L → L.Perm (e :: L.filter (fun x => !decide (x.born = e.born)))
  | [], _, _, h => by cases h
  | x :: L, hn, e, h => by
    simp only [List.map_cons, List.nodup_cons] at hn
    by_cases hx : x.born = e.born
    · have hxe : x = e := by
        rcases List.mem_cons.1 h with h | h
        · exact h.symm
        · exact absurd (hx ▸ List.mem_map_of_mem h) hn.1
      subst hxe
      have : L.filter (fun y => !decide (y.born = x.born)) = L := by
        rw [List.filter_eq_self]
        intro y hy
        have : ¬ y.born = x.born := fun e => hn.1 (e ▸ List.mem_map_of_mem hy)
        simp [this]
      simp [this]
    · have hm : e ∈ L := by
        rcases List.mem_cons.1 h with h | h
        · subst h; exact absurd rfl hx
        · exact h
      have := filter_born L hn.2 e hm
      rw [List.filter_cons_of_pos (by simp [hx])]
      exact (List.Perm.cons x this).trans (List.Perm.swap ..)

theorem next_ss {w : World} {r b : Nat} {m left : SMap} (h : IterAt w r b m left) (hne : r ≠ b) (ty : TypeId) :
    (left = [] ∧ (Instr.next (.pointer (some ⟨r, 0, none⟩)) false ty).run P w = .ok (.tuple #[.bool false]) w) ∨
    ∃ x left' w', left.Perm (x :: left') ∧ (Instr.next (.pointer (some ⟨r, 0, none⟩)) false ty).run P w = .ok (.tuple #[.bool true, .string x.1, .string x.2]) w' ∧
      IterAt w' r b m left' ∧ Mod (· = r) w w' ∧ (Instr.entry (.pointer (some ⟨r, 0, none⟩))).run P w' = .ok (.tuple #[.string x.1, .string x.2]) w' := by
  obtain ⟨es, c, seen, hb, rp, hr, hl⟩ := h
  rcases run_next_at (P := P) w ty r b c c seen es c hr hb rp.born (Nat.le_refl _) with ⟨h0, hrun⟩ | ⟨e, he, w1, hw1, hrun⟩
  · left
    have : (leftOf es seen).toList = [] := by simpa using h0
    rw [this] at hl
    exact ⟨by simpa using hl.symm, hrun⟩
  · right
    obtain ⟨n, hn⟩ := List.mem_iff_getElem?.1 he
    have hl1 : (left.map (fun x => (Value.string x.1, Value.string x.2)))[n]? = some (e.key, e.val) := by rw [← hl, List.getElem?_map, hn]; rfl
    rw [List.getElem?_map, Option.map_eq_some_iff] at hl1
    obtain ⟨x, hx, hxe⟩ := hl1
    simp only [Prod.mk.injEq] at hxe
    have hesub : e ∈ es.toList := by
      unfold leftOf at he
      simp at he
      simpa using he.1
    have hnd : ((leftOf es seen).toList.map (·.born)).Nodup := by
      unfold leftOf
      rw [Array.toList_filter]
      exact rp.distinct.sublist (List.Sublist.map _ List.filter_sublist)
    have hp := filter_born _ hnd e he
    have hleft : (leftOf es (seen.push e.born)).toList = (leftOf es seen).toList.filter (fun x => !decide (x.born = e.born)) := by
      unfold leftOf
      rw [Array.toList_filter, Array.toList_filter, List.filter_filter]
      apply List.filter_congr
      intro y _
      rw [Array.contains_push]
      cases seen.contains y.born <;> by_cases h : y.born = e.born <;> simp [h]
    have h1 : w1.heap = w.heap := by rcases hw1 with rfl | rfl <;> rfl
    have hm1 : Mod (· = r) w w1 := by
      rcases hw1 with rfl | rfl
      · exact Mod.refl _ _
      · exact (Mod.refl _ _).drew
    have hrl : r < w1.heap.size := by rw [h1]; exact (Array.getElem?_eq_some_iff.1 hr).1
    have hset : Mod (· = r) w1 (ChangeMaps.setBlock w1 r (.mapIter (some b) c (seen.push e.born) c)) := putObj_mod w1 r _
    have hatr : (ChangeMaps.setBlock w1 r (.mapIter (some b) c (seen.push e.born) c)).heap[r]? = some (.mapIter (some b) c (seen.push e.born) c) := by
      simp [ChangeMaps.setBlock, hrl]
    have hatb : (ChangeMaps.setBlock w1 r (.mapIter (some b) c (seen.push e.born) c)).heap[b]? = some (.map es c) := by
      rw [hset.block b (by rw [h1]; exact (Array.getElem?_eq_some_iff.1 hb).1) (fun x => hne x.symm), h1]; exact hb
    -- the values that are left, one of them taken out
    have hperm : (left.map (fun x => (Value.string x.1, Value.string x.2))).Perm ((Value.string x.1, Value.string x.2) :: ((leftOf es (seen.push e.born)).toList.map (fun e => (e.key, e.val)))) := by
      rw [← hl, hleft, hxe.1, hxe.2]
      exact hp.map _
    have hback : ∀ y ∈ ((leftOf es (seen.push e.born)).toList.map (fun e => (e.key, e.val))), ∃ z : ByteArray × ByteArray, (Value.string z.1, Value.string z.2) = y := by
      intro y hy
      have : y ∈ left.map (fun x => (Value.string x.1, Value.string x.2)) := hperm.mem_iff.2 (List.mem_cons_of_mem _ hy)
      obtain ⟨z, _, hz⟩ := List.mem_map.1 this
      exact ⟨z, hz⟩
    obtain ⟨left', hl'⟩ : ∃ left' : SMap, left'.map (fun x => (Value.string x.1, Value.string x.2)) = (leftOf es (seen.push e.born)).toList.map (fun e => (e.key, e.val)) := by
      generalize (leftOf es (seen.push e.born)).toList.map (fun e => (e.key, e.val)) = L at hback
      clear hperm
      induction L with
      | nil => exact ⟨[], rfl⟩
      | cons y L ih =>
        obtain ⟨l', h'⟩ := ih (fun y hy => hback y (List.mem_cons_of_mem _ hy))
        obtain ⟨z, hz⟩ := hback y List.mem_cons_self
        exact ⟨z :: l', by rw [List.map_cons, h', hz]⟩
    have hperm2 : left.Perm (x :: left') := by
      rw [← hl'] at hperm
      have := hperm.map (fun (p : Value × Value) => ((match p.1 with | .string s => s | _ => ⟨#[]⟩ : ByteArray), (match p.2 with | .string s => s | _ => ⟨#[]⟩ : ByteArray)))
      simpa [List.map_map, Function.comp_def] using this
    refine ⟨x, left', _, hperm2, by rw [hxe.1, hxe.2]; exact hrun, ⟨es, c, seen.push e.born, hatb, rp, hatr, hl'.symm⟩, hm1.trans hset, ?_⟩
    rw [hxe.1, hxe.2]
    exact run_entry_at _ r b c seen es c e hatr hatb hesub rp.distinct
end
end Go.Proofs.YtpcmbnbdppembaaGreatDoor
