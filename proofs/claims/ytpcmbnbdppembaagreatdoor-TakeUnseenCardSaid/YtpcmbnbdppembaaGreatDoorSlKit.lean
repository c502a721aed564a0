/- Rows that are copied over, shifted, cut, put together: what the stores of package slices make of a block, at elements of k cells. -/
import Derived.Test.YtpcmbnbdppembaaGreatDoorHoldMem
import Derived.Shelf.Spec.SlicesInsert
import Derived.Lib.AppendZerosOnto
import Derived.Maps.AppendAt
import Derived.Deep.Upon
namespace Go.Proofs.YtpcmbnbdppembaaGreatDoor
set_option linter.unusedSimpArgs false
set_option linter.unusedVariables false
open Go.RowKit

theorem addr_lit (b o j : Nat) : (⟨b, o, none⟩ : Addr).add j = ⟨b, o + j, none⟩ := add_none' b o j
where add_none' (b o n : Nat) : (⟨b, o, none⟩ : Addr).add n = ⟨b, o + n, none⟩ := by
        unfold Addr.add
        split
        · subst_vars; rfl
        · rfl

/-- copy, elements of k cells -/
theorem run_copy_cellsk {P : Program} (w : World) (dT sT ty elem : TypeId) (k b o dLen dCap : Nat) (a : Addr) (sLen sCap : Nat) (cs : List Value)
    (hu : P.underlying dT = some (.slice elem)) (hs : (P.info? elem).map (·.size) = some k) (hn : cs.length = Nat.min sLen dLen * k)
    (hsrc : ∀ j v, cs[j]? = some v → w.cell? (a.add j) = some v) (hc : ∀ j, j < cs.length → (w.cell? ⟨b, o + j, none⟩).isSome = true) (hf : ∀ j, j < cs.length → w.frozen? ⟨b, o + j, none⟩ = false) (h1 : ∀ v ∈ cs, v.oneCell' = true) :
    (Builtin.copy_ #[dT, sT] ty #[.slice (some ⟨b, o, none⟩) dLen dCap, .slice (some a) sLen sCap]).run P w = .ok (goInt (Nat.min sLen dLen)) (w.setCells b o cs) := by
  have hl := run_loadCells_list (P := P) w a cs hsrc
  have hst := run_storeCells_cells (P := P) b o cs 0 w (by simpa using hc) (by simpa using hf) h1
  cases hq : P.info? elem with
  | none => simp [hq] at hs
  | some i =>
    have hi : i.size = k := by simpa [hq] using hs
    simp [Builtin.copy_, run_underlying hu, Builtin.lenOf, Builtin.firstCells, sizeOf, typeInfo, hq, hi, ← hn, hl, hst]

/-- a block that is known whole: its cells are there, and not frozen -/
theorem there_cell {w : World} {g : Nat} {cur : Array Value} {e : TypeId} (h : w.heap[g]? = some (.cells cur e (0, 0))) {j : Nat} (hj : j < cur.size) : (w.cell? ⟨g, j, none⟩).isSome = true := by
  rw [cell_of h j (Array.getElem?_eq_getElem hj)]; rfl

/-- many cells of a block set -/
theorem heap_setCells {g : Nat} {e : TypeId} : (vs : List Value) → (o : Nat) → (cur : Array Value) → (w : World) → w.heap[g]? = some (.cells cur e (0, 0)) → o + vs.length ≤ cur.size →
    ∃ cur', (w.setCells g o vs).heap[g]? = some (.cells cur' e (0, 0)) ∧ cur'.toList = cur.toList.take o ++ (vs ++ cur.toList.drop (o + vs.length)) ∧ cur'.size = cur.size
  | [], o, cur, w, h, _ => ⟨cur, h, by simp, rfl⟩
  | v :: r, o, cur, w, h, hl => by
    simp only [List.length_cons] at hl
    obtain ⟨cur', h1, h2, h3⟩ := heap_setCells r (o + 1) (cur.setIfInBounds o v) (w.setCell ⟨g, o, none⟩ v) (heap_set h o v) (by simp; omega)
    refine ⟨cur', by rw [World.setCells]; exact h1, ?_, by simpa using h3⟩
    rw [h2]
    have ho : o < cur.toList.length := by simp; omega
    simp only [Array.toList_setIfInBounds, List.length_cons]
    rw [List.take_add_one, List.take_set_of_le (Nat.le_refl _), List.getElem?_set_self ho, List.drop_set_of_lt (by omega)]
    simp only [Option.toList_some, List.append_assoc, List.cons_append, List.nil_append]
    rw [show o + 1 + r.length = o + (r.length + 1) by omega]

theorem mod_setCells (g : Nat) : (vs : List Value) → (o : Nat) → (w : World) → Mod (· = g) w (w.setCells g o vs)
  | [], _, _ => Mod.refl _ _
  | v :: r, o, w => by
    rw [World.setCells]
    exact ((Mod.refl (· = g) w).setCell (p := ⟨g, o, none⟩) (fun _ => rfl) v).trans (mod_setCells g r (o + 1) _)

theorem Mod.setCells {S : Nat → Prop} {a w : World} (h : Mod S a w) {g : Nat} (hg : g < a.heap.size → S g) (o : Nat) (vs : List Value) : Mod S a (w.setCells g o vs) :=
  h.then (mod_setCells g vs o w) (fun k hk e => by subst e; exact hg hk)

/-! ### Rows -/
theorem ownsRow_of_heap {w : World} {g cap n k : Nat} {cur : Array Value} {e : TypeId} {cs : List Value} (h : w.heap[g]? = some (.cells cur e (0, 0))) (hn : n ≤ cap) (hm : cap ≤ maxLen) (hs : cur.size = cap * k) (ht : cur.toList.take (n * k) = cs) :
    w.ownsRow 0 e k (.slice (some ⟨g, 0, none⟩) n cap) n cs := by
  refine ⟨?_, .inr ⟨g, cap, cur, rfl, Nat.zero_le _, h, hn, hm, hs, ht⟩⟩
  rw [← ht, List.length_take, Array.length_toList, hs]
  exact Nat.min_eq_left (Nat.mul_le_mul_right _ hn)

theorem ownsRow_block {w : World} {g cap n n' k : Nat} {e : TypeId} {cs : List Value} (h : w.ownsRow 0 e k (.slice (some ⟨g, 0, none⟩) n' cap) n cs) :
    n' = n ∧ ∃ cur, w.heap[g]? = some (.cells cur e (0, 0)) ∧ n ≤ cap ∧ cap ≤ maxLen ∧ cur.size = cap * k ∧ cur.toList.take (n * k) = cs := by
  rcases h.2 with ⟨e, _⟩ | ⟨g', cap', cur, e, _, h1, h2, h3, h4, h5⟩
  · cases e
  · simp only [Value.slice.injEq, Option.some.injEq, Addr.mk.injEq] at e
    obtain ⟨⟨rfl, _⟩, rfl, rfl⟩ := e
    exact ⟨rfl, cur, h1, h2, h3, h4, h5⟩

theorem ownsRow_form {w : World} {k n : Nat} {e : TypeId} {v : Value} {cs : List Value} (h : w.ownsRow 0 e k v n cs) : (v = .slice none 0 0 ∧ n = 0) ∨ ∃ g cap, v = .slice (some ⟨g, 0, none⟩) n cap := by
  rcases h.2 with ⟨rfl, h0⟩ | ⟨g, cap, cur, rfl, _⟩
  · exact .inl ⟨rfl, h0⟩
  · exact .inr ⟨g, cap, rfl⟩

theorem ownsRow_less {w : World} {g cap n m k : Nat} {e : TypeId} {cs : List Value} (h : w.ownsRow 0 e k (.slice (some ⟨g, 0, none⟩) n cap) n cs) (hm : m ≤ n) : w.ownsRow 0 e k (.slice (some ⟨g, 0, none⟩) m cap) m (cs.take (m * k)) := by
  obtain ⟨_, cur, h1, h2, h3, h4, h5⟩ := ownsRow_block h
  refine ownsRow_of_heap h1 (by omega) h3 h4 ?_
  rw [← h5, List.take_take, Nat.min_eq_left (Nat.mul_le_mul_right _ hm)]

theorem parts3 {α : Type} (cur : List α) (A N : Nat) (hA : A ≤ N) (hN : N ≤ cur.length) : ∃ P Q R, cur = P ++ (Q ++ R) ∧ P.length = A ∧ Q.length = N - A := by
  refine ⟨cur.take A, (cur.drop A).take (N - A), (cur.drop A).drop (N - A), by rw [List.take_append_drop, List.take_append_drop], by simp; omega, by simp; omega⟩

/-- what an element that is put in between makes of a row with room -/
theorem shift_row {α : Type} {cur cs news c1 c2 : List α} {A N k : Nat} (hA : A ≤ N) (hN : N + k ≤ cur.length) (hcs : cur.take N = cs) (hk : news.length = k)
    (h1 : c1 = cur.take (A + k) ++ (cs.drop A ++ cur.drop (A + k + (cs.drop A).length))) (h2 : c2 = c1.take A ++ (news ++ c1.drop (A + news.length))) :
    c2.take (N + k) = cs.take A ++ (news ++ cs.drop A) := by
  obtain ⟨P, Q, R, rfl, hP, hQ⟩ := parts3 cur A N hA (by omega)
  have e : cs = P ++ Q := by rw [← hcs, ← List.append_assoc, List.take_left' (by simp; omega)]
  subst e
  have eA : (P ++ Q).take A = P := List.take_left' hP
  have eD : (P ++ Q).drop A = Q := List.drop_left' hP
  rw [eD] at h1
  rw [eA, eD]
  obtain ⟨X, hX, hXl⟩ : ∃ X, (P ++ (Q ++ R)).take (A + k) = P ++ X ∧ X.length = k := by
    refine ⟨(Q ++ R).take k, ?_, ?_⟩
    · rw [← hP, List.take_length_add_append]
    · simp at hN ⊢; omega
  rw [hX] at h1
  have e1 : c1.take A = P := by rw [h1, List.append_assoc]; exact List.take_left' hP
  have e2 : c1.drop (A + news.length) = Q ++ (P ++ (Q ++ R)).drop (A + k + Q.length) := by
    rw [h1]; exact List.drop_left' (by simp; omega)
  rw [h2, e1, e2, ← List.append_assoc news Q, ← List.append_assoc P]
  exact List.take_left' (by simp; omega)

/-- what an element that is put in between makes of a new row -/
theorem grow_row {α : Type} {cs news Z c0 c1 c2 : List α} {A N k : Nat} (hA : A ≤ N) (hcs : cs.length = N) (hk : news.length = k) (hZ : N - A + k ≤ Z.length)
    (h0 : c0 = cs.take A ++ Z) (h1 : c1 = c0.take A ++ (news ++ c0.drop (A + news.length))) (h2 : c2 = c1.take (A + k) ++ (cs.drop A ++ c1.drop (A + k + (cs.drop A).length))) :
    c2.take (N + k) = cs.take A ++ (news ++ cs.drop A) := by
  have hP : (cs.take A).length = A := by simp; omega
  have hQ : (cs.drop A).length = N - A := by simp; omega
  generalize cs.take A = P at *
  generalize cs.drop A = Q at *
  have e1 : c0.take A = P := by rw [h0]; exact List.take_left' hP
  rw [e1] at h1
  have e2 : c1.take (A + k) = P ++ news := by rw [h1, ← List.append_assoc]; exact List.take_left' (by simp; omega)
  rw [h2, e2]
  generalize c1.drop (A + k + Q.length) = T
  have : P ++ news ++ (Q ++ T) = (P ++ (news ++ Q)) ++ T := by simp
  rw [this]
  exact List.take_left' (by simp; omega)

/-- what is left of a row of which one element is taken away -/
theorem cut_row {α : Type} {cur cs z c1 c2 : List α} {A N k : Nat} (hA : A + k ≤ N) (hN : N ≤ cur.length) (hcs : cur.take N = cs) (hz : z.length = k)
    (h1 : c1 = cur.take A ++ (cs.drop (A + k) ++ cur.drop (A + (cs.drop (A + k)).length))) (h2 : c2 = c1.take (N - k) ++ (z ++ c1.drop (N - k + z.length))) :
    c2.take (N - k) = cs.take A ++ cs.drop (A + k) := by
  obtain ⟨P, Q, R, rfl, hP, hQ⟩ := parts3 cur A N (by omega) hN
  have e : cs = P ++ Q := by rw [← hcs, ← List.append_assoc, List.take_left' (by simp; omega)]
  subst e
  have eA : (P ++ Q).take A = P := List.take_left' hP
  have eD : (P ++ Q).drop (A + k) = Q.drop k := by rw [← hP, List.drop_length_add_append]
  have eA2 : (P ++ (Q ++ R)).take A = P := List.take_left' hP
  rw [eD, eA2] at h1
  rw [eD, eA]
  have e1 : c1.take (N - k) = P ++ Q.drop k := by rw [h1, ← List.append_assoc]; exact List.take_left' (by simp; omega)
  rw [h2, e1]
  exact List.take_left' (by simp; omega)

/-! ### Laws for the walk: the world behind is a letter -/
section
variable {P : Program}

/-- what is known behind a copy into a block that is known whole -/
structure Copied (w w' : World) (g o : Nat) (cur cur' : Array Value) (e : TypeId) (cs : List Value) : Prop where
  heap : w'.heap[g]? = some (.cells cur' e (0, 0))
  list : cur'.toList = cur.toList.take o ++ (cs ++ cur.toList.drop (o + cs.length))
  size : cur'.size = cur.size
  mod : Mod (· = g) w w'

theorem run_copied (w : World) (dT sT ty elem : TypeId) (k g o dLen dCap : Nat) (a : Addr) (sLen sCap : Nat) (cs : List Value) {cur : Array Value}
    (hu : P.underlying dT = some (.slice elem)) (hs : (P.info? elem).map (·.size) = some k) (hg : w.heap[g]? = some (.cells cur elem (0, 0))) (hn : cs.length = Nat.min sLen dLen * k)
    (hsrc : ∀ j v, cs[j]? = some v → w.cell? (a.add j) = some v) (hfit : o + cs.length ≤ cur.size) (h1 : ∀ v ∈ cs, v.oneCell' = true) :
    ∃ w' cur', (Builtin.copy_ #[dT, sT] ty #[.slice (some ⟨g, o, none⟩) dLen dCap, .slice (some a) sLen sCap]).run P w = .ok (goInt (Nat.min sLen dLen)) w' ∧ Copied w w' g o cur cur' elem cs := by
  obtain ⟨cur', h2, h3, h4⟩ := heap_setCells cs o cur w hg hfit
  exact ⟨_, cur', run_copy_cellsk w dT sT ty elem k g o dLen dCap a sLen sCap cs hu hs hn hsrc (fun j hj => there_cell hg (by omega)) (fun j _ => frozen_of hg _) h1, h2, h3, h4, mod_setCells _ _ _ _⟩

theorem wpList_copied {w : World} {ops : Array Oper} {rest : List Oper} {o : Oper} {a : Act} {Q : Exit → Act → World → Prop} (hgd : o.guard = none) (d s : Operand) (dT sT : TypeId)
    (ho : o.op = .call { callee := .builtin .copy, args := #[d, s], argTypes := #[dT, sT] }) (elem : TypeId) (k : Nat) (hu : P.underlying dT = some (.slice elem)) (hsz : (P.info? elem).map (·.size) = some k)
    (g off dLen dCap : Nat) (ad : Addr) (sLen sCap : Nat) (hd : a.eval d = .slice (some ⟨g, off, none⟩) dLen dCap) (hs : a.eval s = .slice (some ad) sLen sCap)
    (cur : Array Value) (hg : w.heap[g]? = some (.cells cur elem (0, 0))) (cs : List Value) (hn : cs.length = Nat.min sLen dLen * k)
    (hsrc : ∀ j v, cs[j]? = some v → w.cell? (ad.add j) = some v) (hfit : off + cs.length ≤ cur.size) (h1 : ∀ v ∈ cs, v.oneCell' = true)
    (h : ∀ w' cur', Copied w w' g off cur cur' elem cs → wpList P ops Q rest (a.put o.dst (goInt (Nat.min sLen dLen))) w') : wpList P ops Q (o :: rest) a w := by
  obtain ⟨w', cur', hrun, hc⟩ := run_copied (P := P) w dT sT o.type elem k g off dLen dCap ad sLen sCap cs hu hsz hg hn hsrc hfit h1
  refine wpList_plain hgd fun K hK => ?_
  unfold Oper.wp
  simp [execOp, ho, resolve, invoke, builtin, hd, hs, hrun, Result.andThen]
  exact hK _ _ (h _ _ hc)

theorem step_copied {ops : Array Oper} {o : Oper} {a : Act} {w : World} {K : Act → World → Prop} {Q : Exit → Act → World → Prop} {E : Prop} (hgd : o.guard = none) (d s : Operand) (dT sT : TypeId)
    (ho : o.op = Op.call { callee := Callee.builtin Builtin.copy, args := #[d, s], argTypes := #[dT, sT] }) (elem : TypeId) (k : Nat) (hu : P.underlying dT = some (.slice elem)) (hsz : (P.info? elem).map (·.size) = some k)
    (g off dLen dCap : Nat) (ad : Addr) (sLen sCap : Nat) (hd : a.eval d = .slice (some ⟨g, off, none⟩) dLen dCap) (hs : a.eval s = .slice (some ad) sLen sCap)
    (cur : Array Value) (hg : w.heap[g]? = some (.cells cur elem (0, 0))) (cs : List Value) (hn : cs.length = Nat.min sLen dLen * k)
    (hsrc : ∀ j v, cs[j]? = some v → w.cell? (ad.add j) = some v) (hfit : off + cs.length ≤ cur.size) (h1 : ∀ v ∈ cs, v.oneCell' = true)
    (h : ∀ w' cur', Copied w w' g off cur cur' elem cs → K (a.put o.dst (goInt (Nat.min sLen dLen))) w') :
    if Region.wanted o (yielded ops a.tmps) = true then Oper.wp P o a w K Q else E := by
  have hw : Region.wanted o (yielded ops a.tmps) = true := by simp [Region.wanted, hgd]
  rw [if_pos hw]
  obtain ⟨w', cur', hrun, hc⟩ := run_copied (P := P) w dT sT o.type elem k g off dLen dCap ad sLen sCap cs hu hsz hg hn hsrc hfit h1
  unfold Oper.wp
  simp [execOp, ho, resolve, invoke, builtin, hd, hs, hrun, Result.andThen]
  exact h _ _ hc

/-- what is known behind an append of many zero elements, for which there is no room -/
structure Zeroed (w w' : World) (G k : Nat) (cur : Array Value) (e : TypeId) (olds : List Value) (m : Nat) : Prop where
  heap : w'.heap[w.heap.size]? = some (.cells cur e (0, 0))
  list : ∃ Z : List Value, cur.toList = olds ++ Z ∧ m * k ≤ Z.length
  size : cur.size = G * k
  mod : Mod NoB w w'
  lt : w.heap.size < w'.heap.size

theorem run_zeroed (w : World) (t tn ty e : TypeId) (i : TypeInfo) (z : Value) (k : Nat) (kq kn : IntKind) (ht : P.underlying t = some (.slice e)) (htn : P.underlying tn = some (.int kn)) (hi : P.info? e = some i) (hz : i.zero = some z) (hk : i.size = k) (hzk : z.cells.size = k) (h64 : i.bytes ≤ 64)
    (base : Option Addr) (sLen sCap : Nat) (olds : List Value) (hold : (Builtin.firstCells k sLen (.slice base sLen sCap)).run P w.drew = .ok olds.toArray w.drew) (hol : olds.length = sLen * k)
    (m : Nat) (mI : Int) (hmI : mI = (m : Int)) (h0 : 0 < m) (hs : 0 < k) (hg : sCap < sLen + m) (hb : sLen + m ≤ 1000000) :
    ∃ w' G cur, (Builtin.append_ #[t, tn] ty #[.slice base sLen sCap, .int kq mI]).run P w = .ok (.slice (some ⟨w.heap.size, 0, none⟩) (sLen + m) G) w' ∧ sLen + m ≤ G ∧ G ≤ maxLen ∧ Zeroed w w' G k cur e olds m := by
  subst hmI hk
  have hbig : (sLen + m) * i.bytes ≤ 140737488355328 := Nat.le_trans (Nat.mul_le_mul hb h64) (by decide)
  have hr := Lib.run_append_grow_zeros (P := P) w t tn ty e i z kq kn ht htn hi hz base sLen sCap olds hold m h0 hs hg (by omega) (Nat.le_trans (Nat.mul_le_mul (show m ≤ 1000000 by omega) h64) (by decide)) (growslice_fits hg hbig)
  have hge := grownCap_ge w (sLen + m) sCap e
  refine ⟨_, _, _, hr, hge, grownCap_le_maxLen w _ _ _ (by unfold maxLen; omega), heap_alloc_new w.drew _, ⟨_, by rw [Array.toList_append, Array.toList_append, List.append_assoc], ?_⟩, ?_, (Mod.refl _ _).drew.alloc _, by simp⟩
  · simp [size_zeroCells, hzk]
  · simp only [Array.size_append, List.size_toArray, size_zeroCells, hzk, hol, ← Nat.add_mul]
    congr 1
    omega

theorem wpList_zeroed {w : World} {ops : Array Oper} {rest : List Oper} {o : Oper} {a : Act} {Q : Exit → Act → World → Prop} (hgd : o.guard = none) (s x : Operand) (t tn : TypeId)
    (ho : o.op = .call { callee := .builtin .append, args := #[s, x], argTypes := #[t, tn] }) (e : TypeId) (i : TypeInfo) (z : Value) (k : Nat) (kq kn : IntKind) (ht : P.underlying t = some (.slice e)) (htn : P.underlying tn = some (.int kn)) (hi : P.info? e = some i) (hz : i.zero = some z) (hk : i.size = k) (hzk : z.cells.size = k) (h64 : i.bytes ≤ 64)
    (base : Option Addr) (sLen sCap : Nat) (mI : Int) (hsv : a.eval s = .slice base sLen sCap) (hxv : a.eval x = .int kq mI) (olds : List Value) (hold : (Builtin.firstCells k sLen (.slice base sLen sCap)).run P w.drew = .ok olds.toArray w.drew) (hol : olds.length = sLen * k)
    (m : Nat) (hmI : mI = (m : Int)) (h0 : 0 < m) (hs : 0 < k) (hg : sCap < sLen + m) (hb : sLen + m ≤ 1000000)
    (h : ∀ w' G cur, sLen + m ≤ G → G ≤ maxLen → Zeroed w w' G k cur e olds m → wpList P ops Q rest (a.put o.dst (.slice (some ⟨w.heap.size, 0, none⟩) (sLen + m) G)) w') : wpList P ops Q (o :: rest) a w := by
  obtain ⟨w', G, cur, hrun, h1, h2, h3⟩ := run_zeroed (P := P) w t tn o.type e i z k kq kn ht htn hi hz hk hzk h64 base sLen sCap olds hold hol m mI hmI h0 hs hg hb
  refine wpList_plain hgd fun K hK => ?_
  unfold Oper.wp execOp
  simp only [ho, resolve, invoke, builtin, Sem.run_bind, Sem.run_pure, Result.andThen_ok, List.map_toArray, List.map_cons, List.map_nil, hsv, hxv, hrun]
  exact hK _ _ (h _ _ _ h1 h2 h3)

/-- a slice whose elements' cells read as cs -/
def Read (w : World) (v : Value) (n : Nat) (cs : List Value) : Prop :=
  (v = .slice none 0 0 ∧ n = 0 ∧ cs = []) ∨ ∃ a c, v = .slice (some a) n c ∧ ∀ j u, cs[j]? = some u → w.cell? (a.add j) = some u

theorem Read.ofRow {w : World} {k n : Nat} {e : TypeId} {v : Value} {cs : List Value} (h : w.ownsRow 0 e k v n cs) : Read w v n cs := by
  rcases ownsRow_form h with ⟨e1, h0⟩ | ⟨g, cap, rfl⟩
  · refine .inl ⟨e1, h0, ?_⟩
    have := h.1
    rw [h0] at this
    exact List.eq_nil_of_length_eq_zero (by simpa using this)
  · exact .inr ⟨_, _, rfl, h.cells (g := g) rfl⟩

theorem Read.mod {S : Nat → Prop} {w w' : World} {v : Value} {n : Nat} {cs : List Value} (h : Read w v n cs) (hm : Mod S w w') (hs : ∀ g ∈ ownL v, ¬ S g) : Read w' v n cs := by
  rcases h with h | ⟨a, c, rfl, h⟩
  · exact .inl h
  · refine .inr ⟨a, c, rfl, fun j u hu => ?_⟩
    have h1 := h j u hu
    have hb : (a.add j).block = a.block := by unfold Addr.add; split <;> rfl
    rw [hm.cell (cell_lt' h1) (by rw [hb]; exact hs _ (by simp [ownL, Value.ownBlock]))]
    exact h1

/-- what is known behind an append -/
structure Appended (w w' : World) (v v' : Value) (e : TypeId) (k n m : Nat) (xs news : List Value) : Prop where
  own : w'.ownsRow 0 e k v' (n + m) (xs ++ news)
  mod : Mod (· ∈ ownL v) w w'
  new : ∀ g ∈ ownL v', g ∈ ownL v ∨ w.heap.size ≤ g

theorem run_appended (w : World) (t ty e : TypeId) (i : TypeInfo) (z : Value) (k : Nat) (ht : P.underlying t = some (.slice e)) (hi : P.info? e = some i) (hz : i.zero = some z) (hk : i.size = k) (hzk : z.cells.size = k) (h64 : i.bytes ≤ 64) (hs : 0 < k)
    (v : Value) (n : Nat) (xs : List Value) (hown : w.ownsRow 0 e k v n xs) (x : Value) (m : Nat) (news : List Value) (hx : Read w x m news) (hl : news.length = m * k) (h1 : ∀ u ∈ news, u.oneCell' = true) (hb : n + m ≤ 1000000) :
    ∃ v' w', (Builtin.append_ #[t, t] ty #[v, x]).run P w = .ok v' w' ∧ Appended w w' v v' e k n m xs news := by
  rcases hx with ⟨rfl, rfl, rfl⟩ | ⟨a, c, rfl, hx⟩
  · refine ⟨v, w, ?_, by simpa using hown, Mod.refl _ _, fun g hg => .inl hg⟩
    rcases hown.2 with ⟨rfl, rfl⟩ | ⟨g, cap, cur, rfl, _, _, hnc, _⟩
    · exact run_append_nothing w t t ty e i ht hi none 0 0 (Nat.le_refl _) _ (Src.ofNil w ht 0)
    · exact run_append_nothing w t t ty e i ht hi _ n cap hnc _ (Src.ofNil w ht 0)
  · obtain ⟨v', w', hr, h2, h3, _, h5⟩ := run_append_own_at (P := P) w 0 t ty e i z k i.bytes ht hi hz hk rfl hzk hs v n xs hown a m c news hl hx h1 (by unfold maxLen; omega) (Nat.le_trans (Nat.mul_le_mul hb h64) (by decide)) (Nat.zero_le _)
    refine ⟨v', w', hr, h2, grown_modS (v := v) (Mod.refl _ _) h3 (fun _ h => h), fun g hg => ?_⟩
    rcases h5 with h5 | h5
    · exact .inl (by simpa [ownL, h5] using hg)
    · right
      have : g = w.heap.size := by simpa [ownL, h5] using hg
      omega

theorem wpList_appended {w : World} {ops : Array Oper} {rest : List Oper} {o : Oper} {a : Act} {Q : Exit → Act → World → Prop} (hgd : o.guard = none) (s x : Operand) (t : TypeId)
    (ho : o.op = .call { callee := .builtin .append, args := #[s, x], argTypes := #[t, t] }) (e : TypeId) (i : TypeInfo) (z : Value) (k : Nat) (ht : P.underlying t = some (.slice e)) (hi : P.info? e = some i) (hz : i.zero = some z) (hk : i.size = k) (hzk : z.cells.size = k) (h64 : i.bytes ≤ 64) (hs : 0 < k)
    (v : Value) (n : Nat) (xs : List Value) (hsv : a.eval s = v) (hown : w.ownsRow 0 e k v n xs) (y : Value) (m : Nat) (news : List Value) (hxv : a.eval x = y) (hx : Read w y m news) (hl : news.length = m * k) (h1 : ∀ u ∈ news, u.oneCell' = true) (hb : n + m ≤ 1000000)
    (h : ∀ v' w', Appended w w' v v' e k n m xs news → wpList P ops Q rest (a.put o.dst v') w') : wpList P ops Q (o :: rest) a w := by
  obtain ⟨v', w', hrun, h2⟩ := run_appended (P := P) w t o.type e i z k ht hi hz hk hzk h64 hs v n xs hown y m news hx hl h1 hb
  refine wpList_plain hgd fun K hK => ?_
  unfold Oper.wp execOp
  simp only [ho, resolve, invoke, builtin, Sem.run_bind, Sem.run_pure, Result.andThen_ok, List.map_toArray, List.map_cons, List.map_nil, hsv, hxv, hrun]
  exact hK _ _ (h _ _ h2)

theorem step_appended {ops : Array Oper} {o : Oper} {a : Act} {w : World} {K : Act → World → Prop} {Q : Exit → Act → World → Prop} {E : Prop} (hgd : o.guard = none) (s x : Operand) (t : TypeId)
    (ho : o.op = .call { callee := .builtin .append, args := #[s, x], argTypes := #[t, t] }) (e : TypeId) (i : TypeInfo) (z : Value) (k : Nat) (ht : P.underlying t = some (.slice e)) (hi : P.info? e = some i) (hz : i.zero = some z) (hk : i.size = k) (hzk : z.cells.size = k) (h64 : i.bytes ≤ 64) (hs : 0 < k)
    (v : Value) (n : Nat) (xs : List Value) (hsv : a.eval s = v) (hown : w.ownsRow 0 e k v n xs) (y : Value) (m : Nat) (news : List Value) (hxv : a.eval x = y) (hx : Read w y m news) (hl : news.length = m * k) (h1 : ∀ u ∈ news, u.oneCell' = true) (hb : n + m ≤ 1000000)
    (h : ∀ v' w', Appended w w' v v' e k n m xs news → K (a.put o.dst v') w') :
    if Region.wanted o (yielded ops a.tmps) = true then Oper.wp P o a w K Q else E := by
  have hw : Region.wanted o (yielded ops a.tmps) = true := by simp [Region.wanted, hgd]
  rw [if_pos hw]
  obtain ⟨v', w', hrun, h2⟩ := run_appended (P := P) w t o.type e i z k ht hi hz hk hzk h64 hs v n xs hown y m news hx hl h1 hb
  unfold Oper.wp execOp
  simp only [ho, resolve, invoke, builtin, Sem.run_bind, Sem.run_pure, Result.andThen_ok, List.map_toArray, List.map_cons, List.map_nil, hsv, hxv, hrun]
  exact h _ _ h2

/-- an append for which there is room: what stands in the block -/
theorem run_roomed (w : World) (t ty e : TypeId) (i : TypeInfo) (k : Nat) (ht : P.underlying t = some (.slice e)) (hi : P.info? e = some i) (hk : i.size = k)
    (g n cap : Nat) {cur : Array Value} (hg : w.heap[g]? = some (.cells cur e (0, 0))) (hcap : cur.size = cap * k) (y : Value) (m : Nat) (news : List Value) (hx : Read w y m news) (hl : news.length = m * k) (h1 : ∀ u ∈ news, u.oneCell' = true) (hroom : n + m ≤ cap) :
    ∃ w' cur', (Builtin.append_ #[t, t] ty #[.slice (some ⟨g, 0, none⟩) n cap, y]).run P w = .ok (.slice (some ⟨g, 0, none⟩) (n + m) cap) w' ∧ Copied w w' g (n * k) cur cur' e news := by
  subst hk
  have hfit : n * i.size + news.length ≤ cur.size := by rw [hl, hcap, ← Nat.add_mul]; exact Nat.mul_le_mul_right _ hroom
  have hsrc : Src P i.size t y m news w := by
    rcases hx with ⟨rfl, rfl, rfl⟩ | ⟨a, c, rfl, hx⟩
    · exact Src.ofNil w ht 0
    · exact Src.ofSlice w ht a m c news hl hx h1
  have hr := run_append_room_src (P := P) w t t ty e i ht hi g 0 n cap y m news hsrc hroom (fun j hj => there_cell hg (by omega)) (fun j _ => frozen_of hg _)
  rw [Nat.zero_add] at hr
  obtain ⟨cur', h2, h3, h4⟩ := heap_setCells news (n * i.size) cur w hg hfit
  exact ⟨_, cur', hr, h2, h3, h4, mod_setCells _ _ _ _⟩

theorem step_roomed {ops : Array Oper} {o : Oper} {a : Act} {w : World} {K : Act → World → Prop} {Q : Exit → Act → World → Prop} {E : Prop} (hgd : o.guard = none) (s x : Operand) (t : TypeId)
    (ho : o.op = .call { callee := .builtin .append, args := #[s, x], argTypes := #[t, t] }) (e : TypeId) (i : TypeInfo) (k : Nat) (ht : P.underlying t = some (.slice e)) (hi : P.info? e = some i) (hk : i.size = k)
    (g n cap : Nat) (hsv : a.eval s = .slice (some ⟨g, 0, none⟩) n cap) (cur : Array Value) (hg : w.heap[g]? = some (.cells cur e (0, 0))) (hcap : cur.size = cap * k) (y : Value) (m : Nat) (news : List Value) (hxv : a.eval x = y) (hx : Read w y m news) (hl : news.length = m * k) (h1 : ∀ u ∈ news, u.oneCell' = true) (hroom : n + m ≤ cap)
    (h : ∀ w' cur', Copied w w' g (n * k) cur cur' e news → K (a.put o.dst (.slice (some ⟨g, 0, none⟩) (n + m) cap)) w') :
    if Region.wanted o (yielded ops a.tmps) = true then Oper.wp P o a w K Q else E := by
  have hw : Region.wanted o (yielded ops a.tmps) = true := by simp [Region.wanted, hgd]
  rw [if_pos hw]
  obtain ⟨w', cur', hrun, h2⟩ := run_roomed (P := P) w t o.type e i k ht hi hk g n cap hg hcap y m news hx hl h1 hroom
  unfold Oper.wp execOp
  simp only [ho, resolve, invoke, builtin, Sem.run_bind, Sem.run_pure, Result.andThen_ok, List.map_toArray, List.map_cons, List.map_nil, hsv, hxv, hrun]
  exact h _ _ h2

/-- elements cleared -/
theorem run_clearedk (w : World) (t ty e : TypeId) (i : TypeInfo) (z : Value) (k : Nat) (ht : P.underlying t = some (.slice e)) (hi : P.info? e = some i) (hz : i.zero = some z) (hzk : z.cells.size = k) (hz1 : ∀ u ∈ z.cells.toList, u.oneCell' = true)
    (g o c : Nat) {cur : Array Value} (hg : w.heap[g]? = some (.cells cur e (0, 0))) (hfit : o + k ≤ cur.size) :
    ∃ w' cur', (Builtin.clear_ #[t] ty #[.slice (some ⟨g, o, none⟩) 1 c]).run P w = .ok (.tuple #[]) w' ∧ Copied w w' g o cur cur' e z.cells.toList := by
  have hzc : (Builtin.zeroCells z.cells 1).toList = z.cells.toList := by
    apply List.ext_getElem
    · rw [Array.length_toList, size_zeroCells, Array.length_toList]; omega
    · intro j h1 h2
      have h3 : j < z.cells.size := by simpa using h2
      simp [Builtin.zeroCells, Nat.mod_eq_of_lt h3, h3]
  have hl : z.cells.toList.length = k := by simpa using hzk
  have hst := run_storeCells_cells (P := P) g o z.cells.toList 0 w (fun j hj => there_cell hg (by omega)) (fun j _ => frozen_of hg _) hz1
  simp only [Nat.add_zero] at hst
  obtain ⟨cur', h2, h3, h4⟩ := heap_setCells z.cells.toList o cur w hg (by omega)
  refine ⟨_, cur', ?_, h2, h3, h4, mod_setCells _ _ _ _⟩
  simp [Builtin.clear_, run_underlying ht, zeroValue, typeInfo, hi, hz, hzc, hst]

theorem wpList_clearedk {w : World} {ops : Array Oper} {rest : List Oper} {o : Oper} {a : Act} {Q : Exit → Act → World → Prop} (hgd : o.guard = none) (x : Operand) (t : TypeId)
    (ho : o.op = .call { callee := .builtin .clear, args := #[x], argTypes := #[t] }) (e : TypeId) (i : TypeInfo) (z : Value) (k : Nat) (ht : P.underlying t = some (.slice e)) (hi : P.info? e = some i) (hz : i.zero = some z) (hzk : z.cells.size = k) (hz1 : ∀ u ∈ z.cells.toList, u.oneCell' = true)
    (g off c : Nat) (hxv : a.eval x = .slice (some ⟨g, off, none⟩) 1 c) (cur : Array Value) (hg : w.heap[g]? = some (.cells cur e (0, 0))) (hfit : off + k ≤ cur.size)
    (h : ∀ w' cur', Copied w w' g off cur cur' e z.cells.toList → wpList P ops Q rest (a.put o.dst (.tuple #[])) w') : wpList P ops Q (o :: rest) a w := by
  obtain ⟨w', cur', hrun, h2⟩ := run_clearedk (P := P) w t o.type e i z k ht hi hz hzk hz1 g off c hg hfit
  refine wpList_plain hgd fun K hK => ?_
  unfold Oper.wp execOp
  simp only [ho, resolve, invoke, builtin, Sem.run_bind, Sem.run_pure, Result.andThen_ok, List.map_toArray, List.map_cons, List.map_nil, hxv, hrun]
  exact hK _ _ (h _ _ h2)
end

theorem flat_take {α : Type} {k : Nat} {enc : α → List Value} (hk : ∀ x, (enc x).length = k) : (l : List α) → (i : Nat) → (l.flatMap enc).take (i * k) = (l.take i).flatMap enc
  | [], i => by simp
  | x :: l, 0 => by simp
  | x :: l, i + 1 => by
    rw [List.flatMap_cons, List.take_succ_cons, List.flatMap_cons, Nat.add_mul, Nat.one_mul, Nat.add_comm, ← hk x, List.take_length_add_append, hk x, flat_take hk l i]
theorem flat_drop {α : Type} {k : Nat} {enc : α → List Value} (hk : ∀ x, (enc x).length = k) : (l : List α) → (i : Nat) → (l.flatMap enc).drop (i * k) = (l.drop i).flatMap enc
  | [], i => by simp
  | x :: l, 0 => by simp
  | x :: l, i + 1 => by
    rw [List.flatMap_cons, List.drop_succ_cons, Nat.add_mul, Nat.one_mul, Nat.add_comm, ← hk x, List.drop_length_add_append, hk x, flat_drop hk l i]
theorem flat_length {α : Type} {k : Nat} {enc : α → List Value} (hk : ∀ x, (enc x).length = k) (l : List α) : (l.flatMap enc).length = l.length * k := by
  induction l with
  | nil => simp
  | cons x l ih => rw [List.flatMap_cons, List.length_append, ih, hk, List.length_cons, Nat.add_mul]; omega
theorem flat_one {α : Type} {enc : α → List Value} (h1 : ∀ x u, u ∈ enc x → u.oneCell' = true) {l : List α} : ∀ u ∈ l.flatMap enc, u.oneCell' = true := by
  intro u hu
  obtain ⟨x, _, hx⟩ := List.mem_flatMap.1 hu
  exact h1 x u hx
end Go.Proofs.YtpcmbnbdppembaaGreatDoor
