/- The frame of a law: from 'the call returns true and turns nothing that lay there' to the given statement; and what an argument that can be read looks like in memory, by its shape. -/
import Derived.Test.YtmagddchjidamaaGreatDoorProg
import Derived.Test.YtmagddchjidamaaGreatDoorChecked
import Derived.WalkKit
import Derived.ProofKit
import Derived.OpenShut
import Derived.ShutString
import Derived.ChangeOld
import Derived.Below
import Derived.Deep.Slices
import Derived.Deep.Fields
import Derived.ChangeSame
import Derived.StringKeys
namespace Go.Proofs.YtmagddchjidamaaGreatDoor
set_option linter.unusedSimpArgs false
set_option linter.unusedVariables false
open Go.ChangeShapes Go.WideShapes Go.ChangeAt Go.RowKit Go.Deep

/-- the shape of a type that is plain data -/
inductive Shp where
  | i (k : IntKind)
  | b
  | s
  | sl (e : Shp)
  | st (l : List Shp)

mutual
def Shp.n : Shp → Nat
  | .i _ => 1
  | .b => 1
  | .s => 1
  | .sl _ => 1
  | .st l => Shp.ns l
def Shp.ns : List Shp → Nat
  | [] => 0
  | x :: r => x.n + Shp.ns r
end

mutual
/-- cells 'cs' are a value of the shape in world w -/
def Rd (w : World) : Shp → List Value → Prop
  | .i k, cs => ∃ n, cs = [.int k n] ∧ (Lit.int k n).wf = true
  | .b, cs => ∃ x, cs = [.bool x]
  | .s, cs => ∃ x : ByteArray, cs = [.string x] ∧ x.size ≤ maxLen
  | .sl e, cs => cs = [.slice none 0 0] ∨ ∃ a len cap, cs = [.slice (some a) len cap] ∧ len ≤ cap ∧ cap ≤ maxLen ∧
      ∀ i, i < len → ∃ cs', cs'.length = e.n ∧ (∀ j, j < e.n → w.cell? (a.add (i * e.n + j)) = cs'[j]?) ∧ Rd w e cs'
  | .st l, cs => Rds w l cs
def Rds (w : World) : List Shp → List Value → Prop
  | [], cs => cs = []
  | x :: r, cs => ∃ c1 c2, cs = c1 ++ c2 ∧ c1.length = x.n ∧ Rd w x c1 ∧ Rds w r c2
end

mutual
def fitB (P : Program) : Shp → TypeId → Bool
  | .i k, t => match P.underlying t with | some (.int k') => k' == k | _ => false
  | .b, t => match P.underlying t with | some .bool => true | _ => false
  | .s, t => match P.underlying t with | some .string => true | _ => false
  | .sl e, t => match P.underlying t with | some (.slice e') => fitB P e e' && P.cellsOf e' == e.n | _ => false
  | .st l, t => match P.underlying t with | some (.struct fs) => fitsB P l fs.toList 0 && P.cellsOf t == Shp.ns l | _ => false
def fitsB (P : Program) : List Shp → List Field → Nat → Bool
  | [], [], _ => true
  | x :: r, f :: fs, off => f.offset == off && P.cellsOf f.type == x.n && fitB P x f.type && fitsB P r fs (off + x.n)
  | _, _, _ => false
end

section
variable {H : Type} {enc : TypeId × Value → H} {P : Program} {w : World} {sp : Nat → Bool} {held : Bool}

mutual
theorem rd_of_trod (sh : Shp) {t : TypeId} (hf : fitB P sh t = true) {fuel : Nat} {cs : List Value} {x : DataW H × List MemPlace}
    (h : DataW.trod enc P w 0 sp held fuel t cs = some x) : cs.length = sh.n ∧ Rd w sh cs := by
  match sh with
  | .i k =>
    unfold fitB at hf
    split at hf
    · rename_i k' ht
      obtain rfl : k' = k := by simpa using hf
      obtain ⟨n, rfl, _, hw⟩ := DataW.trod_int ht h
      exact ⟨rfl, by unfold Rd; exact ⟨n, rfl, hw⟩⟩
    · cases hf
  | .b =>
    unfold fitB at hf
    split at hf
    · rename_i ht
      obtain ⟨n, rfl, _⟩ := DataW.trod_bool ht h
      exact ⟨rfl, by unfold Rd; exact ⟨n, rfl⟩⟩
    · cases hf
  | .s =>
    unfold fitB at hf
    split at hf
    · rename_i ht
      obtain ⟨n, rfl, _, hw⟩ := DataW.trod_string ht h
      exact ⟨rfl, by unfold Rd; exact ⟨n, rfl, hw⟩⟩
    · cases hf
  | .sl e =>
    unfold fitB at hf
    split at hf
    · rename_i e' ht
      simp only [Bool.and_eq_true, beq_iff_eq] at hf
      obtain ⟨hfe, hn⟩ := hf
      rcases open_slice ht h with ⟨rfl, _⟩ | ⟨a, len, cap, m, n, D, Pl, rfl, _, hl, hm, hmm, _, hi⟩
      · exact ⟨rfl, by unfold Rd; exact .inl rfl⟩
      · refine ⟨rfl, ?_⟩
        unfold Rd
        refine .inr ⟨a, len, cap, rfl, hl, hm, fun i hlt => ?_⟩
        obtain ⟨cs', hc, ht'⟩ := hi i (by rw [hmm]; split <;> omega)
        obtain ⟨hlen, hr⟩ := rd_of_trod e hfe ht'
        refine ⟨cs', hlen, fun j hj => ?_, hr⟩
        obtain ⟨_, hcl, hat⟩ := World.cells?_some hc
        rw [← hn, ← Go.Deep.add_add]
        exact hat j (by omega)
    · cases hf
  | .st l =>
    unfold fitB at hf
    split at hf
    · rename_i fs ht
      simp only [Bool.and_eq_true, beq_iff_eq] at hf
      obtain ⟨hfs, hn⟩ := hf
      obtain ⟨xs, n, _, _, hlen, hxs, hg⟩ := DataW.trod_struct ht h
      have hall : ∀ (i : Nat) (f : Field), fs.toList[i]? = some f → ∃ y, DataW.trod enc P w 0 sp held n f.type ((cs.drop f.offset).take (P.cellsOf f.type)) = some y := by
        intro i f hi
        have hi' : fs[i]? = some f := by simpa using hi
        have hil : i < fs.size := (Array.getElem?_eq_some_iff.1 hi').1
        exact ⟨xs[i]'(by omega), by rw [hg i f hi']; exact List.getElem?_eq_getElem (by omega)⟩
      refine ⟨by rw [hlen, hn]; rfl, ?_⟩
      unfold Rd
      have := rds_of_trod l hfs (n := n) (cs := cs) hall (by rw [hlen, hn]; simp)
      simpa using this
    · cases hf
theorem rds_of_trod (l : List Shp) {fs : List Field} {off : Nat} (hf : fitsB P l fs off = true) {n : Nat} {cs : List Value}
    (hall : ∀ (i : Nat) (f : Field), fs[i]? = some f → ∃ y, DataW.trod enc P w 0 sp held n f.type ((cs.drop f.offset).take (P.cellsOf f.type)) = some y)
    (hlen : cs.length = off + Shp.ns l) : Rds w l (cs.drop off) := by
  match l, fs with
  | [], [] =>
    unfold Rds
    unfold Shp.ns at hlen
    exact List.drop_eq_nil_of_le (by omega)
  | x :: r, f :: fs =>
    unfold fitsB at hf
    simp only [Bool.and_eq_true, beq_iff_eq] at hf
    obtain ⟨⟨⟨ho, hc⟩, hx⟩, hr⟩ := hf
    unfold Shp.ns at hlen
    obtain ⟨y, hy⟩ := hall 0 f rfl
    rw [ho, hc] at hy
    obtain ⟨hl1, h1⟩ := rd_of_trod x hx hy
    have h2 := rds_of_trod r hr (n := n) (cs := cs) (fun i f' hi => hall (i + 1) f' (by simpa using hi)) (by omega)
    unfold Rds
    refine ⟨_, _, ?_, hl1, h1, h2⟩
    rw [← List.drop_drop]
    exact (List.take_append_drop _ _).symm
  | [], _ :: _ => unfold fitsB at hf; cases hf
  | _ :: _, [] => unfold fitsB at hf; cases hf
end

/-- an argument of a shape: a struct's cells lie in the value -/
def RdV (w : World) (sh : Shp) (v : Value) : Prop :=
  match sh with
  | .st l => ∃ cs : Array Value, v = .agg cs ∧ Rds w l cs.toList
  | sh => Rd w sh [v]

/-- one after the other, the arguments -/
def RdAll (w : World) : List Shp → List Value → Prop
  | [], vs => vs = []
  | x :: r, vs => ∃ v vs', vs = v :: vs' ∧ RdV w x v ∧ RdAll w r vs'

theorem okWide_noagg {r : Reach} {b0 : Nat} {t : TypeId} {v : Value} (h : Cell.okWide P w r b0 t v) (cs : Array Value) : v ≠ .agg cs := by
  intro e
  subst e
  unfold Cell.okWide Cell.ok at h
  cases hu : P.underlying t with
  | none => rw [hu] at h; exact h
  | some d => rw [hu] at h; cases d <;> exact h

theorem rdV_of_trod {r : Reach} {b0 : Nat} (sh : Shp) {t : TypeId} {v : Value} (hf : fitB P sh t = true) (hv : Value.okWide P w r b0 t v) {fuel : Nat} {x : DataW H × List MemPlace}
    (h : DataW.trod enc P w 0 sp held fuel t v.cells.toList = some x) : RdV w sh v := by
  have h1 := (rd_of_trod sh hf h).2
  have one : (∀ l, sh ≠ .st l) → (∀ d, P.underlying t = some d → (∀ fs, d ≠ .struct fs) ∧ (∀ n e, d ≠ .array n e)) → v.cells.toList = [v] := by
    intro _ hd
    have : Cell.okWide P w r b0 t v := by
      unfold Value.okWide at hv
      split at hv
      · rename_i fs hu; exact absurd rfl ((hd _ hu).1 fs)
      · rename_i n e hu; exact absurd rfl ((hd _ hu).2 n e)
      · exact hv
    have hn := okWide_noagg this
    cases v <;> simp_all [Value.cells]
  match sh with
  | .st l =>
    unfold fitB at hf
    split at hf
    · rename_i fs hu
      unfold Value.okWide at hv
      rw [hu] at hv
      obtain ⟨cs, rfl, _⟩ := hv
      unfold RdV
      unfold Rd at h1
      exact ⟨cs, rfl, h1⟩
    · cases hf
  | .i k =>
    unfold fitB at hf
    split at hf
    · rename_i k' hu
      rw [one (by simp) (by intro d hd; rw [hu] at hd; cases hd; simp)] at h1
      exact h1
    · cases hf
  | .b =>
    unfold fitB at hf
    split at hf
    · rename_i hu
      rw [one (by simp) (by intro d hd; rw [hu] at hd; cases hd; simp)] at h1
      exact h1
    · cases hf
  | .s =>
    unfold fitB at hf
    split at hf
    · rename_i hu
      rw [one (by simp) (by intro d hd; rw [hu] at hd; cases hd; simp)] at h1
      exact h1
    · cases hf
  | .sl e =>
    unfold fitB at hf
    split at hf
    · rename_i e' hu
      rw [one (by simp) (by intro d hd; rw [hu] at hd; cases hd; simp)] at h1
      exact h1
    · cases hf

theorem rdAll_of_trod : (shs : List Shp) → {ts : List TypeId} → {vs : List Value} → {ds : List (DataW H)} → {p : List MemPlace} → {r : Reach} → {b0 : Nat} →
    (hf : (shs.zip ts).all (fun x => fitB P x.1 x.2) = true) → (hlen : shs.length = ts.length) →
    (hv : ∀ (j : Nat) t v, ts[j]? = some t → vs[j]? = some v → Value.okWide P w r b0 t v) →
    DataW.TrodAll enc P w 0 sp held ts vs ds p → RdAll w shs vs
  | [], [], vs, ds, p, _, _, _, _, _, h => by
    cases vs <;> cases ds <;> simp_all [DataW.TrodAll, RdAll]
  | x :: r, t :: ts, vs, ds, p, _, _, hf, hlen, hv, h => by
    simp only [List.zip_cons_cons, List.all_cons, Bool.and_eq_true] at hf
    match vs, ds, h with
    | v :: vs, d :: ds, ⟨p1, q1, ⟨fuel, h1⟩, h2, _⟩ =>
      unfold RdAll
      exact ⟨v, vs, rfl, rdV_of_trod x hf.1 (hv 0 t v rfl rfl) h1, rdAll_of_trod r hf.2 (by simpa using hlen) (fun j t v h1 h2 => hv (j + 1) t v (by simpa using h1) (by simpa using h2)) h2⟩

theorem trodAll_below (hl : laidOutB P = true) {W W' : World} (hb : Below W.heap.size W W') : (ts : List TypeId) → {vs : List Value} → {ds : List (DataW H)} → {p : List MemPlace} →
    (hr : ts.all (fun t => P.readableRec t && decide (t < P.types.size)) = true) →
    DataW.TrodAll enc P W 0 (fun _ => true) true ts vs ds p → (∀ x ∈ p, x.block < W.heap.size) →
    DataW.TrodAll enc P W' 0 (fun b => decide (b < W.heap.size)) true ts vs ds p
  | [], vs, ds, p, _, h, _ => by
    cases vs <;> cases ds <;> simp_all [DataW.TrodAll]
  | t :: ts, vs, ds, p, hr, h, hlt => by
    simp only [List.all_cons, Bool.and_eq_true, decide_eq_true_eq] at hr
    match vs, ds, h with
    | v :: vs, d :: ds, ⟨p1, q1, h1, h2, he⟩ =>
      subst he
      exact ⟨p1, q1, Below.trod hl hr.1.1 hr.1.2 h1 hb (fun x hx => hlt x (by simp [hx])), trodAll_below hl hb ts hr.2 h2 (fun x hx => hlt x (by simp [hx])), rfl⟩

/-- THE LAW's POST, out of 'true, and nothing that lay there has turned'. -/
theorem law_post {F : FuncId} {fn : Func} {s : ChangeSpec} {B : TypeId} {W : World} {args : Array Value} {ds gs : List (DataW H)} {before : List MemPlace}
    (hs : ∀ ds : List (DataW H), ds.length = fn.params.size → s.fn H ds = { results := [.lit (.bool true)], args := ds }) (hv : s.vars = []) (hr : fn.resultTypes = #[B]) (hB : P.underlying B = some .bool)
    (hp : fn.params.toList.all (fun t => P.readableRec t && decide (t < P.types.size)) = true) (hl : laidOutB P = true)
    (hW : DataW.Whole enc P fn.params.toList s.vars false W args.toList ds gs before)
    (h : Calls P F args W fun e W' => e = .returned (.bool true) ∧ Below W.heap.size W W') :
    Calls P F args W fun e W' => ∃ v, e = .returned v ∧ s.post enc P fn false true false false W args v W' := by
  refine h.mono fun e W' ⟨he, bel⟩ => ?_
  subst he
  have hW' := hW
  have hlt := fun x hx => hW.lt x hx
  obtain ⟨p, q, hA, hV, rfl, hfz, hnd⟩ := hW
  rw [hv] at hV
  obtain ⟨rfl, rfl⟩ := trodVars_none hV
  have hlen : ds.length = fn.params.size := by
    have : ∀ (ts : List TypeId) (vs : List Value) (ds : List (DataW H)) (p : List MemPlace), DataW.TrodAll enc P W 0 (fun _ => true) true ts vs ds p → ds.length = ts.length := by
      intro ts
      induction ts with
      | nil => intro vs ds p h; cases vs <;> cases ds <;> simp_all [DataW.TrodAll]
      | cons t ts ih =>
        intro vs ds p h
        match vs, ds, h with
        | v :: vs, d :: ds, ⟨p1, q1, h1, h2, _⟩ => simp [ih _ _ _ h2]
    simpa using this _ _ _ _ hA
  have hfn := hs ds hlen
  refine ⟨_, rfl, ds, [], p ++ [], [], p, [], hW', ?_, ?_, ?_, bel.frame _, fun h => by cases h⟩
  · rw [List.append_nil, hfn, hr]
    exact trodAll_mk1 (shut_bool hB _)
  · rw [List.append_nil, hfn]
    exact trodAll_below hl bel _ hp hA (fun x hx => hlt x (by simp [hx]))
  · rw [List.append_nil, hfn, hv]
    rfl
end

theorem rd_slice {w : World} {e : Shp} {v : Value} (h : RdV w (.sl e) v) : v = .slice none 0 0 ∨ ∃ a len cap, v = .slice (some a) len cap ∧ len ≤ cap ∧ cap ≤ maxLen ∧
      ∀ i, i < len → ∃ cs', cs'.length = e.n ∧ (∀ j, j < e.n → w.cell? (a.add (i * e.n + j)) = cs'[j]?) ∧ Rd w e cs' := by
  unfold RdV Rd at h
  rcases h with h | ⟨a, len, cap, h, r⟩
  · simp at h; exact .inl h
  · simp at h; exact .inr ⟨a, len, cap, h, r⟩

theorem rd_int {w : World} {k : IntKind} {v : Value} (h : RdV w (.i k) v) : ∃ n, v = .int k n ∧ (Lit.int k n).wf = true := by
  unfold RdV Rd at h
  simpa using h

theorem rd_str {w : World} {v : Value} (h : RdV w .s v) : ∃ s : ByteArray, v = .string s ∧ s.size ≤ maxLen := by
  unfold RdV Rd at h
  simpa using h

theorem rd_bool {w : World} {v : Value} (h : RdV w .b v) : ∃ b, v = .bool b := by
  unfold RdV Rd at h
  simpa using h

theorem add_none (b o n : Nat) : (⟨b, o, none⟩ : Addr).add n = ⟨b, o + n, none⟩ := by
  unfold Addr.add
  split
  · subst_vars; rfl
  · rfl

theorem cell_lt {w : World} {a : Addr} {v : Value} (h : w.cell? a = some v) : a.block < w.heap.size := by
  unfold World.cell? at h
  split at h
  · rename_i c e f hb
    exact (Array.getElem?_eq_some_iff.1 hb).1
  · cases h

theorem cell_spot {w : World} {a : Addr} {v : Value} (h : w.cell? a = some v) : a.spot = none := by
  unfold World.cell? at h
  split at h
  · split at h
    · cases h
    · rename_i hs
      simpa using hs
  · cases h

theorem slice_base {w : World} {e : Shp} {a : Addr} {len : Nat} (hl : 0 < len) (hn : 0 < e.n)
    (h : ∀ i, i < len → ∃ cs', cs'.length = e.n ∧ (∀ j, j < e.n → w.cell? (a.add (i * e.n + j)) = cs'[j]?) ∧ Rd w e cs') :
    ∃ b o, a = ⟨b, o, none⟩ ∧ b < w.heap.size := by
  obtain ⟨cs, hlen, hat, _⟩ := h 0 hl
  have h0 := hat 0 hn
  rw [List.getElem?_eq_getElem (by omega)] at h0
  simp only [Nat.zero_mul, Nat.add_zero, Addr.add, if_true] at h0
  obtain ⟨b, o, s⟩ := a
  exact ⟨b, o, by have := cell_spot h0; simp_all, cell_lt h0⟩

theorem exists_list {α : Type} {P : Nat → α → Prop} : (n : Nat) → (∀ i, i < n → ∃ x, P i x) → ∃ l : List α, l.length = n ∧ ∀ (i : Nat) (h : i < l.length), P i l[i]
  | 0, _ => ⟨[], rfl, fun i h => absurd h (by simp)⟩
  | n + 1, h => by
    obtain ⟨l, hl, hp⟩ := exists_list n (fun i hi => h i (by omega))
    obtain ⟨x, hx⟩ := h n (by omega)
    refine ⟨l ++ [x], by simp [hl], fun i hi => ?_⟩
    by_cases hc : i < l.length
    · rw [List.getElem_append_left hc]; exact hp i hc
    · have : i = l.length := by simp at hi; omega
      subst this
      simp [hl, hx]

theorem rds_cons {w : World} {x : Shp} {r : List Shp} {cs : List Value} (h : Rds w (x :: r) cs) : ∃ c1 c2, cs = c1 ++ c2 ∧ Rd w x c1 ∧ Rds w r c2 := by
  unfold Rds at h
  obtain ⟨c1, c2, h1, _, h2, h3⟩ := h
  exact ⟨c1, c2, h1, h2, h3⟩
theorem rds_nil {w : World} {cs : List Value} (h : Rds w [] cs) : cs = [] := by
  unfold Rds at h
  exact h
theorem rd_st {w : World} {l : List Shp} {cs : List Value} (h : Rd w (.st l) cs) : Rds w l cs := by
  unfold Rd at h
  exact h
theorem rdc_int {w : World} {k : IntKind} {cs : List Value} (h : Rd w (.i k) cs) : ∃ n, cs = [.int k n] ∧ (Lit.int k n).wf = true := by
  unfold Rd at h
  exact h
theorem rdc_str {w : World} {cs : List Value} (h : Rd w .s cs) : ∃ x : ByteArray, cs = [.string x] ∧ x.size ≤ maxLen := by
  unfold Rd at h
  exact h
theorem rdc_bool {w : World} {cs : List Value} (h : Rd w .b cs) : ∃ x, cs = [.bool x] := by
  unfold Rd at h
  exact h
theorem rdc_slice {w : World} {e : Shp} {cs : List Value} (h : Rd w (.sl e) cs) : ∃ a len cap, cs = [.slice a len cap] := by
  unfold Rd at h
  rcases h with rfl | ⟨a, len, cap, rfl, _⟩
  · exact ⟨none, 0, 0, rfl⟩
  · exact ⟨some a, len, cap, rfl⟩

theorem progOwn : ownKnob Tryz.prog.godebug = none := by kernel_rfl
theorem progLaid : laidOutB Tryz.prog = true := by kernel_rfl
end Go.Proofs.YtmagddchjidamaaGreatDoor
