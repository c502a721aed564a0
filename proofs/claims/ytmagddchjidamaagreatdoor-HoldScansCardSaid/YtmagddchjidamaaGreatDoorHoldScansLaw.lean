/- HoldScans: the law and its card; for every input; no condition. -/
import Derived.Test.YtmagddchjidamaaGreatDoorProg
import Derived.Test.YtmagddchjidamaaGreatDoorChecked
import Derived.WalkKit
import Derived.ProofKit
import Derived.OpenShut
import Derived.ShutString
import Derived.ChangeOld
import Derived.Below
import Derived.Deep.Slices
import Derived.Deep.Fields
import Derived.ChangeSame
import Derived.StringKeys
import Derived.Test.YtmagddchjidamaaGreatDoorSeqRows
import Derived.Test.YtmagddchjidamaaGreatDoorArcPlain
import Derived.Test.YtmagddchjidamaaGreatDoorRows
import Derived.Test.YtmagddchjidamaaGreatDoorTie
import Derived.Test.YtmagddchjidamaaGreatDoorCards
import Derived.Test.YtmagddchjidamaaGreatDoorHoldScansWalk
import Derived.LaidMore
import Derived.Lay
import Derived.SevenTiedAt
import Derived.Stop.Joined
/- The frame of a law: from 'the call returns true and turns nothing that lay there' to the given statement; and what an argument that can be read looks like in memory, by its shape. -/
namespace Go.Proofs.YtmagddchjidamaaGreatDoor
set_option linter.unusedSimpArgs false
set_option linter.unusedVariables false
open Go.ChangeShapes Go.WideShapes Go.ChangeAt Go.RowKit Go.Deep

/-- the shape of a type that is plain data -/
inductive Shp where
  | i (k : IntKind)
  | b
  | s
  | sl (e : Shp)
  | st (l : List Shp)

mutual
def Shp.n : Shp → Nat
  | .i _ => 1
  | .b => 1
  | .s => 1
  | .sl _ => 1
  | .st l => Shp.ns l
def Shp.ns : List Shp → Nat
  | [] => 0
  | x :: r => x.n + Shp.ns r
end

mutual
/-- cells 'cs' are a value of the shape in world w -/
def Rd (w : World) : Shp → List Value → Prop
  | .i k, cs => ∃ n, cs = [.int k n] ∧ (Lit.int k n).wf = true
  | .b, cs => ∃ x, cs = [.bool x]
  | .s, cs => ∃ x : ByteArray, cs = [.string x] ∧ x.size ≤ maxLen
  | .sl e, cs => cs = [.slice none 0 0] ∨ ∃ a len cap, cs = [.slice (some a) len cap] ∧ len ≤ cap ∧ cap ≤ maxLen ∧
      ∀ i, i < len → ∃ cs', cs'.length = e.n ∧ (∀ j, j < e.n → w.cell? (a.add (i * e.n + j)) = cs'[j]?) ∧ Rd w e cs'
  | .st l, cs => Rds w l cs
def Rds (w : World) : List Shp → List Value → Prop
  | [], cs => cs = []
  | x :: r, cs => ∃ c1 c2, cs = c1 ++ c2 ∧ c1.length = x.n ∧ Rd w x c1 ∧ Rds w r c2
end

mutual
def fitB (P : Program) : Shp → TypeId → Bool
  | .i k, t => match P.underlying t with | some (.int k') => k' == k | _ => false
  | .b, t => match P.underlying t with | some .bool => true | _ => false
  | .s, t => match P.underlying t with | some .string => true | _ => false
  | .sl e, t => match P.underlying t with | some (.slice e') => fitB P e e' && P.cellsOf e' == e.n | _ => false
  | .st l, t => match P.underlying t with | some (.struct fs) => fitsB P l fs.toList 0 && P.cellsOf t == Shp.ns l | _ => false
def fitsB (P : Program) : List Shp → List Field → Nat → Bool
  | [], [], _ => true
  | x :: r, f :: fs, off => f.offset == off && P.cellsOf f.type == x.n && fitB P x f.type && fitsB P r fs (off + x.n)
  | _, _, _ => false
end

section
variable {H : Type} {enc : TypeId × Value → H} {P : Program} {w : World} {sp : Nat → Bool} {held : Bool}

mutual
theorem rd_of_trod (sh : Shp) {t : TypeId} (hf : fitB P sh t = true) {fuel : Nat} {cs : List Value} {x : DataW H × List MemPlace}
    (h : DataW.trod enc P w 0 sp held fuel t cs = some x) : cs.length = sh.n ∧ Rd w sh cs := by
  match sh with
  | .i k =>
    unfold fitB at hf
    split at hf
    · rename_i k' ht
      obtain rfl : k' = k := by simpa using hf
      obtain ⟨n, rfl, _, hw⟩ := DataW.trod_int ht h
      exact ⟨rfl, by unfold Rd; exact ⟨n, rfl, hw⟩⟩
    · cases hf
  | .b =>
    unfold fitB at hf
    split at hf
    · rename_i ht
      obtain ⟨n, rfl, _⟩ := DataW.trod_bool ht h
      exact ⟨rfl, by unfold Rd; exact ⟨n, rfl⟩⟩
    · cases hf
  | .s =>
    unfold fitB at hf
    split at hf
    · rename_i ht
      obtain ⟨n, rfl, _, hw⟩ := DataW.trod_string ht h
      exact ⟨rfl, by unfold Rd; exact ⟨n, rfl, hw⟩⟩
    · cases hf
  | .sl e =>
    unfold fitB at hf
    split at hf
    · rename_i e' ht
      simp only [Bool.and_eq_true, beq_iff_eq] at hf
      obtain ⟨hfe, hn⟩ := hf
      rcases open_slice ht h with ⟨rfl, _⟩ | ⟨a, len, cap, m, n, D, Pl, rfl, _, hl, hm, hmm, _, hi⟩
      · exact ⟨rfl, by unfold Rd; exact .inl rfl⟩
      · refine ⟨rfl, ?_⟩
        unfold Rd
        refine .inr ⟨a, len, cap, rfl, hl, hm, fun i hlt => ?_⟩
        obtain ⟨cs', hc, ht'⟩ := hi i (by rw [hmm]; split <;> omega)
        obtain ⟨hlen, hr⟩ := rd_of_trod e hfe ht'
        refine ⟨cs', hlen, fun j hj => ?_, hr⟩
        obtain ⟨_, hcl, hat⟩ := World.cells?_some hc
        rw [← hn, ← Go.Deep.add_add]
        exact hat j (by omega)
    · cases hf
  | .st l =>
    unfold fitB at hf
    split at hf
    · rename_i fs ht
      simp only [Bool.and_eq_true, beq_iff_eq] at hf
      obtain ⟨hfs, hn⟩ := hf
      obtain ⟨xs, n, _, _, hlen, hxs, hg⟩ := DataW.trod_struct ht h
      have hall : ∀ (i : Nat) (f : Field), fs.toList[i]? = some f → ∃ y, DataW.trod enc P w 0 sp held n f.type ((cs.drop f.offset).take (P.cellsOf f.type)) = some y := by
        intro i f hi
        have hi' : fs[i]? = some f := by simpa using hi
        have hil : i < fs.size := (Array.getElem?_eq_some_iff.1 hi').1
        exact ⟨xs[i]'(by omega), by rw [hg i f hi']; exact List.getElem?_eq_getElem (by omega)⟩
      refine ⟨by rw [hlen, hn]; rfl, ?_⟩
      unfold Rd
      have := rds_of_trod l hfs (n := n) (cs := cs) hall (by rw [hlen, hn]; simp)
      simpa using this
    · cases hf
theorem rds_of_trod (l : List Shp) {fs : List Field} {off : Nat} (hf : fitsB P l fs off = true) {n : Nat} {cs : List Value}
    (hall : ∀ (i : Nat) (f : Field), fs[i]? = some f → ∃ y, DataW.trod enc P w 0 sp held n f.type ((cs.drop f.offset).take (P.cellsOf f.type)) = some y)
    (hlen : cs.length = off + Shp.ns l) : Rds w l (cs.drop off) := by
  match l, fs with
  | [], [] =>
    unfold Rds
    unfold Shp.ns at hlen
    exact List.drop_eq_nil_of_le (by omega)
  | x :: r, f :: fs =>
    unfold fitsB at hf
    simp only [Bool.and_eq_true, beq_iff_eq] at hf
    obtain ⟨⟨⟨ho, hc⟩, hx⟩, hr⟩ := hf
    unfold Shp.ns at hlen
    obtain ⟨y, hy⟩ := hall 0 f rfl
    rw [ho, hc] at hy
    obtain ⟨hl1, h1⟩ := rd_of_trod x hx hy
    have h2 := rds_of_trod r hr (n := n) (cs := cs) (fun i f' hi => hall (i + 1) f' (by simpa using hi)) (by omega)
    unfold Rds
    refine ⟨_, _, ?_, hl1, h1, h2⟩
    rw [← List.drop_drop]
    exact (List.take_append_drop _ _).symm
  | [], _ :: _ => unfold fitsB at hf; cases hf
  | _ :: _, [] => unfold fitsB at hf; cases hf
end

/-- an argument of a shape: a struct's cells lie in the value -/
def RdV (w : World) (sh : Shp) (v : Value) : Prop :=
  match sh with
  | .st l => ∃ cs : Array Value, v = .agg cs ∧ Rds w l cs.toList
  | sh => Rd w sh [v]

/-- one after the other, the arguments -/
def RdAll (w : World) : List Shp → List Value → Prop
  | [], vs => vs = []
  | x :: r, vs => ∃ v vs', vs = v :: vs' ∧ RdV w x v ∧ RdAll w r vs'

theorem okWide_noagg {r : Reach} {b0 : Nat} {t : TypeId} {v : Value} (h : Cell.okWide P w r b0 t v) (cs : Array Value) : v ≠ .agg cs := by
  intro e
  subst e
  unfold Cell.okWide Cell.ok at h
  cases hu : P.underlying t with
  | none => rw [hu] at h; exact h
  | some d => rw [hu] at h; cases d <;> exact h

theorem rdV_of_trod {r : Reach} {b0 : Nat} (sh : Shp) {t : TypeId} {v : Value} (hf : fitB P sh t = true) (hv : Value.okWide P w r b0 t v) {fuel : Nat} {x : DataW H × List MemPlace}
    (h : DataW.trod enc P w 0 sp held fuel t v.cells.toList = some x) : RdV w sh v := by
  have h1 := (rd_of_trod sh hf h).2
  have one : (∀ l, sh ≠ .st l) → (∀ d, P.underlying t = some d → (∀ fs, d ≠ .struct fs) ∧ (∀ n e, d ≠ .array n e)) → v.cells.toList = [v] := by
    intro _ hd
    have : Cell.okWide P w r b0 t v := by
      unfold Value.okWide at hv
      split at hv
      · rename_i fs hu; exact absurd rfl ((hd _ hu).1 fs)
      · rename_i n e hu; exact absurd rfl ((hd _ hu).2 n e)
      · exact hv
    have hn := okWide_noagg this
    cases v <;> simp_all [Value.cells]
  match sh with
  | .st l =>
    unfold fitB at hf
    split at hf
    · rename_i fs hu
      unfold Value.okWide at hv
      rw [hu] at hv
      obtain ⟨cs, rfl, _⟩ := hv
      unfold RdV
      unfold Rd at h1
      exact ⟨cs, rfl, h1⟩
    · cases hf
  | .i k =>
    unfold fitB at hf
    split at hf
    · rename_i k' hu
      rw [one (by simp) (by intro d hd; rw [hu] at hd; cases hd; simp)] at h1
      exact h1
    · cases hf
  | .b =>
    unfold fitB at hf
    split at hf
    · rename_i hu
      rw [one (by simp) (by intro d hd; rw [hu] at hd; cases hd; simp)] at h1
      exact h1
    · cases hf
  | .s =>
    unfold fitB at hf
    split at hf
    · rename_i hu
      rw [one (by simp) (by intro d hd; rw [hu] at hd; cases hd; simp)] at h1
      exact h1
    · cases hf
  | .sl e =>
    unfold fitB at hf
    split at hf
    · rename_i e' hu
      rw [one (by simp) (by intro d hd; rw [hu] at hd; cases hd; simp)] at h1
      exact h1
    · cases hf

theorem rdAll_of_trod : (shs : List Shp) → {ts : List TypeId} → {vs : List Value} → {ds : List (DataW H)} → {p : List MemPlace} → {r : Reach} → {b0 : Nat} →
    (hf : (shs.zip ts).all (fun x => fitB P x.1 x.2) = true) → (hlen : shs.length = ts.length) →
    (hv : ∀ (j : Nat) t v, ts[j]? = some t → vs[j]? = some v → Value.okWide P w r b0 t v) →
    DataW.TrodAll enc P w 0 sp held ts vs ds p → RdAll w shs vs
  | [], [], vs, ds, p, _, _, _, _, _, h => by
    cases vs <;> cases ds <;> simp_all [DataW.TrodAll, RdAll]
  | x :: r, t :: ts, vs, ds, p, _, _, hf, hlen, hv, h => by
    simp only [List.zip_cons_cons, List.all_cons, Bool.and_eq_true] at hf
    match vs, ds, h with
    | v :: vs, d :: ds, ⟨p1, q1, ⟨fuel, h1⟩, h2, _⟩ =>
      unfold RdAll
      exact ⟨v, vs, rfl, rdV_of_trod x hf.1 (hv 0 t v rfl rfl) h1, rdAll_of_trod r hf.2 (by simpa using hlen) (fun j t v h1 h2 => hv (j + 1) t v (by simpa using h1) (by simpa using h2)) h2⟩

theorem trodAll_below (hl : laidOutB P = true) {W W' : World} (hb : Below W.heap.size W W') : (ts : List TypeId) → {vs : List Value} → {ds : List (DataW H)} → {p : List MemPlace} →
    (hr : ts.all (fun t => P.readableRec t && decide (t < P.types.size)) = true) →
    DataW.TrodAll enc P W 0 (fun _ => true) true ts vs ds p → (∀ x ∈ p, x.block < W.heap.size) →
    DataW.TrodAll enc P W' 0 (fun b => decide (b < W.heap.size)) true ts vs ds p
  | [], vs, ds, p, _, h, _ => by
    cases vs <;> cases ds <;> simp_all [DataW.TrodAll]
  | t :: ts, vs, ds, p, hr, h, hlt => by
    simp only [List.all_cons, Bool.and_eq_true, decide_eq_true_eq] at hr
    match vs, ds, h with
    | v :: vs, d :: ds, ⟨p1, q1, h1, h2, he⟩ =>
      subst he
      exact ⟨p1, q1, Below.trod hl hr.1.1 hr.1.2 h1 hb (fun x hx => hlt x (by simp [hx])), trodAll_below hl hb ts hr.2 h2 (fun x hx => hlt x (by simp [hx])), rfl⟩

/-- THE LAW's POST, out of 'true, and nothing that lay there has turned'. -/
theorem law_post {F : FuncId} {fn : Func} {s : ChangeSpec} {B : TypeId} {W : World} {args : Array Value} {ds gs : List (DataW H)} {before : List MemPlace}
    (hs : ∀ ds : List (DataW H), ds.length = fn.params.size → s.fn H ds = { results := [.lit (.bool true)], args := ds }) (hv : s.vars = []) (hr : fn.resultTypes = #[B]) (hB : P.underlying B = some .bool)
    (hp : fn.params.toList.all (fun t => P.readableRec t && decide (t < P.types.size)) = true) (hl : laidOutB P = true)
    (hW : DataW.Whole enc P fn.params.toList s.vars false W args.toList ds gs before)
    (h : Calls P F args W fun e W' => e = .returned (.bool true) ∧ Below W.heap.size W W') :
    Calls P F args W fun e W' => ∃ v, e = .returned v ∧ s.post enc P fn false true false false W args v W' := by
  refine h.mono fun e W' ⟨he, bel⟩ => ?_
  subst he
  have hW' := hW
  have hlt := fun x hx => hW.lt x hx
  obtain ⟨p, q, hA, hV, rfl, hfz, hnd⟩ := hW
  rw [hv] at hV
  obtain ⟨rfl, rfl⟩ := trodVars_none hV
  have hlen : ds.length = fn.params.size := by
    have : ∀ (ts : List TypeId) (vs : List Value) (ds : List (DataW H)) (p : List MemPlace), DataW.TrodAll enc P W 0 (fun _ => true) true ts vs ds p → ds.length = ts.length := by
      intro ts
      induction ts with
      | nil => intro vs ds p h; cases vs <;> cases ds <;> simp_all [DataW.TrodAll]
      | cons t ts ih =>
        intro vs ds p h
        match vs, ds, h with
        | v :: vs, d :: ds, ⟨p1, q1, h1, h2, _⟩ => simp [ih _ _ _ h2]
    simpa using this _ _ _ _ hA
  have hfn := hs ds hlen
  refine ⟨_, rfl, ds, [], p ++ [], [], p, [], hW', ?_, ?_, ?_, bel.frame _, fun h => by cases h⟩
  · rw [List.append_nil, hfn, hr]
    exact trodAll_mk1 (shut_bool hB _)
  · rw [List.append_nil, hfn]
    exact trodAll_below hl bel _ hp hA (fun x hx => hlt x (by simp [hx]))
  · rw [List.append_nil, hfn, hv]
    rfl
end

theorem rd_slice {w : World} {e : Shp} {v : Value} (h : RdV w (.sl e) v) : v = .slice none 0 0 ∨ ∃ a len cap, v = .slice (some a) len cap ∧ len ≤ cap ∧ cap ≤ maxLen ∧
      ∀ i, i < len → ∃ cs', cs'.length = e.n ∧ (∀ j, j < e.n → w.cell? (a.add (i * e.n + j)) = cs'[j]?) ∧ Rd w e cs' := by
  unfold RdV Rd at h
  rcases h with h | ⟨a, len, cap, h, r⟩
  · simp at h; exact .inl h
  · simp at h; exact .inr ⟨a, len, cap, h, r⟩

theorem rd_int {w : World} {k : IntKind} {v : Value} (h : RdV w (.i k) v) : ∃ n, v = .int k n ∧ (Lit.int k n).wf = true := by
  unfold RdV Rd at h
  simpa using h

theorem rd_str {w : World} {v : Value} (h : RdV w .s v) : ∃ s : ByteArray, v = .string s ∧ s.size ≤ maxLen := by
  unfold RdV Rd at h
  simpa using h

theorem rd_bool {w : World} {v : Value} (h : RdV w .b v) : ∃ b, v = .bool b := by
  unfold RdV Rd at h
  simpa using h

theorem add_none (b o n : Nat) : (⟨b, o, none⟩ : Addr).add n = ⟨b, o + n, none⟩ := by
  unfold Addr.add
  split
  · subst_vars; rfl
  · rfl

theorem cell_lt {w : World} {a : Addr} {v : Value} (h : w.cell? a = some v) : a.block < w.heap.size := by
  unfold World.cell? at h
  split at h
  · rename_i c e f hb
    exact (Array.getElem?_eq_some_iff.1 hb).1
  · cases h

theorem cell_spot {w : World} {a : Addr} {v : Value} (h : w.cell? a = some v) : a.spot = none := by
  unfold World.cell? at h
  split at h
  · split at h
    · cases h
    · rename_i hs
      simpa using hs
  · cases h

theorem slice_base {w : World} {e : Shp} {a : Addr} {len : Nat} (hl : 0 < len) (hn : 0 < e.n)
    (h : ∀ i, i < len → ∃ cs', cs'.length = e.n ∧ (∀ j, j < e.n → w.cell? (a.add (i * e.n + j)) = cs'[j]?) ∧ Rd w e cs') :
    ∃ b o, a = ⟨b, o, none⟩ ∧ b < w.heap.size := by
  obtain ⟨cs, hlen, hat, _⟩ := h 0 hl
  have h0 := hat 0 hn
  rw [List.getElem?_eq_getElem (by omega)] at h0
  simp only [Nat.zero_mul, Nat.add_zero, Addr.add, if_true] at h0
  obtain ⟨b, o, s⟩ := a
  exact ⟨b, o, by have := cell_spot h0; simp_all, cell_lt h0⟩

theorem exists_list {α : Type} {P : Nat → α → Prop} : (n : Nat) → (∀ i, i < n → ∃ x, P i x) → ∃ l : List α, l.length = n ∧ ∀ (i : Nat) (h : i < l.length), P i l[i]
  | 0, _ => ⟨[], rfl, fun i h => absurd h (by simp)⟩
  | n + 1, h => by
    obtain ⟨l, hl, hp⟩ := exists_list n (fun i hi => h i (by omega))
    obtain ⟨x, hx⟩ := h n (by omega)
    refine ⟨l ++ [x], by simp [hl], fun i hi => ?_⟩
    by_cases hc : i < l.length
    · rw [List.getElem_append_left hc]; exact hp i hc
    · have : i = l.length := by simp at hi; omega
      subst this
      simp [hl, hx]

theorem rds_cons {w : World} {x : Shp} {r : List Shp} {cs : List Value} (h : Rds w (x :: r) cs) : ∃ c1 c2, cs = c1 ++ c2 ∧ Rd w x c1 ∧ Rds w r c2 := by
  unfold Rds at h
  obtain ⟨c1, c2, h1, _, h2, h3⟩ := h
  exact ⟨c1, c2, h1, h2, h3⟩
theorem rds_nil {w : World} {cs : List Value} (h : Rds w [] cs) : cs = [] := by
  unfold Rds at h
  exact h
theorem rd_st {w : World} {l : List Shp} {cs : List Value} (h : Rd w (.st l) cs) : Rds w l cs := by
  unfold Rd at h
  exact h
theorem rdc_int {w : World} {k : IntKind} {cs : List Value} (h : Rd w (.i k) cs) : ∃ n, cs = [.int k n] ∧ (Lit.int k n).wf = true := by
  unfold Rd at h
  exact h
theorem rdc_str {w : World} {cs : List Value} (h : Rd w .s cs) : ∃ x : ByteArray, cs = [.string x] ∧ x.size ≤ maxLen := by
  unfold Rd at h
  exact h
theorem rdc_bool {w : World} {cs : List Value} (h : Rd w .b cs) : ∃ x, cs = [.bool x] := by
  unfold Rd at h
  exact h
theorem rdc_slice {w : World} {e : Shp} {cs : List Value} (h : Rd w (.sl e) cs) : ∃ a len cap, cs = [.slice a len cap] := by
  unfold Rd at h
  rcases h with rfl | ⟨a, len, cap, rfl, _⟩
  · exact ⟨none, 0, 0, rfl⟩
  · exact ⟨some a, len, cap, rfl⟩

theorem progOwn : ownKnob Tryz.prog.godebug = none := by kernel_rfl
theorem progLaid : laidOutB Tryz.prog = true := by kernel_rfl
end Go.Proofs.YtmagddchjidamaaGreatDoor

/- Put together out of: Args, ArgsHold. -/
/- What an argument of events, of asks looks like: its rows as they are read. -/
namespace Go.Proofs.YtmagddchjidamaaGreatDoor
open Go.RowKit

def itShp : Shp := .st [.s, .s]
def askShp : Shp := .st [.i .i64, .s, .s, .s, .i .i64]
def evShp : Shp := .st [.i .i64, .i .i64, .i .i64, .i .i64, askShp, .st [.i .i64, .s, .sl itShp, .b, .s, .i .i64]]

theorem rd_ev {w : World} {cs : List Value} (h : Rd w evShp cs) : ∃ e : Ev, cs = e.cells := by
  obtain ⟨c1, r1, rfl, h1, h⟩ := rds_cons (rd_st h)
  obtain ⟨c2, r2, rfl, h2, h⟩ := rds_cons h
  obtain ⟨c3, r3, rfl, h3, h⟩ := rds_cons h
  obtain ⟨c4, r4, rfl, h4, h⟩ := rds_cons h
  obtain ⟨c5, r5, rfl, h5, h⟩ := rds_cons h
  obtain ⟨c6, r6, rfl, h6, h⟩ := rds_cons h
  obtain rfl := rds_nil h
  obtain ⟨d1, s1, rfl, g1, h⟩ := rds_cons (rd_st h5)
  obtain ⟨d2, s2, rfl, g2, h⟩ := rds_cons h
  obtain ⟨d3, s3, rfl, g3, h⟩ := rds_cons h
  obtain ⟨d4, s4, rfl, g4, h⟩ := rds_cons h
  obtain ⟨d5, s5, rfl, g5, h⟩ := rds_cons h
  obtain rfl := rds_nil h
  obtain ⟨e1, t1, rfl, f1, h⟩ := rds_cons (rd_st h6)
  obtain ⟨e2, t2, rfl, f2, h⟩ := rds_cons h
  obtain ⟨e3, t3, rfl, f3, h⟩ := rds_cons h
  obtain ⟨e4, t4, rfl, f4, h⟩ := rds_cons h
  obtain ⟨e5, t5, rfl, f5, h⟩ := rds_cons h
  obtain ⟨e6, t6, rfl, f6, h⟩ := rds_cons h
  obtain rfl := rds_nil h
  obtain ⟨n1, rfl, _⟩ := rdc_int h1
  obtain ⟨n2, rfl, _⟩ := rdc_int h2
  obtain ⟨n3, rfl, _⟩ := rdc_int h3
  obtain ⟨n4, rfl, _⟩ := rdc_int h4
  obtain ⟨m1, rfl, _⟩ := rdc_int g1
  obtain ⟨m2, rfl, _⟩ := rdc_str g2
  obtain ⟨m3, rfl, _⟩ := rdc_str g3
  obtain ⟨m4, rfl, _⟩ := rdc_str g4
  obtain ⟨m5, rfl, _⟩ := rdc_int g5
  obtain ⟨k1, rfl, _⟩ := rdc_int f1
  obtain ⟨k2, rfl, _⟩ := rdc_str f2
  obtain ⟨ia, il, ic, rfl⟩ := rdc_slice f3
  obtain ⟨k4, rfl⟩ := rdc_bool f4
  obtain ⟨k5, rfl, _⟩ := rdc_str f5
  obtain ⟨k6, rfl, _⟩ := rdc_int f6
  exact ⟨⟨n1, n2, n3, n4, m1, m2, m3, m4, m5, k1, k2, ia, il, ic, k4, k5, k6⟩, rfl⟩

/-- a slice argument whose elements read, one by one -/
theorem slAt_of_rd {α : Type} {k : Nat} {enc : α → List Value} {w : World} {e : Shp} {v : Value} (h : RdV w (.sl e) v) (hn : e.n = k) (hk : 0 < k) (hr : ∀ cs, cs.length = k → Rd w e cs → ∃ x : α, cs = enc x) :
    ∃ l : List α, SlAt k enc w v l ∧ l.length ≤ 9223372036854775807 := by
  rcases rd_slice h with rfl | ⟨a, len, cap, rfl, hl, hm, hi⟩
  · exact ⟨[], SlAt.nil _ _ _ _ _, by simp⟩
  by_cases h0 : len = 0
  · subst h0
    exact ⟨[], SlAt.nil _ _ _ _ _, by simp⟩
  obtain ⟨b, o, rfl, hlt⟩ := slice_base (by omega) (by omega) hi
  obtain ⟨l, hlen, hc⟩ := exists_list (P := fun i (x : α) => ∀ j u, (enc x)[j]? = some u → w.cell? ⟨b, o + i * k + j, none⟩ = some u) len (fun i h => by
    obtain ⟨cs, hcn, hat, hr'⟩ := hi i h
    rw [hn] at hcn hat
    obtain ⟨x, rfl⟩ := hr cs hcn hr'
    refine ⟨x, fun j u hu => ?_⟩
    have hj : j < k := by have := (List.getElem?_eq_some_iff.1 hu).1; omega
    have := hat j hj
    rw [add_none] at this
    rw [← hu, ← this, Nat.add_assoc])
  refine ⟨l, ⟨_, cap, by rw [hlen], fun i x hx => ⟨b, o, rfl, ?_⟩⟩, by unfold maxLen at hm; omega⟩
  have hil := (List.getElem?_eq_some_iff.1 hx).1
  have := hc i hil
  rw [(List.getElem?_eq_some_iff.1 hx).2] at this
  exact this

theorem evsAt_of_rd {w : World} {v : Value} (h : RdV w (.sl evShp) v) : ∃ l : List Ev, EvsAt w v l ∧ l.length ≤ 9223372036854775807 :=
  slAt_of_rd h rfl (by decide) (fun _ _ h => rd_ev h)
end Go.Proofs.YtmagddchjidamaaGreatDoor

/- What an argument of items, an arc looks like. -/
namespace Go.Proofs.YtmagddchjidamaaGreatDoor
open Go.RowKit

abbrev arcShp : Shp := .st [.i .u64, .i .u64]
abbrev itmShp : Shp := .st [.s, .s]

theorem pt_of_wf {n : Int} (h : (Lit.int .u64 n).wf = true) : Pt64 n := by
  have h1 : IntKind.u64.min = 0 := by decide
  have h2 : IntKind.u64.max = 18446744073709551615 := by decide
  simp only [Lit.wf, h1, h2, Bool.and_eq_true, decide_eq_true_eq] at h
  unfold Pt64
  omega

theorem rd_arc {w : World} {v : Value} (h : RdV w arcShp v) : ∃ a : Arc, v = .agg #[.int .u64 a.f, .int .u64 a.t] ∧ a.ok := by
  unfold RdV at h
  obtain ⟨cs, rfl, h⟩ := h
  obtain ⟨c1, r1, e1, h1, h⟩ := rds_cons h
  obtain ⟨c2, r2, e2, h2, h⟩ := rds_cons h
  obtain rfl := rds_nil h
  obtain ⟨f, rfl, hf⟩ := rdc_int h1
  obtain ⟨t, rfl, ht⟩ := rdc_int h2
  refine ⟨⟨f, t⟩, ?_, pt_of_wf hf, pt_of_wf ht⟩
  congr 1
  apply Array.ext'
  rw [e1, e2]
  rfl

theorem rd_itm {w : World} {cs : List Value} (h : Rd w itmShp cs) : ∃ x : ByteArray × ByteArray, cs = encIt x := by
  obtain ⟨c1, r1, rfl, h1, h⟩ := rds_cons (rd_st h)
  obtain ⟨c2, r2, rfl, h2, h⟩ := rds_cons h
  obtain rfl := rds_nil h
  obtain ⟨a, rfl, _⟩ := rdc_str h1
  obtain ⟨b, rfl, _⟩ := rdc_str h2
  exact ⟨(a, b), rfl⟩

theorem itsAt_of_rd {w : World} {v : Value} (h : RdV w (.sl itmShp) v) : ∃ l : List (ByteArray × ByteArray), SlAt 2 encIt w v l ∧ l.length ≤ 9223372036854775807 :=
  slAt_of_rd h rfl (by decide) (fun _ _ h => rd_itm h)
end Go.Proofs.YtmagddchjidamaaGreatDoor

namespace Go.Proofs.YtmagddchjidamaaGreatDoor
set_option linter.unusedSimpArgs false
set_option linter.unusedVariables false
open Go.ChangeShapes Go.WideShapes Go.ChangeAt Go.RowKit Go.Proofs

set_option maxRecDepth 100000 in
theorem holdScans_lifted (os : Os) (started : os.Started) (H : Type) (enc : TypeId × Value → H) :
    ReturnsInHanded {} Tryz.checked os 4 .any (fun w args => (Rows.holdScansSpec.pre enc Tryz.prog Tryz.f4 Rows.holdScansRow.domain false w args ∧ laidMetH Tryz.prog Rows.holdScansRow.laid w) ∧ sizedMet enc Tryz.prog Tryz.f4 (OpenSpec.ofChange Rows.holdScansSpec) false w args)
      (Rows.holdScansSpec.post enc Tryz.prog Tryz.f4 false true false false) := by
  refine returnsInHanded_of_change_and (C := Tryz.checked) (X := fun w _ => laidMetH Tryz.prog Rows.holdScansRow.laid w) (fun _ _ _ hh h => h.of_heap hh) progOwn started (by kernel_rfl) Tryz.func4
    (ChangeSpec.witness_shaped (enc := enc) (C := Tryz.checked) (os := os) (X := fun w _ => laidMetH Tryz.prog Rows.holdScansRow.laid w) false (World.laidAll Tryz.prog os Rows.holdScansRow.laid) #[.slice none 0 0, .agg #[.int .u64 0, .int .u64 0], .string ⟨#[]⟩, .string ⟨#[]⟩, .int .i64 0] 8 (World.laidAll_os _ _ _)
      (World.shaped_of_ZipB (by kernel_rfl) (by kernel_rfl)) (by kernel_rfl) (by kernel_rfl) (by kernel_rfl)
      (by rw [MakeChecks.laidMetH_plain _ _ _ (by kernel_rfl)]; exact laidMet_laidAll _ (by kernel_rfl) (by kernel_rfl))) ?_
  intro W base args ds gs before hval hW _ _ _ _
  refine law_post (P := Tryz.prog) (B := 4) (fun ds h => ?_) rfl rfl (by kernel_rfl) (by kernel_rfl) progLaid hW ?_
  · match ds, h with
    | [_, _, _, _, _], _ => rfl
  · obtain ⟨p, q, hA, _⟩ := hW
    have hR := rdAll_of_trod (P := Tryz.prog) [.sl itmShp, arcShp, .s, .s, .i .i64] (by kernel_rfl) rfl (fun j t v h1 h2 => hval j t v (by simpa using h1) (by simpa using h2)) hA
    obtain ⟨l⟩ := args
    obtain ⟨v0, vs, rfl, h0, hR⟩ := hR
    obtain ⟨v1, vs, rfl, h1, hR⟩ := hR
    obtain ⟨v2, vs, rfl, h2, hR⟩ := hR
    obtain ⟨v3, vs, rfl, h3, hR⟩ := hR
    obtain ⟨v4, vs, rfl, h4, hR⟩ := hR
    obtain rfl := hR
    obtain ⟨l, hl, hll⟩ := itsAt_of_rd h0
    obtain ⟨a, rfl, ha⟩ := rd_arc h1
    obtain ⟨fr, rfl, hfr⟩ := rd_str h2
    obtain ⟨tk, rfl, htk⟩ := rd_str h3
    obtain ⟨most, rfl, _⟩ := rd_int h4
    unfold maxLen at hfr htk
    exact (scans_walk hl hll a ha fr tk (by omega) (by omega) most).mono fun _ _ ⟨he, hm⟩ => ⟨he, hm.below_self⟩

theorem holdScans_over : Rows.holdScansRow.holds Tryz.pinned (OpenSpec.ofChange Rows.holdScansSpec) :=
  OpenClaim.holds_of_wide 4 Tryz.f4 rfl rfl rfl rfl rfl rfl rfl ⟨rfl, rfl, rfl, rfl, rfl⟩ rfl rfl rfl rfl rfl (by kernel_rfl) Tryz.func4 (by kernel_rfl)
    (of_decide_eq_true (by kernel_rfl)) (by unfold Func.isWrapper; first | (rw [if_pos (by decide +kernel)]; kernel_rfl) | (rw [if_neg (by decide +kernel)]; exact ⟨rfl, rfl⟩))
    (fun os started H enc _ => holdScans_lifted os started H enc)

theorem holdScans_proved : Rows.HoldScansSaid := holdScans_over

theorem holdScans_card : Rows.HoldScansCardSaid :=
  Claim7.holds_tied_plain_at .later [] [.data, .pinned] true (true, "c7c110e04d7d8ceb5ec98da395b859d080d63254ea39ddadffe8b277b74f838b") false
    holdScans_over (fun _ h => by cases h) (by kernel_rfl) (fun _ h => by cases h) holdScans_row_tie rfl ⟨rfl, rfl⟩ (by kernel_rfl) rfl
    (fun f fn hf hfn => by
      obtain rfl : f = 4 := Option.some.inj ((show Tryz.prog.funcNamed "rosary/rosarylaw14.HoldScans" = some 4 by kernel_rfl).symm.trans hf) |>.symm
      obtain rfl : fn = Tryz.f4 := (Option.some.inj (Tryz.func4.symm.trans hfn)).symm
      exact ⟨by kernel_rfl, fun j t ht => by
        have hall : (Tryz.f4.params.toList.all fun t => Tryz.prog.wantsStandIn t == false) = true := by kernel_rfl
        have hm := Array.mem_of_getElem? ht
        exact beq_iff_eq.1 (List.all_eq_true.1 hall t (by simpa using hm))⟩)
    (by kernel_rfl)
end Go.Proofs.YtmagddchjidamaaGreatDoor
