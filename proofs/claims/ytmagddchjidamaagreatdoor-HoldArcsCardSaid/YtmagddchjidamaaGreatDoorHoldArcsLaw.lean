/- HoldArcs: the law and its card; for every input; no condition. -/
import Derived.Test.YtmagddchjidamaaGreatDoorProg
import Derived.Test.YtmagddchjidamaaGreatDoorChecked
import Derived.WalkKit
import Derived.ProofKit
import Derived.OpenShut
import Derived.ShutString
import Derived.ChangeOld
import Derived.Below
import Derived.Deep.Slices
import Derived.Deep.Fields
import Derived.ChangeSame
import Derived.StringKeys
import Derived.Test.YtmagddchjidamaaGreatDoorSeqRows
import Derived.Test.YtmagddchjidamaaGreatDoorArcPlain
import Derived.Test.YtmagddchjidamaaGreatDoorViewLearn
import Derived.Test.YtmagddchjidamaaGreatDoorViewArcs
import Derived.Test.YtmagddchjidamaaGreatDoorViewArcsWalk
import Derived.Test.YtmagddchjidamaaGreatDoorHoldPieces
import Derived.Test.YtmagddchjidamaaGreatDoorHoldAlive
import Derived.Test.YtmagddchjidamaaGreatDoorHoldI
import Derived.Deep.RegionHeld3
import Derived.Deep.QuietTactic
import Derived.BigQuiet
import Derived.Test.YtmagddchjidamaaGreatDoorRows
import Derived.Test.YtmagddchjidamaaGreatDoorTie
import Derived.Test.YtmagddchjidamaaGreatDoorCards
import Derived.LaidMore
import Derived.Lay
import Derived.SevenTiedAt
import Derived.Stop.Joined
/- The frame of a law: from 'the call returns true and turns nothing that lay there' to the given statement; and what an argument that can be read looks like in memory, by its shape. -/
namespace Go.Proofs.YtmagddchjidamaaGreatDoor
set_option linter.unusedSimpArgs false
set_option linter.unusedVariables false
open Go.ChangeShapes Go.WideShapes Go.ChangeAt Go.RowKit Go.Deep

/-- the shape of a type that is plain data -/
inductive Shp where
  | i (k : IntKind)
  | b
  | s
  | sl (e : Shp)
  | st (l : List Shp)

mutual
def Shp.n : Shp → Nat
  | .i _ => 1
  | .b => 1
  | .s => 1
  | .sl _ => 1
  | .st l => Shp.ns l
def Shp.ns : List Shp → Nat
  | [] => 0
  | x :: r => x.n + Shp.ns r
end

mutual
/-- cells 'cs' are a value of the shape in world w -/
def Rd (w : World) : Shp → List Value → Prop
  | .i k, cs => ∃ n, cs = [.int k n] ∧ (Lit.int k n).wf = true
  | .b, cs => ∃ x, cs = [.bool x]
  | .s, cs => ∃ x : ByteArray, cs = [.string x] ∧ x.size ≤ maxLen
  | .sl e, cs => cs = [.slice none 0 0] ∨ ∃ a len cap, cs = [.slice (some a) len cap] ∧ len ≤ cap ∧ cap ≤ maxLen ∧
      ∀ i, i < len → ∃ cs', cs'.length = e.n ∧ (∀ j, j < e.n → w.cell? (a.add (i * e.n + j)) = cs'[j]?) ∧ Rd w e cs'
  | .st l, cs => Rds w l cs
def Rds (w : World) : List Shp → List Value → Prop
  | [], cs => cs = []
  | x :: r, cs => ∃ c1 c2, cs = c1 ++ c2 ∧ c1.length = x.n ∧ Rd w x c1 ∧ Rds w r c2
end

mutual
def fitB (P : Program) : Shp → TypeId → Bool
  | .i k, t => match P.underlying t with | some (.int k') => k' == k | _ => false
  | .b, t => match P.underlying t with | some .bool => true | _ => false
  | .s, t => match P.underlying t with | some .string => true | _ => false
  | .sl e, t => match P.underlying t with | some (.slice e') => fitB P e e' && P.cellsOf e' == e.n | _ => false
  | .st l, t => match P.underlying t with | some (.struct fs) => fitsB P l fs.toList 0 && P.cellsOf t == Shp.ns l | _ => false
def fitsB (P : Program) : List Shp → List Field → Nat → Bool
  | [], [], _ => true
  | x :: r, f :: fs, off => f.offset == off && P.cellsOf f.type == x.n && fitB P x f.type && fitsB P r fs (off + x.n)
  | _, _, _ => false
end

section
variable {H : Type} {enc : TypeId × Value → H} {P : Program} {w : World} {sp : Nat → Bool} {held : Bool}

mutual
theorem rd_of_trod (sh : Shp) {t : TypeId} (hf : fitB P sh t = true) {fuel : Nat} {cs : List Value} {x : DataW H × List MemPlace}
    (h : DataW.trod enc P w 0 sp held fuel t cs = some x) : cs.length = sh.n ∧ Rd w sh cs := by
  match sh with
  | .i k =>
    unfold fitB at hf
    split at hf
    · rename_i k' ht
      obtain rfl : k' = k := by simpa using hf
      obtain ⟨n, rfl, _, hw⟩ := DataW.trod_int ht h
      exact ⟨rfl, by unfold Rd; exact ⟨n, rfl, hw⟩⟩
    · cases hf
  | .b =>
    unfold fitB at hf
    split at hf
    · rename_i ht
      obtain ⟨n, rfl, _⟩ := DataW.trod_bool ht h
      exact ⟨rfl, by unfold Rd; exact ⟨n, rfl⟩⟩
    · cases hf
  | .s =>
    unfold fitB at hf
    split at hf
    · rename_i ht
      obtain ⟨n, rfl, _, hw⟩ := DataW.trod_string ht h
      exact ⟨rfl, by unfold Rd; exact ⟨n, rfl, hw⟩⟩
    · cases hf
  | .sl e =>
    unfold fitB at hf
    split at hf
    · rename_i e' ht
      simp only [Bool.and_eq_true, beq_iff_eq] at hf
      obtain ⟨hfe, hn⟩ := hf
      rcases open_slice ht h with ⟨rfl, _⟩ | ⟨a, len, cap, m, n, D, Pl, rfl, _, hl, hm, hmm, _, hi⟩
      · exact ⟨rfl, by unfold Rd; exact .inl rfl⟩
      · refine ⟨rfl, ?_⟩
        unfold Rd
        refine .inr ⟨a, len, cap, rfl, hl, hm, fun i hlt => ?_⟩
        obtain ⟨cs', hc, ht'⟩ := hi i (by rw [hmm]; split <;> omega)
        obtain ⟨hlen, hr⟩ := rd_of_trod e hfe ht'
        refine ⟨cs', hlen, fun j hj => ?_, hr⟩
        obtain ⟨_, hcl, hat⟩ := World.cells?_some hc
        rw [← hn, ← Go.Deep.add_add]
        exact hat j (by omega)
    · cases hf
  | .st l =>
    unfold fitB at hf
    split at hf
    · rename_i fs ht
      simp only [Bool.and_eq_true, beq_iff_eq] at hf
      obtain ⟨hfs, hn⟩ := hf
      obtain ⟨xs, n, _, _, hlen, hxs, hg⟩ := DataW.trod_struct ht h
      have hall : ∀ (i : Nat) (f : Field), fs.toList[i]? = some f → ∃ y, DataW.trod enc P w 0 sp held n f.type ((cs.drop f.offset).take (P.cellsOf f.type)) = some y := by
        intro i f hi
        have hi' : fs[i]? = some f := by simpa using hi
        have hil : i < fs.size := (Array.getElem?_eq_some_iff.1 hi').1
        exact ⟨xs[i]'(by omega), by rw [hg i f hi']; exact List.getElem?_eq_getElem (by omega)⟩
      refine ⟨by rw [hlen, hn]; rfl, ?_⟩
      unfold Rd
      have := rds_of_trod l hfs (n := n) (cs := cs) hall (by rw [hlen, hn]; simp)
      simpa using this
    · cases hf
theorem rds_of_trod (l : List Shp) {fs : List Field} {off : Nat} (hf : fitsB P l fs off = true) {n : Nat} {cs : List Value}
    (hall : ∀ (i : Nat) (f : Field), fs[i]? = some f → ∃ y, DataW.trod enc P w 0 sp held n f.type ((cs.drop f.offset).take (P.cellsOf f.type)) = some y)
    (hlen : cs.length = off + Shp.ns l) : Rds w l (cs.drop off) := by
  match l, fs with
  | [], [] =>
    unfold Rds
    unfold Shp.ns at hlen
    exact List.drop_eq_nil_of_le (by omega)
  | x :: r, f :: fs =>
    unfold fitsB at hf
    simp only [Bool.and_eq_true, beq_iff_eq] at hf
    obtain ⟨⟨⟨ho, hc⟩, hx⟩, hr⟩ := hf
    unfold Shp.ns at hlen
    obtain ⟨y, hy⟩ := hall 0 f rfl
    rw [ho, hc] at hy
    obtain ⟨hl1, h1⟩ := rd_of_trod x hx hy
    have h2 := rds_of_trod r hr (n := n) (cs := cs) (fun i f' hi => hall (i + 1) f' (by simpa using hi)) (by omega)
    unfold Rds
    refine ⟨_, _, ?_, hl1, h1, h2⟩
    rw [← List.drop_drop]
    exact (List.take_append_drop _ _).symm
  | [], _ :: _ => unfold fitsB at hf; cases hf
  | _ :: _, [] => unfold fitsB at hf; cases hf
end

/-- an argument of a shape: a struct's cells lie in the value -/
def RdV (w : World) (sh : Shp) (v : Value) : Prop :=
  match sh with
  | .st l => ∃ cs : Array Value, v = .agg cs ∧ Rds w l cs.toList
  | sh => Rd w sh [v]

/-- one after the other, the arguments -/
def RdAll (w : World) : List Shp → List Value → Prop
  | [], vs => vs = []
  | x :: r, vs => ∃ v vs', vs = v :: vs' ∧ RdV w x v ∧ RdAll w r vs'

theorem okWide_noagg {r : Reach} {b0 : Nat} {t : TypeId} {v : Value} (h : Cell.okWide P w r b0 t v) (cs : Array Value) : v ≠ .agg cs := by
  intro e
  subst e
  unfold Cell.okWide Cell.ok at h
  cases hu : P.underlying t with
  | none => rw [hu] at h; exact h
  | some d => rw [hu] at h; cases d <;> exact h

theorem rdV_of_trod {r : Reach} {b0 : Nat} (sh : Shp) {t : TypeId} {v : Value} (hf : fitB P sh t = true) (hv : Value.okWide P w r b0 t v) {fuel : Nat} {x : DataW H × List MemPlace}
    (h : DataW.trod enc P w 0 sp held fuel t v.cells.toList = some x) : RdV w sh v := by
  have h1 := (rd_of_trod sh hf h).2
  have one : (∀ l, sh ≠ .st l) → (∀ d, P.underlying t = some d → (∀ fs, d ≠ .struct fs) ∧ (∀ n e, d ≠ .array n e)) → v.cells.toList = [v] := by
    intro _ hd
    have : Cell.okWide P w r b0 t v := by
      unfold Value.okWide at hv
      split at hv
      · rename_i fs hu; exact absurd rfl ((hd _ hu).1 fs)
      · rename_i n e hu; exact absurd rfl ((hd _ hu).2 n e)
      · exact hv
    have hn := okWide_noagg this
    cases v <;> simp_all [Value.cells]
  match sh with
  | .st l =>
    unfold fitB at hf
    split at hf
    · rename_i fs hu
      unfold Value.okWide at hv
      rw [hu] at hv
      obtain ⟨cs, rfl, _⟩ := hv
      unfold RdV
      unfold Rd at h1
      exact ⟨cs, rfl, h1⟩
    · cases hf
  | .i k =>
    unfold fitB at hf
    split at hf
    · rename_i k' hu
      rw [one (by simp) (by intro d hd; rw [hu] at hd; cases hd; simp)] at h1
      exact h1
    · cases hf
  | .b =>
    unfold fitB at hf
    split at hf
    · rename_i hu
      rw [one (by simp) (by intro d hd; rw [hu] at hd; cases hd; simp)] at h1
      exact h1
    · cases hf
  | .s =>
    unfold fitB at hf
    split at hf
    · rename_i hu
      rw [one (by simp) (by intro d hd; rw [hu] at hd; cases hd; simp)] at h1
      exact h1
    · cases hf
  | .sl e =>
    unfold fitB at hf
    split at hf
    · rename_i e' hu
      rw [one (by simp) (by intro d hd; rw [hu] at hd; cases hd; simp)] at h1
      exact h1
    · cases hf

theorem rdAll_of_trod : (shs : List Shp) → {ts : List TypeId} → {vs : List Value} → {ds : List (DataW H)} → {p : List MemPlace} → {r : Reach} → {b0 : Nat} →
    (hf : (shs.zip ts).all (fun x => fitB P x.1 x.2) = true) → (hlen : shs.length = ts.length) →
    (hv : ∀ (j : Nat) t v, ts[j]? = some t → vs[j]? = some v → Value.okWide P w r b0 t v) →
    DataW.TrodAll enc P w 0 sp held ts vs ds p → RdAll w shs vs
  | [], [], vs, ds, p, _, _, _, _, _, h => by
    cases vs <;> cases ds <;> simp_all [DataW.TrodAll, RdAll]
  | x :: r, t :: ts, vs, ds, p, _, _, hf, hlen, hv, h => by
    simp only [List.zip_cons_cons, List.all_cons, Bool.and_eq_true] at hf
    match vs, ds, h with
    | v :: vs, d :: ds, ⟨p1, q1, ⟨fuel, h1⟩, h2, _⟩ =>
      unfold RdAll
      exact ⟨v, vs, rfl, rdV_of_trod x hf.1 (hv 0 t v rfl rfl) h1, rdAll_of_trod r hf.2 (by simpa using hlen) (fun j t v h1 h2 => hv (j + 1) t v (by simpa using h1) (by simpa using h2)) h2⟩

theorem trodAll_below (hl : laidOutB P = true) {W W' : World} (hb : Below W.heap.size W W') : (ts : List TypeId) → {vs : List Value} → {ds : List (DataW H)} → {p : List MemPlace} →
    (hr : ts.all (fun t => P.readableRec t && decide (t < P.types.size)) = true) →
    DataW.TrodAll enc P W 0 (fun _ => true) true ts vs ds p → (∀ x ∈ p, x.block < W.heap.size) →
    DataW.TrodAll enc P W' 0 (fun b => decide (b < W.heap.size)) true ts vs ds p
  | [], vs, ds, p, _, h, _ => by
    cases vs <;> cases ds <;> simp_all [DataW.TrodAll]
  | t :: ts, vs, ds, p, hr, h, hlt => by
    simp only [List.all_cons, Bool.and_eq_true, decide_eq_true_eq] at hr
    match vs, ds, h with
    | v :: vs, d :: ds, ⟨p1, q1, h1, h2, he⟩ =>
      subst he
      exact ⟨p1, q1, Below.trod hl hr.1.1 hr.1.2 h1 hb (fun x hx => hlt x (by simp [hx])), trodAll_below hl hb ts hr.2 h2 (fun x hx => hlt x (by simp [hx])), rfl⟩

/-- THE LAW's POST, out of 'true, and nothing that lay there has turned'. -/
theorem law_post {F : FuncId} {fn : Func} {s : ChangeSpec} {B : TypeId} {W : World} {args : Array Value} {ds gs : List (DataW H)} {before : List MemPlace}
    (hs : ∀ ds : List (DataW H), ds.length = fn.params.size → s.fn H ds = { results := [.lit (.bool true)], args := ds }) (hv : s.vars = []) (hr : fn.resultTypes = #[B]) (hB : P.underlying B = some .bool)
    (hp : fn.params.toList.all (fun t => P.readableRec t && decide (t < P.types.size)) = true) (hl : laidOutB P = true)
    (hW : DataW.Whole enc P fn.params.toList s.vars false W args.toList ds gs before)
    (h : Calls P F args W fun e W' => e = .returned (.bool true) ∧ Below W.heap.size W W') :
    Calls P F args W fun e W' => ∃ v, e = .returned v ∧ s.post enc P fn false true false false W args v W' := by
  refine h.mono fun e W' ⟨he, bel⟩ => ?_
  subst he
  have hW' := hW
  have hlt := fun x hx => hW.lt x hx
  obtain ⟨p, q, hA, hV, rfl, hfz, hnd⟩ := hW
  rw [hv] at hV
  obtain ⟨rfl, rfl⟩ := trodVars_none hV
  have hlen : ds.length = fn.params.size := by
    have : ∀ (ts : List TypeId) (vs : List Value) (ds : List (DataW H)) (p : List MemPlace), DataW.TrodAll enc P W 0 (fun _ => true) true ts vs ds p → ds.length = ts.length := by
      intro ts
      induction ts with
      | nil => intro vs ds p h; cases vs <;> cases ds <;> simp_all [DataW.TrodAll]
      | cons t ts ih =>
        intro vs ds p h
        match vs, ds, h with
        | v :: vs, d :: ds, ⟨p1, q1, h1, h2, _⟩ => simp [ih _ _ _ h2]
    simpa using this _ _ _ _ hA
  have hfn := hs ds hlen
  refine ⟨_, rfl, ds, [], p ++ [], [], p, [], hW', ?_, ?_, ?_, bel.frame _, fun h => by cases h⟩
  · rw [List.append_nil, hfn, hr]
    exact trodAll_mk1 (shut_bool hB _)
  · rw [List.append_nil, hfn]
    exact trodAll_below hl bel _ hp hA (fun x hx => hlt x (by simp [hx]))
  · rw [List.append_nil, hfn, hv]
    rfl
end

theorem rd_slice {w : World} {e : Shp} {v : Value} (h : RdV w (.sl e) v) : v = .slice none 0 0 ∨ ∃ a len cap, v = .slice (some a) len cap ∧ len ≤ cap ∧ cap ≤ maxLen ∧
      ∀ i, i < len → ∃ cs', cs'.length = e.n ∧ (∀ j, j < e.n → w.cell? (a.add (i * e.n + j)) = cs'[j]?) ∧ Rd w e cs' := by
  unfold RdV Rd at h
  rcases h with h | ⟨a, len, cap, h, r⟩
  · simp at h; exact .inl h
  · simp at h; exact .inr ⟨a, len, cap, h, r⟩

theorem rd_int {w : World} {k : IntKind} {v : Value} (h : RdV w (.i k) v) : ∃ n, v = .int k n ∧ (Lit.int k n).wf = true := by
  unfold RdV Rd at h
  simpa using h

theorem rd_str {w : World} {v : Value} (h : RdV w .s v) : ∃ s : ByteArray, v = .string s ∧ s.size ≤ maxLen := by
  unfold RdV Rd at h
  simpa using h

theorem rd_bool {w : World} {v : Value} (h : RdV w .b v) : ∃ b, v = .bool b := by
  unfold RdV Rd at h
  simpa using h

theorem add_none (b o n : Nat) : (⟨b, o, none⟩ : Addr).add n = ⟨b, o + n, none⟩ := by
  unfold Addr.add
  split
  · subst_vars; rfl
  · rfl

theorem cell_lt {w : World} {a : Addr} {v : Value} (h : w.cell? a = some v) : a.block < w.heap.size := by
  unfold World.cell? at h
  split at h
  · rename_i c e f hb
    exact (Array.getElem?_eq_some_iff.1 hb).1
  · cases h

theorem cell_spot {w : World} {a : Addr} {v : Value} (h : w.cell? a = some v) : a.spot = none := by
  unfold World.cell? at h
  split at h
  · split at h
    · cases h
    · rename_i hs
      simpa using hs
  · cases h

theorem slice_base {w : World} {e : Shp} {a : Addr} {len : Nat} (hl : 0 < len) (hn : 0 < e.n)
    (h : ∀ i, i < len → ∃ cs', cs'.length = e.n ∧ (∀ j, j < e.n → w.cell? (a.add (i * e.n + j)) = cs'[j]?) ∧ Rd w e cs') :
    ∃ b o, a = ⟨b, o, none⟩ ∧ b < w.heap.size := by
  obtain ⟨cs, hlen, hat, _⟩ := h 0 hl
  have h0 := hat 0 hn
  rw [List.getElem?_eq_getElem (by omega)] at h0
  simp only [Nat.zero_mul, Nat.add_zero, Addr.add, if_true] at h0
  obtain ⟨b, o, s⟩ := a
  exact ⟨b, o, by have := cell_spot h0; simp_all, cell_lt h0⟩

theorem exists_list {α : Type} {P : Nat → α → Prop} : (n : Nat) → (∀ i, i < n → ∃ x, P i x) → ∃ l : List α, l.length = n ∧ ∀ (i : Nat) (h : i < l.length), P i l[i]
  | 0, _ => ⟨[], rfl, fun i h => absurd h (by simp)⟩
  | n + 1, h => by
    obtain ⟨l, hl, hp⟩ := exists_list n (fun i hi => h i (by omega))
    obtain ⟨x, hx⟩ := h n (by omega)
    refine ⟨l ++ [x], by simp [hl], fun i hi => ?_⟩
    by_cases hc : i < l.length
    · rw [List.getElem_append_left hc]; exact hp i hc
    · have : i = l.length := by simp at hi; omega
      subst this
      simp [hl, hx]

theorem rds_cons {w : World} {x : Shp} {r : List Shp} {cs : List Value} (h : Rds w (x :: r) cs) : ∃ c1 c2, cs = c1 ++ c2 ∧ Rd w x c1 ∧ Rds w r c2 := by
  unfold Rds at h
  obtain ⟨c1, c2, h1, _, h2, h3⟩ := h
  exact ⟨c1, c2, h1, h2, h3⟩
theorem rds_nil {w : World} {cs : List Value} (h : Rds w [] cs) : cs = [] := by
  unfold Rds at h
  exact h
theorem rd_st {w : World} {l : List Shp} {cs : List Value} (h : Rd w (.st l) cs) : Rds w l cs := by
  unfold Rd at h
  exact h
theorem rdc_int {w : World} {k : IntKind} {cs : List Value} (h : Rd w (.i k) cs) : ∃ n, cs = [.int k n] ∧ (Lit.int k n).wf = true := by
  unfold Rd at h
  exact h
theorem rdc_str {w : World} {cs : List Value} (h : Rd w .s cs) : ∃ x : ByteArray, cs = [.string x] ∧ x.size ≤ maxLen := by
  unfold Rd at h
  exact h
theorem rdc_bool {w : World} {cs : List Value} (h : Rd w .b cs) : ∃ x, cs = [.bool x] := by
  unfold Rd at h
  exact h
theorem rdc_slice {w : World} {e : Shp} {cs : List Value} (h : Rd w (.sl e) cs) : ∃ a len cap, cs = [.slice a len cap] := by
  unfold Rd at h
  rcases h with rfl | ⟨a, len, cap, rfl, _⟩
  · exact ⟨none, 0, 0, rfl⟩
  · exact ⟨some a, len, cap, rfl⟩

theorem progOwn : ownKnob Tryz.prog.godebug = none := by kernel_rfl
theorem progLaid : laidOutB Tryz.prog = true := by kernel_rfl
end Go.Proofs.YtmagddchjidamaaGreatDoor

/- Put together out of: Args, ArgsHold. -/
/- What an argument of events, of asks looks like: its rows as they are read. -/
namespace Go.Proofs.YtmagddchjidamaaGreatDoor
open Go.RowKit

def itShp : Shp := .st [.s, .s]
def askShp : Shp := .st [.i .i64, .s, .s, .s, .i .i64]
def evShp : Shp := .st [.i .i64, .i .i64, .i .i64, .i .i64, askShp, .st [.i .i64, .s, .sl itShp, .b, .s, .i .i64]]

theorem rd_ev {w : World} {cs : List Value} (h : Rd w evShp cs) : ∃ e : Ev, cs = e.cells := by
  obtain ⟨c1, r1, rfl, h1, h⟩ := rds_cons (rd_st h)
  obtain ⟨c2, r2, rfl, h2, h⟩ := rds_cons h
  obtain ⟨c3, r3, rfl, h3, h⟩ := rds_cons h
  obtain ⟨c4, r4, rfl, h4, h⟩ := rds_cons h
  obtain ⟨c5, r5, rfl, h5, h⟩ := rds_cons h
  obtain ⟨c6, r6, rfl, h6, h⟩ := rds_cons h
  obtain rfl := rds_nil h
  obtain ⟨d1, s1, rfl, g1, h⟩ := rds_cons (rd_st h5)
  obtain ⟨d2, s2, rfl, g2, h⟩ := rds_cons h
  obtain ⟨d3, s3, rfl, g3, h⟩ := rds_cons h
  obtain ⟨d4, s4, rfl, g4, h⟩ := rds_cons h
  obtain ⟨d5, s5, rfl, g5, h⟩ := rds_cons h
  obtain rfl := rds_nil h
  obtain ⟨e1, t1, rfl, f1, h⟩ := rds_cons (rd_st h6)
  obtain ⟨e2, t2, rfl, f2, h⟩ := rds_cons h
  obtain ⟨e3, t3, rfl, f3, h⟩ := rds_cons h
  obtain ⟨e4, t4, rfl, f4, h⟩ := rds_cons h
  obtain ⟨e5, t5, rfl, f5, h⟩ := rds_cons h
  obtain ⟨e6, t6, rfl, f6, h⟩ := rds_cons h
  obtain rfl := rds_nil h
  obtain ⟨n1, rfl, _⟩ := rdc_int h1
  obtain ⟨n2, rfl, _⟩ := rdc_int h2
  obtain ⟨n3, rfl, _⟩ := rdc_int h3
  obtain ⟨n4, rfl, _⟩ := rdc_int h4
  obtain ⟨m1, rfl, _⟩ := rdc_int g1
  obtain ⟨m2, rfl, _⟩ := rdc_str g2
  obtain ⟨m3, rfl, _⟩ := rdc_str g3
  obtain ⟨m4, rfl, _⟩ := rdc_str g4
  obtain ⟨m5, rfl, _⟩ := rdc_int g5
  obtain ⟨k1, rfl, _⟩ := rdc_int f1
  obtain ⟨k2, rfl, _⟩ := rdc_str f2
  obtain ⟨ia, il, ic, rfl⟩ := rdc_slice f3
  obtain ⟨k4, rfl⟩ := rdc_bool f4
  obtain ⟨k5, rfl, _⟩ := rdc_str f5
  obtain ⟨k6, rfl, _⟩ := rdc_int f6
  exact ⟨⟨n1, n2, n3, n4, m1, m2, m3, m4, m5, k1, k2, ia, il, ic, k4, k5, k6⟩, rfl⟩

/-- a slice argument whose elements read, one by one -/
theorem slAt_of_rd {α : Type} {k : Nat} {enc : α → List Value} {w : World} {e : Shp} {v : Value} (h : RdV w (.sl e) v) (hn : e.n = k) (hk : 0 < k) (hr : ∀ cs, cs.length = k → Rd w e cs → ∃ x : α, cs = enc x) :
    ∃ l : List α, SlAt k enc w v l ∧ l.length ≤ 9223372036854775807 := by
  rcases rd_slice h with rfl | ⟨a, len, cap, rfl, hl, hm, hi⟩
  · exact ⟨[], SlAt.nil _ _ _ _ _, by simp⟩
  by_cases h0 : len = 0
  · subst h0
    exact ⟨[], SlAt.nil _ _ _ _ _, by simp⟩
  obtain ⟨b, o, rfl, hlt⟩ := slice_base (by omega) (by omega) hi
  obtain ⟨l, hlen, hc⟩ := exists_list (P := fun i (x : α) => ∀ j u, (enc x)[j]? = some u → w.cell? ⟨b, o + i * k + j, none⟩ = some u) len (fun i h => by
    obtain ⟨cs, hcn, hat, hr'⟩ := hi i h
    rw [hn] at hcn hat
    obtain ⟨x, rfl⟩ := hr cs hcn hr'
    refine ⟨x, fun j u hu => ?_⟩
    have hj : j < k := by have := (List.getElem?_eq_some_iff.1 hu).1; omega
    have := hat j hj
    rw [add_none] at this
    rw [← hu, ← this, Nat.add_assoc])
  refine ⟨l, ⟨_, cap, by rw [hlen], fun i x hx => ⟨b, o, rfl, ?_⟩⟩, by unfold maxLen at hm; omega⟩
  have hil := (List.getElem?_eq_some_iff.1 hx).1
  have := hc i hil
  rw [(List.getElem?_eq_some_iff.1 hx).2] at this
  exact this

theorem evsAt_of_rd {w : World} {v : Value} (h : RdV w (.sl evShp) v) : ∃ l : List Ev, EvsAt w v l ∧ l.length ≤ 9223372036854775807 :=
  slAt_of_rd h rfl (by decide) (fun _ _ h => rd_ev h)
end Go.Proofs.YtmagddchjidamaaGreatDoor

/- What an argument of items, an arc looks like. -/
namespace Go.Proofs.YtmagddchjidamaaGreatDoor
open Go.RowKit

abbrev arcShp : Shp := .st [.i .u64, .i .u64]
abbrev itmShp : Shp := .st [.s, .s]

theorem pt_of_wf {n : Int} (h : (Lit.int .u64 n).wf = true) : Pt64 n := by
  have h1 : IntKind.u64.min = 0 := by decide
  have h2 : IntKind.u64.max = 18446744073709551615 := by decide
  simp only [Lit.wf, h1, h2, Bool.and_eq_true, decide_eq_true_eq] at h
  unfold Pt64
  omega

theorem rd_arc {w : World} {v : Value} (h : RdV w arcShp v) : ∃ a : Arc, v = .agg #[.int .u64 a.f, .int .u64 a.t] ∧ a.ok := by
  unfold RdV at h
  obtain ⟨cs, rfl, h⟩ := h
  obtain ⟨c1, r1, e1, h1, h⟩ := rds_cons h
  obtain ⟨c2, r2, e2, h2, h⟩ := rds_cons h
  obtain rfl := rds_nil h
  obtain ⟨f, rfl, hf⟩ := rdc_int h1
  obtain ⟨t, rfl, ht⟩ := rdc_int h2
  refine ⟨⟨f, t⟩, ?_, pt_of_wf hf, pt_of_wf ht⟩
  congr 1
  apply Array.ext'
  rw [e1, e2]
  rfl

theorem rd_itm {w : World} {cs : List Value} (h : Rd w itmShp cs) : ∃ x : ByteArray × ByteArray, cs = encIt x := by
  obtain ⟨c1, r1, rfl, h1, h⟩ := rds_cons (rd_st h)
  obtain ⟨c2, r2, rfl, h2, h⟩ := rds_cons h
  obtain rfl := rds_nil h
  obtain ⟨a, rfl, _⟩ := rdc_str h1
  obtain ⟨b, rfl, _⟩ := rdc_str h2
  exact ⟨(a, b), rfl⟩

theorem itsAt_of_rd {w : World} {v : Value} (h : RdV w (.sl itmShp) v) : ∃ l : List (ByteArray × ByteArray), SlAt 2 encIt w v l ∧ l.length ≤ 9223372036854775807 :=
  slAt_of_rd h rfl (by decide) (fun _ _ h => rd_itm h)
end Go.Proofs.YtmagddchjidamaaGreatDoor

/- What Arcs and Pieces tell of arcs that lie side by side: plain. -/
namespace Go.Proofs.YtmagddchjidamaaGreatDoor
set_option linter.unusedSimpArgs false
set_option linter.unusedVariables false

/-! ### cut at what lies behind all, and at the last part -/
theorem place_last (l : List Pt) (p : Pt) (x : Int) (h : p.f ≤ x) : placeP (l ++ [p]) x = l.length := by
  unfold placeP
  rw [List.length_append, List.length_singleton]
  unfold placeK
  rw [List.getElem?_append_right (Nat.le_refl _), Nat.sub_self]
  simp [h]
theorem cut_last (l : List Pt) (p : Pt) : cutP (l ++ [p]) p.f = l ++ [p] := by
  unfold cutP
  rw [if_neg (by simp)]
  unfold cutP0
  rw [place_last l p p.f (Int.le_refl _), List.getElem?_append_right (Nat.le_refl _), Nat.sub_self]
  simp
theorem cut_behind (l : List Pt) (p : Pt) (x : Int) (h : p.f < x) : cutP (l ++ [p]) x = l ++ [p, ⟨x, p.n, p.e⟩] := by
  unfold cutP
  rw [if_neg (by simp)]
  unfold cutP0
  rw [place_last l p x (by omega), List.getElem?_append_right (Nat.le_refl _), Nat.sub_self]
  have : ¬ p.f = x := by omega
  simp only [List.getElem?_cons_zero, this, if_false]
  rw [List.take_of_length_le (by simp), List.drop_eq_nil_of_le (by simp)]
  simp
/-- what is learnt of an arc behind all -/
theorem learn_behind (o : Ow) (l : List Pt) (e : Int) (hl : ∀ p ∈ l, p.f < o.f) (hft : o.f < o.t) (h0 : 0 ≤ o.f) (h1 : 0 ≤ o.ep) (h2 : 0 ≤ o.node) (h3 : o.node ≤ 255) :
    learnP (l ++ [⟨o.f, -1, e⟩]) o = l ++ [⟨o.f, o.node, o.ep⟩, ⟨o.t, -1, e⟩] := by
  unfold learnP
  rw [if_neg (by omega)]
  have hv : vpieces o.arc = [o.arc] := by
    unfold vpieces
    rw [if_pos (.inr hft)]
  rw [hv]
  simp only [List.foldl_cons, List.foldl_nil]
  unfold learn1 cuts2
  have ht : 0 < o.arc.t := show (0 : Int) < o.t by omega
  rw [if_pos ht, show cutP (l ++ [⟨o.f, -1, e⟩]) o.arc.f = l ++ [⟨o.f, -1, e⟩] from cut_last l ⟨o.f, -1, e⟩, cut_behind l ⟨o.f, -1, e⟩ o.arc.t hft, List.map_append]
  have hm : l.map (learnQ o o.arc) = l := by
    conv => rhs; rw [← List.map_id l]
    refine List.map_congr_left fun p hp => ?_
    have := hl p hp
    unfold learnQ
    rw [if_pos (.inl this)]
    rfl
  rw [hm]
  congr 1
  have n1 : ¬ skipQ o o.arc ⟨o.f, -1, e⟩ := by unfold skipQ; simp only; omega
  have n2 : skipQ o o.arc ⟨o.arc.t, -1, e⟩ := .inr (.inl ⟨ht, Int.le_refl _⟩)
  simp only [List.map_cons, List.map_nil]
  unfold learnQ
  rw [if_neg n1, if_pos n2]
/-- the first one -/
theorem learn_first (o : Ow) (hft : o.f < o.t) (h0 : 0 ≤ o.f) (h1 : 0 ≤ o.ep) (h2 : 0 ≤ o.node) (h3 : o.node ≤ 255) :
    learnP [] o = (if o.f = 0 then [] else [⟨0, -1, 0⟩]) ++ [⟨o.f, o.node, o.ep⟩, ⟨o.t, -1, 0⟩] := by
  have hc : cutP [] o.f = (if o.f = 0 then [] else [⟨0, -1, 0⟩]) ++ [⟨o.f, -1, 0⟩] := by
    have hp : placeP [⟨0, -1, 0⟩] o.f = 0 := by simpa using place_last [] ⟨0, -1, 0⟩ o.f h0
    unfold cutP
    rw [if_pos rfl]
    unfold cutP0
    rw [hp]
    simp only [List.getElem?_cons_zero]
    by_cases hz : o.f = 0
    · rw [if_pos hz.symm, if_pos hz, hz]; rfl
    · rw [if_neg (fun h => hz h.symm), if_neg hz]; rfl
  have hb := learn_behind o (if o.f = 0 then [] else [⟨0, -1, 0⟩]) 0 (by
    intro p hp
    split at hp
    · simp at hp
    · simp at hp; subst hp; simp only; omega) hft h0 h1 h2 h3
  rw [← hb]
  unfold learnP
  rw [if_neg (by omega), if_neg (by omega)]
  have hv : vpieces o.arc = [o.arc] := by
    unfold vpieces
    rw [if_pos (.inr hft)]
  rw [hv]
  simp only [List.foldl_cons, List.foldl_nil]
  unfold learn1 cuts2
  have ht : 0 < o.arc.t := show (0 : Int) < o.t by omega
  rw [if_pos ht, if_pos ht, show cutP [] o.arc.f = _ from hc, show cutP (_ ++ [_]) o.arc.f = _ ++ [_] from cut_last _ ⟨o.f, -1, 0⟩]

/-- arcs side by side: where each begins, and its epoch; where the last one ends -/
def sideP (z : List (Int × Int)) (t : Int) : List Pt := z.map (fun c => ⟨c.1, 0, c.2⟩) ++ [⟨t, -1, 0⟩]
def preP (f : Int) : List Pt := if f = 0 then [] else [⟨0, -1, 0⟩]
theorem preP_lt {f : Int} (h0 : 0 ≤ f) : ∀ p ∈ preP f, p.f < f := by
  intro p hp
  unfold preP at hp
  split at hp
  · simp at hp
  · simp at hp; subst hp; simp only; omega

/-- alike neighbours of two that are put together, one behind the other -/
theorem comp_snoc (l : List Pt) (p : Pt) : compP (l ++ [p]) = compA (compP l) p := by
  unfold compP
  rw [List.foldl_append]
  rfl
def cntN (l : List Pt) : Nat := (l.filter (fun p => decide (0 ≤ p.n))).length
theorem cntN_snoc (l : List Pt) (p : Pt) : cntN (l ++ [p]) = cntN l + (if 0 ≤ p.n then 1 else 0) := by
  unfold cntN
  rw [List.filter_append, List.length_append]
  by_cases h : 0 ≤ p.n
  · simp [h]
  · simp [h]
theorem outK_cnt (c : List Pt) (k : Nat) (hk : k ≤ c.length) : (outK c k).length = cntN (c.take k) := by
  induction k with
  | zero => rfl
  | succ k ih =>
    have he : c[k]? = some c[k] := List.getElem?_eq_getElem (by omega)
    rw [List.take_add_one, he, Option.toList_some, cntN_snoc, ← ih (by omega)]
    conv => lhs; unfold outK; rw [he]
    simp only [List.length_append]
    split <;> simp
theorem outK_all (c : List Pt) : (outK c c.length).length = cntN c := by
  rw [outK_cnt c _ (Nat.le_refl _), List.take_length]
/-- arcs side by side, each where the one ahead of it ends -/
def chainOw (z : List (Int × Int)) (t : Int) : List Ow :=
  match z with
  | [] => []
  | [c] => [⟨c.1, t, 0, c.2⟩]
  | c :: d :: r => ⟨c.1, d.1, 0, c.2⟩ :: chainOw (d :: r) t

/-- the parts when the first k arcs were learnt; cuts f, epochs g -/
def partsK (f g : Nat → Int) : Nat → List Pt
  | 0 => preP (f 0)
  | k + 1 => partsK f g k ++ [⟨f k, 0, g k⟩]
def arcsK (f g : Nat → Int) : Nat → List Ow
  | 0 => []
  | k + 1 => arcsK f g k ++ [⟨f k, f (k + 1), 0, g k⟩]
theorem partsK_lt (f g : Nat → Int) (m : Nat) (h0 : 0 ≤ f 0) (hf : ∀ i, i < m → f i < f (i + 1)) : ∀ k, k ≤ m → 0 ≤ f k ∧ ∀ p ∈ partsK f g k, p.f < f k := by
  intro k
  induction k with
  | zero => exact fun _ => ⟨h0, preP_lt h0⟩
  | succ k ih =>
    intro hk
    obtain ⟨h1, h2⟩ := ih (by omega)
    have := hf k (by omega)
    refine ⟨by omega, fun p hp => ?_⟩
    unfold partsK at hp
    rcases List.mem_append.1 hp with hp | hp
    · have := h2 p hp; omega
    · simp only [List.mem_singleton] at hp; subst hp; exact hf k (by omega)
theorem learn_chain (f g : Nat → Int) (m : Nat) (h0 : 0 ≤ f 0) (hf : ∀ i, i < m → f i < f (i + 1)) (hg : ∀ i, 0 ≤ g i) : ∀ k, k < m →
    (arcsK f g (k + 1)).foldl learnP [] = partsK f g (k + 1) ++ [⟨f (k + 1), -1, 0⟩] := by
  intro k
  induction k with
  | zero =>
    intro hk
    have := learn_first ⟨f 0, f 1, 0, g 0⟩ (hf 0 hk) h0 (hg 0) (Int.le_refl _) (by simp)
    simp only [arcsK, partsK, List.nil_append, List.foldl_cons, List.foldl_nil]
    rw [this]
    simp [preP]
  | succ k ih =>
    intro hk
    obtain ⟨h1, h2⟩ := partsK_lt f g m h0 hf (k + 1) (by omega)
    have := learn_behind ⟨f (k + 1), f (k + 2), 0, g (k + 1)⟩ (partsK f g (k + 1)) 0 h2 (hf (k + 1) hk) h1 (hg _) (Int.le_refl _) (by simp)
    show (arcsK f g (k + 1) ++ [(⟨f (k + 1), f (k + 1 + 1), 0, g (k + 1)⟩ : Ow)]).foldl learnP [] = _
    rw [List.foldl_append, ih (by omega)]
    simp only [List.foldl_cons, List.foldl_nil]
    refine this.trans ?_
    simp [partsK]
/-- how many arcs there are, when alike neighbours are one -/
def cntK (g : Nat → Int) : Nat → Nat
  | 0 => 0
  | k + 1 => cntK g k + (if k = 0 ∨ g k ≠ g (k - 1) then 1 else 0)
theorem comp_chain (f g : Nat → Int) : ∀ k, cntN (compP (partsK f g k)) = cntK g k ∧
    (∀ q, (compP (partsK f g k)).getLast? = some q → if k = 0 then q.n = -1 else q.n = 0 ∧ q.e = g (k - 1)) := by
  intro k
  induction k with
  | zero =>
    unfold partsK preP
    split
    · exact ⟨rfl, fun q hq => by cases hq⟩
    · refine ⟨rfl, fun q hq => ?_⟩
      simp [compP, compA] at hq
      subst hq
      simp
  | succ k ih =>
    obtain ⟨h1, h2⟩ := ih
    have hs : compP (partsK f g (k + 1)) = compA (compP (partsK f g k)) ⟨f k, 0, g k⟩ := comp_snoc _ _
    rw [hs]
    unfold compA
    unfold cntK
    cases hl : (compP (partsK f g k)).getLast? with
    | none =>
      simp only [cntN_snoc, h1]
      have hn : compP (partsK f g k) = [] := List.getLast?_eq_none_iff.1 hl
      rw [hn] at h1
      have hk0 : k = 0 := by
        rcases Nat.eq_zero_or_pos k with h | h
        · exact h
        · obtain ⟨j, rfl⟩ : ∃ j, k = j + 1 := ⟨k - 1, by omega⟩
          have e1 : compP (partsK f g (j + 1)) = compA (compP (partsK f g j)) ⟨f j, 0, g j⟩ := comp_snoc _ _
          rw [e1] at hn
          unfold compA at hn
          split at hn
          · rename_i hx
            split at hn
            · rw [hn] at hx; cases hx
            · simp at hn
          · simp at hn
      subst hk0
      refine ⟨by simp, fun q hq => ?_⟩
      simp at hq
      subst hq
      simp
    | some q =>
      have h3 := h2 q hl
      simp only
      by_cases ha : alikeP q ⟨f k, 0, g k⟩ = true
      · rw [if_pos ha]
        simp only [alikeP, Bool.and_eq_true, decide_eq_true_eq] at ha
        have hk0 : k ≠ 0 := by
          intro h0
          rw [if_pos h0] at h3
          omega
        rw [if_neg hk0] at h3
        have hc : ¬ (k = 0 ∨ g k ≠ g (k - 1)) := by
          intro h
          rcases h with h | h
          · exact hk0 h
          · exact h (ha.2.symm.trans h3.2)
        refine ⟨by rw [if_neg hc, h1]; rfl, fun q' hq' => ?_⟩
        obtain rfl : q = q' := Option.some.inj (hl.symm.trans hq')
        rw [if_neg (by omega), Nat.add_sub_cancel]
        exact ⟨ha.1, ha.2⟩
      · rw [if_neg ha]
        simp only [alikeP, Bool.and_eq_true, decide_eq_true_eq] at ha
        have hc : k = 0 ∨ g k ≠ g (k - 1) := by
          rcases Nat.eq_zero_or_pos k with h | h
          · exact .inl h
          · rw [if_neg (by omega)] at h3
            exact .inr fun h => ha ⟨h3.1, h3.2.trans h.symm⟩
        refine ⟨by rw [if_pos hc, cntN_snoc, h1]; simp, fun q' hq' => ?_⟩
        simp at hq'
        subst hq'
        simp
theorem comp_end (f g : Nat → Int) (k : Nat) (x : Int) : cntN (compP (partsK f g k ++ [⟨x, -1, 0⟩])) = cntK g k ∧ (1 ≤ k → compP (partsK f g k ++ [⟨x, -1, 0⟩]) = compP (partsK f g k) ++ [⟨x, -1, 0⟩]) := by
  obtain ⟨h1, h2⟩ := comp_chain f g k
  rw [comp_snoc]
  unfold compA
  cases hl : (compP (partsK f g k)).getLast? with
  | none => exact ⟨by simp [cntN_snoc, h1], fun _ => rfl⟩
  | some q =>
    have h3 := h2 q hl
    simp only
    by_cases ha : alikeP q ⟨x, -1, 0⟩ = true
    · rw [if_pos ha]
      simp only [alikeP, Bool.and_eq_true, decide_eq_true_eq] at ha
      refine ⟨h1, fun hk => ?_⟩
      rw [if_neg (by omega)] at h3
      omega
    · rw [if_neg ha]
      exact ⟨by rw [cntN_snoc, h1]; simp, fun _ => rfl⟩
theorem not_over (c : List Pt) (x e : Int) : ¬ overEnd (c ++ [⟨x, -1, e⟩]) := by
  rintro ⟨a, b, h1, h2, h3, h4, h5⟩
  rw [List.length_append, List.length_singleton, Nat.add_sub_cancel, List.getElem?_append_right (Nat.le_refl _), Nat.sub_self] at h2
  simp at h2
  subst h2
  simp only [alikeP, Bool.and_eq_true, decide_eq_true_eq] at h5
  omega
/-- of one epoch all is one -/
theorem comp_one (f : Nat → Int) (k : Nat) : compP (partsK f (fun _ => 0) (k + 1)) = preP (f 0) ++ [⟨f 0, 0, 0⟩] := by
  induction k with
  | zero =>
    have hs : compP (partsK f (fun _ => 0) 1) = compA (compP (preP (f 0))) ⟨f 0, 0, 0⟩ := comp_snoc _ _
    rw [hs]
    unfold preP
    split
    · rfl
    · rfl
  | succ k ih =>
    have hs : compP (partsK f (fun _ => 0) (k + 2)) = compA (compP (partsK f (fun _ => 0) (k + 1))) ⟨f (k + 1), 0, 0⟩ := comp_snoc _ _
    rw [hs, ih]
    unfold compA
    simp [alikeP]
theorem outK_one (a x : Int) : outK (preP a ++ [⟨a, 0, 0⟩] ++ [⟨x, -1, 0⟩]) (preP a ++ [(⟨a, 0, 0⟩ : Pt)] ++ [(⟨x, -1, 0⟩ : Pt)]).length = [⟨a, x, 0, 0⟩] := by
  unfold preP
  split
  · rfl
  · rfl
/-- what Arcs tells: as many as there are runs of alike epochs -/
theorem arcs_cnt (f g : Nat → Int) (m : Nat) (h0 : 0 ≤ f 0) (hf : ∀ i, i < m → f i < f (i + 1)) (hg : ∀ i, 0 ≤ g i) (hm : 1 ≤ m) :
    ¬ overEnd (compP ((arcsK f g m).foldl learnP [])) ∧ (outK (compP ((arcsK f g m).foldl learnP [])) (compP ((arcsK f g m).foldl learnP [])).length).length = cntK g m := by
  obtain ⟨k, rfl⟩ : ∃ k, m = k + 1 := ⟨m - 1, by omega⟩
  rw [learn_chain f g (k + 1) h0 hf hg k (by omega), outK_all]
  obtain ⟨h1, h2⟩ := comp_end f g (k + 1) (f (k + 1))
  exact ⟨by rw [h2 (by omega)]; exact not_over _ _ _, h1⟩
/-- what Pieces puts together: one arc -/
theorem pieces_one (f : Nat → Int) (m : Nat) (h0 : 0 ≤ f 0) (hf : ∀ i, i < m → f i < f (i + 1)) (hm : 1 ≤ m) :
    ¬ overEnd (compP ((arcsK f (fun _ => 0) m).foldl learnP [])) ∧ outK (compP ((arcsK f (fun _ => 0) m).foldl learnP [])) (compP ((arcsK f (fun _ => 0) m).foldl learnP [])).length = [⟨f 0, f m, 0, 0⟩] := by
  obtain ⟨k, rfl⟩ : ∃ k, m = k + 1 := ⟨m - 1, by omega⟩
  rw [learn_chain f (fun _ => 0) (k + 1) h0 hf (fun _ => Int.le_refl _) k (by omega)]
  obtain ⟨h1, h2⟩ := comp_end f (fun _ => 0) (k + 1) (f (k + 1))
  refine ⟨by rw [h2 (by omega)]; exact not_over _ _ _, ?_⟩
  rw [h2 (by omega), comp_one]
  exact outK_one _ _
end Go.Proofs.YtmagddchjidamaaGreatDoor

/- HoldArcs: arcs side by side at one node, plain; what arcs, Arcs, Pieces tell of them. -/
namespace Go.Proofs.YtmagddchjidamaaGreatDoor
set_option linter.unusedSimpArgs false
set_option linter.unusedVariables false
open Go.RowKit Go.Shelf

theorem arcsOK {W : World} {v : Nat} {l : List Pt} {B : List Nat} (h : ViewAt W v l B) (hl : l.length ≤ 50000) : ArcsOK v (arcsV l) W :=
  fun W' hm => varcs_any (h.mod hm (fun _ _ x => x)) hl

def arcs5 (f g : Nat → Int) : Nat → List Ow
  | 0 => []
  | k + 1 => arcs5 f g k ++ [⟨f k, f (k + 1), 5, g k⟩]
def maxK (g : Nat → Int) : Nat → Int
  | 0 => 0
  | k + 1 => max (maxK g k) (g k)
theorem arcs5_len (f g : Nat → Int) (k : Nat) : (arcs5 f g k).length = k := by
  induction k with
  | zero => rfl
  | succ k ih => simp [arcs5, ih]
theorem arcs5_view (f g : Nat → Int) (k : Nat) : (arcs5 f g k).map (ndOw 0) = arcsK f g k := by
  induction k with
  | zero => rfl
  | succ k ih => simp [arcs5, arcsK, ih]
theorem arcs5_bare (f g : Nat → Int) (k : Nat) : (arcs5 f g k).map bareOw = arcsK f (fun _ => 0) k := by
  induction k with
  | zero => rfl
  | succ k ih => simp [arcs5, arcsK, ih]
theorem arcs5_ep (f g : Nat → Int) (k : Nat) : epochTo (arcs5 f g k) = maxK g k := by
  induction k with
  | zero => rfl
  | succ k ih =>
    unfold epochTo at ih ⊢
    show (arcs5 f g k ++ [_]).foldl _ _ = _
    rw [List.foldl_append, ih]
    rfl
theorem arcs5_at {f g : Nat → Int} {k : Nat} {o : Ow} (h : o ∈ arcs5 f g k) : ∃ j, j < k ∧ o = ⟨f j, f (j + 1), 5, g j⟩ := by
  induction k with
  | zero => simp [arcs5] at h
  | succ k ih =>
    rcases List.mem_append.1 h with h | h
    · obtain ⟨j, hj, e⟩ := ih h
      exact ⟨j, by omega, e⟩
    · rw [List.mem_singleton] at h
      exact ⟨k, by omega, h⟩
theorem mono_le {f : Nat → Int} {m : Nat} (hf : ∀ i, i < m → f i < f (i + 1)) {i : Nat} : ∀ d, i + d ≤ m → f i ≤ f (i + d)
  | 0, _ => Int.le_refl _
  | d + 1, h => by
    have h1 := mono_le hf (i := i) d (by omega)
    have h2 := hf (i + d) (by omega)
    rw [show i + (d + 1) = i + d + 1 by omega]
    omega
theorem epIn_all {f g : Nat → Int} {m : Nat} (hp : ∀ i, i ≤ m → Pt64 (f i)) (hf : ∀ i, i < m → f i < f (i + 1)) : ∀ k, k ≤ m → epIn ⟨f 0, f m⟩ 0 (arcs5 f g k) = maxK g k := by
  intro k
  induction k with
  | zero => intro _; rfl
  | succ k ih =>
    intro hk
    show epIn _ 0 (arcs5 f g k ++ [_]) = _
    rw [epIn_snoc, ih (by omega)]
    have h1 : f 0 ≤ f k := by have := mono_le hf (i := 0) k (by omega); simpa using this
    have h2 : f k < f (k + 1) := hf k (by omega)
    have h3 : f (k + 1) ≤ f m := by have := mono_le hf (i := k + 1) (m - (k + 1)) (by omega); rwa [show k + 1 + (m - (k + 1)) = m by omega] at this
    have hin : inA ⟨f 0, f m⟩ (f k) = true := by
      rw [inA_iff ⟨hp 0 (by omega), hp m (by omega)⟩ (hp k (by omega))]
      rw [if_neg (by simp only; omega), if_pos (by simp only; omega)]
      simp only; omega
    rw [if_pos hin]
    rfl

abbrev stA (f g : Nat → Int) (k : Nat) : HSt := ⟨5, 10, 0, arcs5 f g k, false, ⟨0, 0⟩, []⟩
theorem mayA {f g : Nat → Int} {m k : Nat} (hp : ∀ i, i ≤ m → Pt64 (f i)) (hf : ∀ i, i < m → f i < f (i + 1)) (hg : 0 ≤ g k) (hk : k < m) : (stA f g k).may ⟨f k, f (k + 1)⟩ (g k) = true := by
  unfold HSt.may
  rw [decide_eq_true hg, Bool.true_and, List.all_eq_true]
  intro o ho
  obtain ⟨j, hj, rfl⟩ := arcs5_at ho
  have hj1 : f j < f (j + 1) := hf j (by omega)
  have hk1 : f k < f (k + 1) := hf k hk
  have hjk : f (j + 1) ≤ f k := by have := mono_le hf (i := j + 1) (k - (j + 1)) (by omega); rwa [show j + 1 + (k - (j + 1)) = k by omega] at this
  have oa : Arc.ok ⟨f j, f (j + 1)⟩ := ⟨hp j (by omega), hp (j + 1) (by omega)⟩
  have ob : Arc.ok ⟨f k, f (k + 1)⟩ := ⟨hp k (by omega), hp (k + 1) (by omega)⟩
  refine (apart_iff oa ob).2 fun x hx ⟨h1, h2⟩ => ?_
  rw [inA_iff oa hx, if_neg (by simp only; omega), if_pos (by simp only; omega)] at h1
  rw [inA_iff ob hx, if_neg (by simp only; omega), if_pos (by simp only; omega)] at h2
  simp only at h1 h2
  omega
theorem ownA {f g : Nat → Int} {k : Nat} (hf : f k < f (k + 1)) : ownSt (stA f g k) ⟨f k, f (k + 1)⟩ (g k) = stA f g (k + 1) := by
  have hp : piecesA ⟨f k, f (k + 1)⟩ = [⟨f k, f (k + 1)⟩] := by unfold piecesA; rw [if_pos (.inr hf)]
  unfold ownSt
  rw [hp]
  rfl

/-- what Arcs and Pieces go through -/
theorem arcsV_cnt {f g : Nat → Int} {m : Nat} (h0 : 0 ≤ f 0) (hf : ∀ i, i < m → f i < f (i + 1)) (hg : ∀ i, 0 ≤ g i) (hm : 1 ≤ m) : (arcsV (viewOf (arcs5 f g m))).length = cntK g m := by
  obtain ⟨h1, h2⟩ := arcs_cnt f g m h0 hf hg hm
  unfold arcsV viewOf
  rw [arcs5_view, if_neg (by rw [overB_no h1]; simp)]
  exact h2
theorem arcsV_one {f g : Nat → Int} {m : Nat} (h0 : 0 ≤ f 0) (hf : ∀ i, i < m → f i < f (i + 1)) (hm : 1 ≤ m) : arcsV (viewBare (arcs5 f g m)) = [⟨f 0, f m, 0, 0⟩] := by
  obtain ⟨h1, h2⟩ := pieces_one f m h0 hf hm
  unfold arcsV viewBare
  rw [arcs5_bare, if_neg (by rw [overB_no h1]; simp)]
  exact h2
theorem cntK_le (g : Nat → Int) (k : Nat) : cntK g k ≤ k := by
  induction k with
  | zero => exact Nat.le_refl _
  | succ k ih => unfold cntK; split <;> omega

/-- e & 3 -/
def and3 (e : Int) : Int := Go.bits .and .i64 e 3
theorem and3_nn (e : Int) : 0 ≤ and3 e := by
  have h : (BitVec.ofInt 64 e &&& BitVec.ofInt 64 3).toNat ≤ 3 := by
    rw [BitVec.toNat_and]
    exact Nat.le_trans Nat.and_le_right (by decide)
  have h2 : and3 e = IntKind.i64.wrap ((BitVec.ofInt 64 e &&& BitVec.ofInt 64 3).toNat : Int) := rfl
  rw [h2, IntWalk.i64_in _ ⟨by omega, by omega⟩]
  omega
end Go.Proofs.YtmagddchjidamaaGreatDoor

/- HoldArcs: the walk. -/
namespace Go.Proofs.YtmagddchjidamaaGreatDoor
set_option linter.unusedSimpArgs false
set_option linter.unusedVariables false
open Go.RowKit Go.Shelf
attribute [local go_sem ↓] Go.wp_at_zero Go.wp_at_succ

abbrev encU (c : Int) : List Value := [.int .u64 c]
abbrev encI (e : Int) : List Value := [.int .i64 e]
theorem at1u {w : World} {v : Value} {l : List Int} (h : SlAt 1 encU w v l) {i : Nat} {x : Int} (hi : l[i]? = some x) :
    ∃ b o cap, v = .slice (some ⟨b, o, none⟩) l.length cap ∧ b < w.heap.size ∧ w.cell? ⟨b, o + i, none⟩ = some (.int .u64 x) := by
  obtain ⟨a, cap, hv, hx⟩ := h
  obtain ⟨b, o, rfl, hj⟩ := hx i x hi
  have h0 := hj 0 _ rfl
  exact ⟨b, o, cap, hv, cell_lt' h0, by simpa using h0⟩
theorem at1i {w : World} {v : Value} {l : List Int} (h : SlAt 1 encI w v l) {i : Nat} {x : Int} (hi : l[i]? = some x) :
    ∃ b o cap, v = .slice (some ⟨b, o, none⟩) l.length cap ∧ b < w.heap.size ∧ w.cell? ⟨b, o + i, none⟩ = some (.int .i64 x) := by
  obtain ⟨a, cap, hv, hx⟩ := h
  obtain ⟨b, o, rfl, hj⟩ := hx i x hi
  have h0 := hj 0 _ rfl
  exact ⟨b, o, cap, hv, cell_lt' h0, by simpa using h0⟩

set_option maxRecDepth 100000 in
set_option maxHeartbeats 16000000 in
theorem arcs_walk {w : World} {vc ve : Value} {cs es : List Int} (hc : SlAt 1 encU w vc cs) (hcl : cs.length ≤ 9223372036854775807) (hcr : ∀ c ∈ cs, Pt64 c) (he : SlAt 1 encI w ve es) (hel : es.length ≤ 9223372036854775807) :
    Calls Tryz.prog 9 #[vc, ve] w fun e w' => e = .returned (.bool true) ∧ Mod NoB w w' := by
  obtain ⟨ac, ccap, rfl, _⟩ := id hc
  obtain ⟨ae, ecap, rfl, _⟩ := id he
  by_cases hr : 2 ≤ cs.length ∧ cs.length ≤ 12 ∧ es.length ≠ 0 ∧ es.length ≤ 12
  case neg =>
    have hcc : cs.length < 2 ∨ (¬ cs.length < 2 ∧ 12 < cs.length) ∨ (¬ cs.length < 2 ∧ ¬ 12 < cs.length ∧ es.length = 0) ∨ (¬ cs.length < 2 ∧ ¬ 12 < cs.length ∧ es.length ≠ 0 ∧ 12 < es.length) := by omega
    clear hr hc he
    rcases hcc with h1 | ⟨h1, h2⟩ | ⟨h1, h2, h3⟩ | ⟨h1, h2, h3, h4⟩
    · have n1 : (cs.length : Int) < 2 := by omega
      go_enter Tryz.func9, Tryz.ntmps9
      go_wp2_with fail
      refine (alive_any _).mono ?_
      rintro e w1 ⟨rfl, hm1⟩
      have M1 := Lib.hid hm1
      clear hm1
      go_wp2_with fail
      go_ret
      exact ⟨rfl, M1.out⟩
    · have n1 : ¬ (cs.length : Int) < 2 := by omega
      have n2 : (12 : Int) < (cs.length : Int) := by omega
      go_enter Tryz.func9, Tryz.ntmps9
      go_wp2_with fail
      refine (alive_any _).mono ?_
      rintro e w1 ⟨rfl, hm1⟩
      have M1 := Lib.hid hm1
      clear hm1
      go_wp2_with fail
      go_ret
      exact ⟨rfl, M1.out⟩
    · have n1 : ¬ (cs.length : Int) < 2 := by omega
      have n2 : ¬ (12 : Int) < (cs.length : Int) := by omega
      go_enter Tryz.func9, Tryz.ntmps9
      go_wp2_with fail
      refine (alive_any _).mono ?_
      rintro e w1 ⟨rfl, hm1⟩
      have M1 := Lib.hid hm1
      clear hm1
      go_wp2_with fail
      go_ret
      exact ⟨rfl, M1.out⟩
    · have n1 : ¬ (cs.length : Int) < 2 := by omega
      have n2 : ¬ (12 : Int) < (cs.length : Int) := by omega
      have n4 : (12 : Int) < (es.length : Int) := by omega
      go_enter Tryz.func9, Tryz.ntmps9
      go_wp2_with fail
      refine (alive_any _).mono ?_
      rintro e w1 ⟨rfl, hm1⟩
      have M1 := Lib.hid hm1
      clear hm1
      go_wp2_with fail
      go_ret
      exact ⟨rfl, M1.out⟩
  obtain ⟨r1, r2, r3, r4⟩ := hr
  have n1 : ¬ cs.length < 2 := by omega
  have n2 : ¬ 12 < cs.length := by omega
  have n4 : ¬ 12 < es.length := by omega
  have m1 : ¬ (cs.length : Int) < 2 := by omega
  have m2 : ¬ (12 : Int) < (cs.length : Int) := by omega
  have m4 : ¬ (12 : Int) < (es.length : Int) := by omega
  have m3 : ((es.length : Int) == 0) = false := by
    have : ¬ (es.length : Int) = 0 := by omega
    simpa using this
  obtain ⟨f, hf⟩ : ∃ f : Nat → Int, f = fun k => cs.getD k 0 := ⟨_, rfl⟩
  obtain ⟨g, hg⟩ : ∃ g : Nat → Int, g = fun k => and3 (es.getD (k % es.length) 0) := ⟨_, rfl⟩
  have hfa : ∀ k, k < cs.length → cs[k]? = some (f k) := fun k hk => by rw [hf]; simp [List.getD, List.getElem?_eq_getElem hk]
  have hga : ∀ k, ∃ e, es[k % es.length]? = some e ∧ g k = and3 e := fun k => by
    have hk : k % es.length < es.length := Nat.mod_lt _ (by omega)
    exact ⟨es[k % es.length], List.getElem?_eq_getElem hk, by rw [hg]; simp [List.getD, List.getElem?_eq_getElem hk]⟩
  have hpt : ∀ k, k < cs.length → Pt64 (f k) := fun k hk => hcr _ (List.mem_of_getElem? (hfa k hk))
  have hg0 : ∀ k, 0 ≤ g k := fun k => by rw [hg]; exact and3_nn _
  have HFA := Lib.hid hfa; have HGA := Lib.hid hga; have HPT := Lib.hid hpt; have HG0 := Lib.hid hg0
  have HC := Lib.hid hc; have HE := Lib.hid he
  clear hf hg hfa hga hpt hg0 hcr hc he hcl hel
  go_enter Tryz.func9, Tryz.ntmps9
  go_wp2_with fail
  refine (alive_any _).mono ?_
  rintro e w1 ⟨rfl, hm1⟩
  have M1 := Lib.hid hm1
  clear hm1
  go_wp2_with fail
  go_loopw [5] (fun s5 wr => ∃ i : Nat, 1 ≤ i ∧ i ≤ cs.length ∧ s5 = .int .i64 i ∧ (∀ j, j + 1 < i → f j < f (j + 1)) ∧ Mod NoB w wr) (fun s5 _ => cs.length - (intOf s5).toNat)
  case atStart => exact ⟨1, Nat.le_refl _, by omega, rfl, fun j hj => by omega, M1.out⟩
  case round =>
    clear M1
    obtain ⟨i, hi1, hi2, rfl, hso, hmw⟩ := hrel
    by_cases hlt : i < cs.length
    · obtain ⟨bc, oc, cp, hv, hbl, x0⟩ := at1u (HC.out.mod hmw) (HFA.out (i - 1) (by omega))
      simp only [Value.slice.injEq] at hv
      obtain ⟨rfl, _, rfl⟩ := hv
      obtain ⟨bc', oc', cp', hv, hbl', x1⟩ := at1u (HC.out.mod hmw) (HFA.out i hlt)
      simp only [Value.slice.injEq, Option.some.injEq, Addr.mk.injEq] at hv
      obtain ⟨⟨rfl, rfl, _⟩, _, rfl⟩ := hv
      have hix : IntKind.i64.wrap ((i : Int) - 1) = ((i - 1 : Nat) : Int) := (IntWalk.i64_in _ ⟨by omega, by omega⟩).trans (by omega)
      have hlt1 : i - 1 < cs.length := by omega
      have HSO := Lib.hid hso; have HMW := Lib.hid hmw
      clear hso hmw
      by_cases hge : f i ≤ f (i - 1)
      · go_wp2_with fail
        go_quiet (fail)
        go_wp2_with fail
        go_ret
        exact ⟨rfl, HMW.out.trans (by repeat (first | exact Mod.refl _ _ | refine Mod.alloc ?_ _ | refine Mod.drew ?_ | refine Mod.drewN ?_ _))⟩
      · go_wp2_with fail
        go_quiet (fail)
        go_wp2_with fail
        go_roundw
        case rel =>
          refine ⟨i + 1, by omega, by omega, by go_num, fun j hj => ?_, HMW.out.trans (by repeat (first | exact Mod.refl _ _ | refine Mod.alloc ?_ _ | refine Mod.drew ?_ | refine Mod.drewN ?_ _))⟩
          by_cases hj2 : j + 1 < i
          · exact HSO.out j hj2
          · obtain rfl : j = i - 1 := by omega
            rw [show i - 1 + 1 = i by omega]
            omega
        case measure => simp [intOf]; omega
    · obtain rfl : i = cs.length := by omega
      have HSO : Hid (∀ j, j < cs.length - 1 → f j < f (j + 1)) := Lib.hid (fun j hj => hso j (by omega))
      have HMW := Lib.hid hmw
      clear hso hmw
      obtain ⟨m, hm⟩ : ∃ m, cs.length = m + 1 := ⟨cs.length - 1, by omega⟩
      have HLM := Lib.hid hm
      have hm12 : m ≤ 11 := by omega
      have hm1 : 1 ≤ m := by omega
      have HSF : Hid (∀ j, j < m → f j < f (j + 1)) := Lib.hid (fun j hj => HSO.out j (by omega))
      have HPM : Hid (∀ j, j ≤ m → Pt64 (f j)) := Lib.hid (fun j hj => HPT.out j (by omega))
      go_wp2_with fail
      refine (new_any 5 10 _ (by decide) (by decide)).mono ?_
      rintro e w2 ⟨h, B2, rfl, q1, q2, q3⟩
      obtain ⟨w0, rfl⟩ : ∃ w0 : World, w0 = wr := ⟨_, rfl⟩
      have N2 : Hid (NewI w0 w2 h (stA f g 0) [] B2) := Lib.hid ⟨⟨none, 0, q1, ShOK.start⟩, q2, q3⟩
      clear q1 q2 q3 hm
      go_wp2_with fail
      go_loopw [7, 8, 9] (fun s7 s8 s9 wr => ∃ (k : Nat) (B : List Nat), k ≤ m ∧ s9 = .int .i64 k ∧ s7 = .int .i64 (cntK g k : Nat) ∧ s8 = .int .i64 (maxK g k) ∧ NewI w0 wr h (stA f g k) [] B) (fun _ _ s9 _ => m - (intOf s9).toNat)
      case atStart => exact ⟨0, B2, Nat.zero_le _, rfl, rfl, rfl, N2.out⟩
      case round =>
        clear N2
        obtain ⟨k, B, hk, rfl, rfl, rfl, hN⟩ := hrel
        have NN := Lib.hid hN
        have hmw2 : Mod NoB w wr := HMW.out.trans hN.2.1
        clear hN
        have hk1 : IntKind.i64.wrap ((k : Int) + 1) = ((k + 1 : Nat) : Int) := (IntWalk.i64_in _ ⟨by omega, by omega⟩).trans (by omega)
        by_cases hkm : k < m
        · have hkl : k + 1 < cs.length := by have := HLM.out; omega
          have hkl0 : k < cs.length := by omega
          have hklI : (k : Int) + 1 < (cs.length : Int) := by omega
          have hklJ : (0 : Int) ≤ (k : Int) + 1 := by omega
          obtain ⟨bc, oc, cp, hv, hbl, x0⟩ := at1u (HC.out.mod hmw2) (HFA.out k hkl0)
          simp only [Value.slice.injEq] at hv
          obtain ⟨rfl, _, rfl⟩ := hv
          obtain ⟨bc', oc', cp', hv, hbl', x1⟩ := at1u (HC.out.mod hmw2) (HFA.out (k + 1) hkl)
          simp only [Value.slice.injEq, Option.some.injEq, Addr.mk.injEq] at hv
          obtain ⟨⟨rfl, rfl, _⟩, _, rfl⟩ := hv
          obtain ⟨ek, hek, hgk⟩ := HGA.out k
          obtain ⟨be, oe, cpe, hv, hble, e0⟩ := at1i (HE.out.mod hmw2) hek
          simp only [Value.slice.injEq] at hv
          obtain ⟨rfl, _, rfl⟩ := hv
          have hel0 : 0 < es.length := by omega
          have hmd : k % es.length < es.length := Nat.mod_lt _ hel0
          have hm0 : 0 ≤ (k : Int) % (es.length : Int) := Int.emod_nonneg _ (by omega)
          have hm1' : (k : Int) % (es.length : Int) < (es.length : Int) := Int.emod_lt_of_pos _ (by omega)
          have HGK := Lib.hid hgk; have HMW2 := Lib.hid hmw2
          clear hgk hek hmw2
          obtain ⟨trj, mj, hhj, hoj⟩ := NN.out.1
          have HHJ := Lib.hid hhj; have HOJ := Lib.hid hoj
          clear hhj hoj
          have hgk' : Go.bits .and .i64 ek 3 = g k := HGK.out.symm
          have KEEP : Hid (∀ W, Mod NoB w W → (W.cell? ⟨bc, oc + k, none⟩ = some (.int .u64 (f k)) ∧ W.cell? ⟨bc, oc + (k + 1), none⟩ = some (.int .u64 (f (k + 1))))) := Lib.hid (fun W hm => by
            obtain ⟨b1, o1, _, hv, _, y0⟩ := at1u (HC.out.mod hm) (HFA.out k hkl0)
            simp only [Value.slice.injEq, Option.some.injEq, Addr.mk.injEq] at hv
            obtain ⟨⟨rfl, rfl, _⟩, _, _⟩ := hv
            obtain ⟨b1, o1, _, hv, _, y1⟩ := at1u (HC.out.mod hm) (HFA.out (k + 1) hkl)
            simp only [Value.slice.injEq, Option.some.injEq, Addr.mk.injEq] at hv
            obtain ⟨⟨rfl, rfl, _⟩, _, _⟩ := hv
            exact ⟨y0, y1⟩)
          have MAY : Hid ((stA f g k).may ⟨f k, f (k + 1)⟩ (g k) = true) := Lib.hid (mayA HPM.out HSF.out (HG0.out k) hkm)
          have OWN : Hid (ownSt (stA f g k) ⟨f k, f (k + 1)⟩ (g k) = stA f g (k + 1)) := Lib.hid (ownA (HSF.out k hkm))
          have HLN : Hid ((stA f g k).own.length ≤ 1000000) := Lib.hid (by show (arcs5 f g k).length ≤ 1000000; rw [arcs5_len]; omega)
          have MAXG : Hid (maxK g (k + 1) = max (maxK g k) (g k)) := Lib.hid rfl
          have hck := cntK_le g k
          have HCW : Hid (wrap64 (((cntK g k : Nat) : Int) + 1) = ((cntK g k + 1 : Nat) : Int)) := Lib.hid ((IntWalk.wrap64_in _ ⟨by omega, by omega⟩).trans (by omega))
          clear hck
          by_cases hk0 : k = 0
          · have hb0 : (((k : Nat) : Int) == 0) = true := by rw [hk0]; rfl
            have CNT : Hid (cntK g (k + 1) = cntK g k + 1) := Lib.hid (by show cntK g k + (if k = 0 ∨ g k ≠ g (k - 1) then 1 else 0) = _; rw [if_pos (.inl hk0)])
            clear hk0
            go_wp2_with fail
            go_region_held3 (fun W => W.cell? ⟨bc, oc + k, none⟩ = some (.int .u64 (f k)) ∧ W.cell? ⟨bc, oc + (k + 1), none⟩ = some (.int .u64 (f (k + 1)))) (first | exact KEEP.out _ M6.out | exact KEEP.out _ (HMW2.out.trans (by repeat (first | exact Mod.refl _ _ | refine Mod.alloc ?_ _ | refine Mod.drew ?_ | refine Mod.drewN ?_ _)))) ((first | (go_simp; go_at_call 13; go_loud (refine (own_any (HHJ.out.mod (S := NoB) (by repeat (first | exact Mod.refl _ _ | refine Mod.alloc ?_ _ | refine Mod.drew ?_ | refine Mod.drewN ?_ _)) (fun _ _ x => x)) ⟨f k, f (k + 1)⟩ (g k) HLN.out).mono ?_; rintro e w5 ⟨rfl, B5, hh5, ht5⟩; rw [MAY.out] at hh5 ⊢; rw [if_pos rfl, OWN.out] at hh5; have hn5 := (NN.out.quiet (by repeat (first | exact Mod.refl _ _ | refine Mod.alloc ?_ _ | refine Mod.drew ?_ | refine Mod.drewN ?_ _))).turn ⟨_, _, hh5, HOJ.out⟩ ht5; have N5 := Lib.hid hn5; have M6 := Lib.hid (HMW.out.trans hn5.2.1); obtain ⟨k0, k1⟩ := KEEP.out _ M6.out; clear hh5 ht5 hn5))))
            go_wp2_with fail
            go_roundw
            case rel => exact ⟨k + 1, _, by omega, by go_num, by rw [CNT.out]; first | done | rfl | (rw [HCW.out]), by rw [MAXG.out], N5.out⟩
            case measure => simp [intOf]; omega
          · have hb0 : (((k : Nat) : Int) == 0) = false := by
              have : ¬ ((k : Nat) : Int) = 0 := by omega
              simpa using this
            obtain ⟨ep, hep, hgp⟩ := HGA.out (k - 1)
            obtain ⟨bp, op, cpp, hv, hblp, e1⟩ := at1i (HE.out.mod HMW2.out) hep
            simp only [Value.slice.injEq, Option.some.injEq, Addr.mk.injEq] at hv
            obtain ⟨⟨rfl, rfl, _⟩, _, rfl⟩ := hv
            have hgp' : Go.bits .and .i64 ep 3 = g (k - 1) := hgp.symm
            have hkm1 : IntKind.i64.wrap ((k : Int) - 1) = ((k - 1 : Nat) : Int) := (IntWalk.i64_in _ ⟨by omega, by omega⟩).trans (by omega)
            have hmd1 : (k - 1) % es.length < es.length := Nat.mod_lt _ hel0
            have hm2 : 0 ≤ ((k - 1 : Nat) : Int) % (es.length : Int) := Int.emod_nonneg _ (by omega)
            have hm3 : ((k - 1 : Nat) : Int) % (es.length : Int) < (es.length : Int) := Int.emod_lt_of_pos _ (by omega)
            clear hgp hep
            by_cases hgg : g k = g (k - 1)
            · have CNT : Hid (cntK g (k + 1) = cntK g k) := Lib.hid (by show cntK g k + (if k = 0 ∨ g k ≠ g (k - 1) then 1 else 0) = _; rw [if_neg (by rintro (h | h); exact hk0 h; exact h hgg)]; rfl)
              have hbn : (g k != g (k - 1)) = false := by simpa using hgg
              clear hk0 hgg
              go_wp2_with fail
              go_region_held3 (fun W => W.cell? ⟨bc, oc + k, none⟩ = some (.int .u64 (f k)) ∧ W.cell? ⟨bc, oc + (k + 1), none⟩ = some (.int .u64 (f (k + 1)))) (first | exact KEEP.out _ M6.out | exact KEEP.out _ (HMW2.out.trans (by repeat (first | exact Mod.refl _ _ | refine Mod.alloc ?_ _ | refine Mod.drew ?_ | refine Mod.drewN ?_ _)))) ((first | (go_simp; go_at_call 13; go_loud (refine (own_any (HHJ.out.mod (S := NoB) (by repeat (first | exact Mod.refl _ _ | refine Mod.alloc ?_ _ | refine Mod.drew ?_ | refine Mod.drewN ?_ _)) (fun _ _ x => x)) ⟨f k, f (k + 1)⟩ (g k) HLN.out).mono ?_; rintro e w5 ⟨rfl, B5, hh5, ht5⟩; rw [MAY.out] at hh5 ⊢; rw [if_pos rfl, OWN.out] at hh5; have hn5 := (NN.out.quiet (by repeat (first | exact Mod.refl _ _ | refine Mod.alloc ?_ _ | refine Mod.drew ?_ | refine Mod.drewN ?_ _))).turn ⟨_, _, hh5, HOJ.out⟩ ht5; have N5 := Lib.hid hn5; have M6 := Lib.hid (HMW.out.trans hn5.2.1); obtain ⟨k0, k1⟩ := KEEP.out _ M6.out; clear hh5 ht5 hn5))))
              go_wp2_with fail
              go_roundw
              case rel => exact ⟨k + 1, _, by omega, by go_num, by rw [CNT.out]; first | done | rfl | (rw [HCW.out]), by rw [MAXG.out], N5.out⟩
              case measure => simp [intOf]; omega
            · have CNT : Hid (cntK g (k + 1) = cntK g k + 1) := Lib.hid (by show cntK g k + (if k = 0 ∨ g k ≠ g (k - 1) then 1 else 0) = _; rw [if_pos (.inr hgg)])
              have hbn : (g k != g (k - 1)) = true := by simpa using hgg
              clear hk0 hgg
              go_wp2_with fail
              go_region_held3 (fun W => W.cell? ⟨bc, oc + k, none⟩ = some (.int .u64 (f k)) ∧ W.cell? ⟨bc, oc + (k + 1), none⟩ = some (.int .u64 (f (k + 1)))) (first | exact KEEP.out _ M6.out | exact KEEP.out _ (HMW2.out.trans (by repeat (first | exact Mod.refl _ _ | refine Mod.alloc ?_ _ | refine Mod.drew ?_ | refine Mod.drewN ?_ _)))) ((first | (go_simp; go_at_call 13; go_loud (refine (own_any (HHJ.out.mod (S := NoB) (by repeat (first | exact Mod.refl _ _ | refine Mod.alloc ?_ _ | refine Mod.drew ?_ | refine Mod.drewN ?_ _)) (fun _ _ x => x)) ⟨f k, f (k + 1)⟩ (g k) HLN.out).mono ?_; rintro e w5 ⟨rfl, B5, hh5, ht5⟩; rw [MAY.out] at hh5 ⊢; rw [if_pos rfl, OWN.out] at hh5; have hn5 := (NN.out.quiet (by repeat (first | exact Mod.refl _ _ | refine Mod.alloc ?_ _ | refine Mod.drew ?_ | refine Mod.drewN ?_ _))).turn ⟨_, _, hh5, HOJ.out⟩ ht5; have N5 := Lib.hid hn5; have M6 := Lib.hid (HMW.out.trans hn5.2.1); obtain ⟨k0, k1⟩ := KEEP.out _ M6.out; clear hh5 ht5 hn5))))
              go_wp2_with fail
              go_roundw
              case rel => exact ⟨k + 1, _, by omega, by go_num, by rw [CNT.out]; first | done | rfl | (rw [HCW.out]), by rw [MAXG.out], N5.out⟩
              case measure => simp [intOf]; omega
        · obtain rfl : k = m := by omega
          have hnl : ¬ (k : Int) + 1 < (cs.length : Int) := by have := HLM.out; omega
          obtain ⟨trj, mj, hhj, hoj⟩ := NN.out.1
          have HHJ := Lib.hid hhj
          have HMW2 := Lib.hid hmw2
          clear hhj hoj hmw2
          have hf0 : 0 ≤ f 0 := (HPM.out 0 (by omega)).1
          have hone := arcsV_one (g := g) hf0 HSF.out hm1
          have hcnt := arcsV_cnt (g := g) hf0 HSF.out HG0.out hm1
          have hvl1 : (viewBare (arcs5 f g k)).length ≤ 50000 := by have := viewBare_len (arcs5 f g k); rw [arcs5_len] at this; omega
          have hvl2 : (viewOf (arcs5 f g k)).length ≤ 50000 := by have := viewOf_len (arcs5 f g k); rw [arcs5_len] at this; omega
          have HA1 : Hid (∀ W v B', ViewAt W v (viewBare (stA f g k).own) B' → ArcsOK v [⟨f 0, f k, 0, 0⟩] W) := Lib.hid (fun W v B' hv => by have := arcsOK hv hvl1; rw [hone] at this; exact this)
          obtain ⟨xs, hxs⟩ : ∃ xs, xs = arcsV (viewOf (arcs5 f g k)) := ⟨_, rfl⟩
          rw [← hxs] at hcnt
          have HA2 : Hid (∀ W v B', ViewAt W v (viewOf (stA f g k).own) B' → ArcsOK v xs W) := Lib.hid (fun W v B' hv => by have := arcsOK hv hvl2; rw [hxs]; exact this)
          have HXL := Lib.hid hcnt
          have HEPS : Hid (∀ o ∈ (stA f g k).own, 0 ≤ o.ep) := Lib.hid (fun o ho => by obtain ⟨j, _, rfl⟩ := arcs5_at ho; exact HG0.out j)
          have HLEN : Hid ((stA f g k).own.length ≤ 5000) := Lib.hid (by show (arcs5 f g k).length ≤ 5000; rw [arcs5_len]; omega)
          have hck := cntK_le g k
          have HXM : Hid (xs.length ≤ 1000000) := Lib.hid (by omega)
          have HPC : Hid (([⟨f 0, f k, 0, 0⟩] : List Ow).map (pcOw 5 (arcs5 f g k)) = [⟨f 0, f k, 5, maxK g k⟩]) := Lib.hid (by
            have := epIn_all (g := g) HPM.out HSF.out k (Nat.le_refl _)
            show [(⟨f 0, f k, 5, epIn ⟨f 0, f k⟩ 0 (arcs5 f g k)⟩ : Ow)] = _
            rw [this])
          have HEPO : Hid (epochTo (stA f g k).own = maxK g k) := Lib.hid (arcs5_ep f g k)
          clear hone hcnt hvl1 hvl2 hxs hck
          go_wp2_with fail
          refine (hpieces_any HHJ.out HLEN.out (by simp) HA1.out).mono ?_
          rintro e w5 ⟨u, rfl, hrow, hm5⟩
          have hpc := HPC.out
          rw [show (stA f g k).node = 5 from rfl, show (stA f g k).own = arcs5 f g k from rfl, hpc] at hrow
          have hsl := own_slAt (k := 4) (enc := encOw) (l := [⟨f 0, f k, 5, maxK g k⟩]) (fun _ => rfl) hrow
          obtain ⟨bp, op, cpp, rfl, hbp, p0, p1, p2, p3⟩ := at4w hsl (i := 0) rfl
          simp only [Nat.zero_mul, Nat.add_zero] at p0 p1 p2 p3
          have HM5 := Lib.hid (HMW2.out.trans hm5)
          have HH5 := Lib.hid (HHJ.out.mod hm5 (fun _ _ x => x))
          obtain ⟨bc, oc, cp, hv, hbl, x0⟩ := at1u (HC.out.mod HM5.out) (HFA.out 0 (by omega))
          simp only [Value.slice.injEq] at hv
          obtain ⟨rfl, _, rfl⟩ := hv
          obtain ⟨bc', oc', cp', hv, hbl', x1⟩ := at1u (HC.out.mod HM5.out) (HFA.out k (by have := HLM.out; omega))
          simp only [Value.slice.injEq, Option.some.injEq, Addr.mk.injEq] at hv
          obtain ⟨⟨rfl, rfl, _⟩, _, rfl⟩ := hv
          simp only [Nat.add_zero] at x0
          have KEEP : Hid (∀ W, Mod NoB w5 W → (W.cell? ⟨bp, op, none⟩ = some (.int .u64 (f 0)) ∧ W.cell? ⟨bp, op + 1, none⟩ = some (.int .u64 (f k)) ∧ W.cell? ⟨bp, op + 2, none⟩ = some (.int .i64 5) ∧ W.cell? ⟨bp, op + 3, none⟩ = some (.int .i64 (maxK g k)) ∧ W.cell? ⟨bc, oc, none⟩ = some (.int .u64 (f 0)) ∧ W.cell? ⟨bc, oc + k, none⟩ = some (.int .u64 (f k)))) := Lib.hid (fun W hm => ⟨hm.cellS p0, hm.cellS p1, hm.cellS p2, hm.cellS p3, hm.cellS x0, hm.cellS x1⟩)
          have hcl1 : IntKind.i64.wrap ((cs.length : Int) - 1) = (k : Int) := (IntWalk.i64_in _ ⟨by omega, by omega⟩).trans (by have := HLM.out; omega)
          have hkI : (k : Int) < (cs.length : Int) := by have := HLM.out; omega
          have hc0 : 0 < cs.length := by omega
          clear hsl hrow hm5 hpc p0 p1 p2 p3 x0 x1
          go_wp2_with fail
          go_region_held3 (fun W => W.cell? ⟨bp, op, none⟩ = some (.int .u64 (f 0)) ∧ W.cell? ⟨bp, op + 1, none⟩ = some (.int .u64 (f k)) ∧ W.cell? ⟨bp, op + 2, none⟩ = some (.int .i64 5) ∧ W.cell? ⟨bp, op + 3, none⟩ = some (.int .i64 (maxK g k)) ∧ W.cell? ⟨bc, oc, none⟩ = some (.int .u64 (f 0)) ∧ W.cell? ⟨bc, oc + k, none⟩ = some (.int .u64 (f k))) (exact KEEP.out _ (by repeat (first | exact M6.out | exact Mod.refl _ _ | refine Mod.alloc ?_ _ | refine Mod.drew ?_ | refine Mod.drewN ?_ _))) ((first
            | (go_simp; go_at_call 30; go_loud (refine (harcs_any (HH5.out.mod (S := NoB) (by repeat (first | exact M6.out | exact Mod.refl _ _ | refine Mod.alloc ?_ _ | refine Mod.drew ?_ | refine Mod.drewN ?_ _)) (fun _ _ x => x)) HEPS.out HLEN.out HXM.out HA2.out).mono ?_; rintro e w6 ⟨u6, rfl, hrow6, hm6⟩; rw [HXL.out] at hrow6; obtain ⟨av6, cap6, rfl⟩ : ∃ a c, u6 = .slice a (cntK g k) c := (ownsRow_form (vown_low hrow6 (Nat.zero_le _))).elim (fun h => ⟨none, 0, by rw [h.1, h.2]⟩) (fun ⟨g, cap, h⟩ => ⟨_, cap, h⟩); have hm7 := Mod.trans (S := NoB) (a := w5) (by repeat (first | exact M6.out | exact Mod.refl _ _ | refine Mod.alloc ?_ _ | refine Mod.drew ?_ | refine Mod.drewN ?_ _)) hm6; obtain ⟨k0, k1, k2, k3, k4, k5⟩ := KEEP.out _ hm7; have M6 := Lib.hid hm7; clear hrow6 hm6 hm7))
            | (go_simp; go_at_call 21; go_loud (refine (epoch_any (HH5.out.mod (S := NoB) (by repeat (first | exact M6.out | exact Mod.refl _ _ | refine Mod.alloc ?_ _ | refine Mod.drew ?_ | refine Mod.drewN ?_ _)) (fun _ _ x => x)) (Nat.le_trans HLEN.out (by decide))).mono ?_; rintro e w6 ⟨rfl, hm6⟩; rw [HEPO.out]; have hm7 := Mod.trans (S := NoB) (a := w5) (by repeat (first | exact M6.out | exact Mod.refl _ _ | refine Mod.alloc ?_ _ | refine Mod.drew ?_ | refine Mod.drewN ?_ _)) hm6; obtain ⟨k0, k1, k2, k3, k4, k5⟩ := KEEP.out _ hm7; have M6 := Lib.hid hm7; clear hm6 hm7))))
          go_wp2_with fail
          go_ret
          exact ⟨rfl, HM5.out.trans M6.out⟩
end Go.Proofs.YtmagddchjidamaaGreatDoor

namespace Go.Proofs.YtmagddchjidamaaGreatDoor
set_option linter.unusedSimpArgs false
set_option linter.unusedVariables false
open Go.ChangeShapes Go.WideShapes Go.ChangeAt Go.RowKit Go.Proofs

theorem rd_u64 {w : World} {cs : List Value} (h : Rd w (.i .u64) cs) : ∃ x : { c : Int // Pt64 c }, cs = encU x.1 := by
  obtain ⟨n, rfl, hn⟩ := rdc_int h
  have hmin : IntKind.u64.min = 0 := rfl
  have hmax : IntKind.u64.max = 18446744073709551615 := rfl
  simp only [Lit.wf, Bool.and_eq_true, decide_eq_true_eq] at hn
  exact ⟨⟨n, by omega, by omega⟩, rfl⟩
theorem rd_i64 {w : World} {cs : List Value} (h : Rd w (.i .i64) cs) : ∃ x : Int, cs = encI x := by
  obtain ⟨n, rfl, hn⟩ := rdc_int h
  exact ⟨n, rfl⟩
theorem slAt_val {w : World} {v : Value} {l : List { c : Int // Pt64 c }} (h : SlAt 1 (fun x : { c : Int // Pt64 c } => encU x.1) w v l) : SlAt 1 encU w v (l.map (·.1)) := by
  obtain ⟨a, cap, hv, hx⟩ := h
  refine ⟨a, cap, by rw [List.length_map]; exact hv, fun i x hi => ?_⟩
  rw [List.getElem?_map, Option.map_eq_some_iff] at hi
  obtain ⟨y, hy, rfl⟩ := hi
  exact hx i y hy

set_option maxRecDepth 100000 in
theorem holdArcs_lifted (os : Os) (started : os.Started) (H : Type) (enc : TypeId × Value → H) :
    ReturnsInHanded {} Tryz.checked os 9 .any (fun w args => (Rows.holdArcsSpec.pre enc Tryz.prog Tryz.f9 Rows.holdArcsRow.domain false w args ∧ laidMetH Tryz.prog Rows.holdArcsRow.laid w) ∧ sizedMet enc Tryz.prog Tryz.f9 (OpenSpec.ofChange Rows.holdArcsSpec) false w args)
      (Rows.holdArcsSpec.post enc Tryz.prog Tryz.f9 false true false false) := by
  refine returnsInHanded_of_change_and (C := Tryz.checked) (X := fun w _ => laidMetH Tryz.prog Rows.holdArcsRow.laid w) (fun _ _ _ hh h => h.of_heap hh) progOwn started (by kernel_rfl) Tryz.func9
    (ChangeSpec.witness_shaped (enc := enc) (C := Tryz.checked) (os := os) (X := fun w _ => laidMetH Tryz.prog Rows.holdArcsRow.laid w) false (World.laidAll Tryz.prog os Rows.holdArcsRow.laid) #[.slice none 0 0, .slice none 0 0] 8 (World.laidAll_os _ _ _)
      (World.shaped_of_ZipB (by kernel_rfl) (by kernel_rfl)) (by kernel_rfl) (by kernel_rfl) (by kernel_rfl)
      (by rw [MakeChecks.laidMetH_plain _ _ _ (by kernel_rfl)]; exact laidMet_laidAll _ (by kernel_rfl) (by kernel_rfl))) ?_
  intro W base args ds gs before hval hW _ _ _ _
  refine law_post (P := Tryz.prog) (B := 4) (fun ds h => ?_) rfl rfl (by kernel_rfl) (by kernel_rfl) progLaid hW ?_
  · match ds, h with
    | [_, _], _ => rfl
  · obtain ⟨p, q, hA, _⟩ := hW
    have hR := rdAll_of_trod (P := Tryz.prog) [.sl (.i .u64), .sl (.i .i64)] (by kernel_rfl) rfl (fun j t v h1 h2 => hval j t v (by simpa using h1) (by simpa using h2)) hA
    obtain ⟨l⟩ := args
    obtain ⟨v0, vs, rfl, h0, hR⟩ := hR
    obtain ⟨v1, vs, rfl, h1, hR⟩ := hR
    obtain rfl := hR
    obtain ⟨cs, hc, hcl⟩ := slAt_of_rd (k := 1) (enc := fun x : { c : Int // Pt64 c } => encU x.1) h0 rfl (by decide) (fun _ _ h => rd_u64 h)
    obtain ⟨es, he, hel⟩ := slAt_of_rd (k := 1) (enc := encI) h1 rfl (by decide) (fun _ _ h => rd_i64 h)
    exact (arcs_walk (slAt_val hc) (by rw [List.length_map]; exact hcl) (fun c h => by obtain ⟨x, _, rfl⟩ := List.mem_map.1 h; exact x.2) he hel).mono fun _ _ ⟨he, hm⟩ => ⟨he, hm.below_self⟩

theorem holdArcs_over : Rows.holdArcsRow.holds Tryz.pinned (OpenSpec.ofChange Rows.holdArcsSpec) :=
  OpenClaim.holds_of_wide 9 Tryz.f9 rfl rfl rfl rfl rfl rfl rfl ⟨rfl, rfl, rfl, rfl, rfl⟩ rfl rfl rfl rfl rfl (by kernel_rfl) Tryz.func9 (by kernel_rfl)
    (of_decide_eq_true (by kernel_rfl)) (by unfold Func.isWrapper; first | (rw [if_pos (by decide +kernel)]; kernel_rfl) | (rw [if_neg (by decide +kernel)]; exact ⟨rfl, rfl⟩))
    (fun os started H enc _ => holdArcs_lifted os started H enc)

theorem holdArcs_proved : Rows.HoldArcsSaid := holdArcs_over

theorem holdArcs_card : Rows.HoldArcsCardSaid :=
  Claim7.holds_tied_plain_at .later [] [.data, .pinned] true (true, "c7c110e04d7d8ceb5ec98da395b859d080d63254ea39ddadffe8b277b74f838b") false
    holdArcs_over (fun _ h => by cases h) (by kernel_rfl) (fun _ h => by cases h) holdArcs_row_tie rfl ⟨rfl, rfl⟩ (by kernel_rfl) rfl
    (fun f fn hf hfn => by
      obtain rfl : f = 9 := Option.some.inj ((show Tryz.prog.funcNamed "rosary/rosarylaw14.HoldArcs" = some 9 by kernel_rfl).symm.trans hf) |>.symm
      obtain rfl : fn = Tryz.f9 := (Option.some.inj (Tryz.func9.symm.trans hfn)).symm
      exact ⟨by kernel_rfl, fun j t ht => by
        have hall : (Tryz.f9.params.toList.all fun t => Tryz.prog.wantsStandIn t == false) = true := by kernel_rfl
        have hm := Array.mem_of_getElem? ht
        exact beq_iff_eq.1 (List.all_eq_true.1 hall t (by simpa using hm))⟩)
    (by kernel_rfl)
end Go.Proofs.YtmagddchjidamaaGreatDoor
