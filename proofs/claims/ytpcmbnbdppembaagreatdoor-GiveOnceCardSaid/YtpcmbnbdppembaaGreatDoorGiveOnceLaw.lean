/- GiveOnce: the law and its card; for every input; no condition. -/
import Derived.Test.YtpcmbnbdppembaaGreatDoorProg
import Derived.Test.YtpcmbnbdppembaaGreatDoorChecked
import Derived.WalkKit
import Derived.ProofKit
import Derived.OpenShut
import Derived.ShutString
import Derived.ChangeOld
import Derived.Below
import Derived.Deep.Slices
import Derived.Deep.Fields
import Derived.ChangeSame
import Derived.StringKeys
import Derived.Test.YtpcmbnbdppembaaGreatDoorSeqRows
import Derived.Test.YtpcmbnbdppembaaGreatDoorArcPlain
import Derived.Test.YtpcmbnbdppembaaGreatDoorViewNone
import Derived.StillTailTactics
import Derived.Deep.WholeRow
import Derived.Deep.RegionHeld3
import Derived.Test.YtpcmbnbdppembaaGreatDoorHoldI
import Derived.Test.YtpcmbnbdppembaaGreatDoorHoldLose
import Derived.Test.YtpcmbnbdppembaaGreatDoorHoldCut
import Derived.Deep.QuietTactic
import Derived.BigQuiet
import Derived.Test.YtpcmbnbdppembaaGreatDoorFreezeS
import Derived.Test.YtpcmbnbdppembaaGreatDoorRefNew
import Derived.Test.YtpcmbnbdppembaaGreatDoorEpoch
import Derived.Test.YtpcmbnbdppembaaGreatDoorHoldNew
import Derived.Test.YtpcmbnbdppembaaGreatDoorGiveOnceA
import Derived.Test.YtpcmbnbdppembaaGreatDoorRows
import Derived.Test.YtpcmbnbdppembaaGreatDoorTie
import Derived.Test.YtpcmbnbdppembaaGreatDoorCards
import Derived.LaidMore
import Derived.Lay
import Derived.SevenTiedAt
import Derived.Stop.Joined
/- The frame of a law: from 'the call returns true and turns nothing that lay there' to the given statement; and what an argument that can be read looks like in memory, by its shape. -/
namespace Go.Proofs.YtpcmbnbdppembaaGreatDoor
set_option linter.unusedSimpArgs false
set_option linter.unusedVariables false
open Go.ChangeShapes Go.WideShapes Go.ChangeAt Go.RowKit Go.Deep

/-- the shape of a type that is plain data -/
inductive Shp where
  | i (k : IntKind)
  | b
  | s
  | sl (e : Shp)
  | st (l : List Shp)

mutual
def Shp.n : Shp → Nat
  | .i _ => 1
  | .b => 1
  | .s => 1
  | .sl _ => 1
  | .st l => Shp.ns l
def Shp.ns : List Shp → Nat
  | [] => 0
  | x :: r => x.n + Shp.ns r
end

mutual
/-- cells 'cs' are a value of the shape in world w -/
def Rd (w : World) : Shp → List Value → Prop
  | .i k, cs => ∃ n, cs = [.int k n] ∧ (Lit.int k n).wf = true
  | .b, cs => ∃ x, cs = [.bool x]
  | .s, cs => ∃ x : ByteArray, cs = [.string x] ∧ x.size ≤ maxLen
  | .sl e, cs => cs = [.slice none 0 0] ∨ ∃ a len cap, cs = [.slice (some a) len cap] ∧ len ≤ cap ∧ cap ≤ maxLen ∧
      ∀ i, i < len → ∃ cs', cs'.length = e.n ∧ (∀ j, j < e.n → w.cell? (a.add (i * e.n + j)) = cs'[j]?) ∧ Rd w e cs'
  | .st l, cs => Rds w l cs
def Rds (w : World) : List Shp → List Value → Prop
  | [], cs => cs = []
  | x :: r, cs => ∃ c1 c2, cs = c1 ++ c2 ∧ c1.length = x.n ∧ Rd w x c1 ∧ Rds w r c2
end

mutual
def fitB (P : Program) : Shp → TypeId → Bool
  | .i k, t => match P.underlying t with | some (.int k') => k' == k | _ => false
  | .b, t => match P.underlying t with | some .bool => true | _ => false
  | .s, t => match P.underlying t with | some .string => true | _ => false
  | .sl e, t => match P.underlying t with | some (.slice e') => fitB P e e' && P.cellsOf e' == e.n | _ => false
  | .st l, t => match P.underlying t with | some (.struct fs) => fitsB P l fs.toList 0 && P.cellsOf t == Shp.ns l | _ => false
def fitsB (P : Program) : List Shp → List Field → Nat → Bool
  | [], [], _ => true
  | x :: r, f :: fs, off => f.offset == off && P.cellsOf f.type == x.n && fitB P x f.type && fitsB P r fs (off + x.n)
  | _, _, _ => false
end

section
variable {H : Type} {enc : TypeId × Value → H} {P : Program} {w : World} {sp : Nat → Bool} {held : Bool}

mutual
theorem rd_of_trod (sh : Shp) {t : TypeId} (hf : fitB P sh t = true) {fuel : Nat} {cs : List Value} {x : DataW H × List MemPlace}
    (h : DataW.trod enc P w 0 sp held fuel t cs = some x) : cs.length = sh.n ∧ Rd w sh cs := by
  match sh with
  | .i k =>
    unfold fitB at hf
    split at hf
    · rename_i k' ht
      obtain rfl : k' = k := by simpa using hf
      obtain ⟨n, rfl, _, hw⟩ := DataW.trod_int ht h
      exact ⟨rfl, by unfold Rd; exact ⟨n, rfl, hw⟩⟩
    · cases hf
  | .b =>
    unfold fitB at hf
    split at hf
    · rename_i ht
      obtain ⟨n, rfl, _⟩ := DataW.trod_bool ht h
      exact ⟨rfl, by unfold Rd; exact ⟨n, rfl⟩⟩
    · cases hf
  | .s =>
    unfold fitB at hf
    split at hf
    · rename_i ht
      obtain ⟨n, rfl, _, hw⟩ := DataW.trod_string ht h
      exact ⟨rfl, by unfold Rd; exact ⟨n, rfl, hw⟩⟩
    · cases hf
  | .sl e =>
    unfold fitB at hf
    split at hf
    · rename_i e' ht
      simp only [Bool.and_eq_true, beq_iff_eq] at hf
      obtain ⟨hfe, hn⟩ := hf
      rcases open_slice ht h with ⟨rfl, _⟩ | ⟨a, len, cap, m, n, D, Pl, rfl, _, hl, hm, hmm, _, hi⟩
      · exact ⟨rfl, by unfold Rd; exact .inl rfl⟩
      · refine ⟨rfl, ?_⟩
        unfold Rd
        refine .inr ⟨a, len, cap, rfl, hl, hm, fun i hlt => ?_⟩
        obtain ⟨cs', hc, ht'⟩ := hi i (by rw [hmm]; split <;> omega)
        obtain ⟨hlen, hr⟩ := rd_of_trod e hfe ht'
        refine ⟨cs', hlen, fun j hj => ?_, hr⟩
        obtain ⟨_, hcl, hat⟩ := World.cells?_some hc
        rw [← hn, ← Go.Deep.add_add]
        exact hat j (by omega)
    · cases hf
  | .st l =>
    unfold fitB at hf
    split at hf
    · rename_i fs ht
      simp only [Bool.and_eq_true, beq_iff_eq] at hf
      obtain ⟨hfs, hn⟩ := hf
      obtain ⟨xs, n, _, _, hlen, hxs, hg⟩ := DataW.trod_struct ht h
      have hall : ∀ (i : Nat) (f : Field), fs.toList[i]? = some f → ∃ y, DataW.trod enc P w 0 sp held n f.type ((cs.drop f.offset).take (P.cellsOf f.type)) = some y := by
        intro i f hi
        have hi' : fs[i]? = some f := by simpa using hi
        have hil : i < fs.size := (Array.getElem?_eq_some_iff.1 hi').1
        exact ⟨xs[i]'(by omega), by rw [hg i f hi']; exact List.getElem?_eq_getElem (by omega)⟩
      refine ⟨by rw [hlen, hn]; rfl, ?_⟩
      unfold Rd
      have := rds_of_trod l hfs (n := n) (cs := cs) hall (by rw [hlen, hn]; simp)
      simpa using this
    · cases hf
theorem rds_of_trod (l : List Shp) {fs : List Field} {off : Nat} (hf : fitsB P l fs off = true) {n : Nat} {cs : List Value}
    (hall : ∀ (i : Nat) (f : Field), fs[i]? = some f → ∃ y, DataW.trod enc P w 0 sp held n f.type ((cs.drop f.offset).take (P.cellsOf f.type)) = some y)
    (hlen : cs.length = off + Shp.ns l) : Rds w l (cs.drop off) := by
  match l, fs with
  | [], [] =>
    unfold Rds
    unfold Shp.ns at hlen
    exact List.drop_eq_nil_of_le (by omega)
  | x :: r, f :: fs =>
    unfold fitsB at hf
    simp only [Bool.and_eq_true, beq_iff_eq] at hf
    obtain ⟨⟨⟨ho, hc⟩, hx⟩, hr⟩ := hf
    unfold Shp.ns at hlen
    obtain ⟨y, hy⟩ := hall 0 f rfl
    rw [ho, hc] at hy
    obtain ⟨hl1, h1⟩ := rd_of_trod x hx hy
    have h2 := rds_of_trod r hr (n := n) (cs := cs) (fun i f' hi => hall (i + 1) f' (by simpa using hi)) (by omega)
    unfold Rds
    refine ⟨_, _, ?_, hl1, h1, h2⟩
    rw [← List.drop_drop]
    exact (List.take_append_drop _ _).symm
  | [], _ :: _ => unfold fitsB at hf; cases hf
  | _ :: _, [] => unfold fitsB at hf; cases hf
end

/-- an argument of a shape: a struct's cells lie in the value -/
def RdV (w : World) (sh : Shp) (v : Value) : Prop :=
  match sh with
  | .st l => ∃ cs : Array Value, v = .agg cs ∧ Rds w l cs.toList
  | sh => Rd w sh [v]

/-- one after the other, the arguments -/
def RdAll (w : World) : List Shp → List Value → Prop
  | [], vs => vs = []
  | x :: r, vs => ∃ v vs', vs = v :: vs' ∧ RdV w x v ∧ RdAll w r vs'

theorem okWide_noagg {r : Reach} {b0 : Nat} {t : TypeId} {v : Value} (h : Cell.okWide P w r b0 t v) (cs : Array Value) : v ≠ .agg cs := by
  intro e
  subst e
  unfold Cell.okWide Cell.ok at h
  cases hu : P.underlying t with
  | none => rw [hu] at h; exact h
  | some d => rw [hu] at h; cases d <;> exact h

theorem rdV_of_trod {r : Reach} {b0 : Nat} (sh : Shp) {t : TypeId} {v : Value} (hf : fitB P sh t = true) (hv : Value.okWide P w r b0 t v) {fuel : Nat} {x : DataW H × List MemPlace}
    (h : DataW.trod enc P w 0 sp held fuel t v.cells.toList = some x) : RdV w sh v := by
  have h1 := (rd_of_trod sh hf h).2
  have one : (∀ l, sh ≠ .st l) → (∀ d, P.underlying t = some d → (∀ fs, d ≠ .struct fs) ∧ (∀ n e, d ≠ .array n e)) → v.cells.toList = [v] := by
    intro _ hd
    have : Cell.okWide P w r b0 t v := by
      unfold Value.okWide at hv
      split at hv
      · rename_i fs hu; exact absurd rfl ((hd _ hu).1 fs)
      · rename_i n e hu; exact absurd rfl ((hd _ hu).2 n e)
      · exact hv
    have hn := okWide_noagg this
    cases v <;> simp_all [Value.cells]
  match sh with
  | .st l =>
    unfold fitB at hf
    split at hf
    · rename_i fs hu
      unfold Value.okWide at hv
      rw [hu] at hv
      obtain ⟨cs, rfl, _⟩ := hv
      unfold RdV
      unfold Rd at h1
      exact ⟨cs, rfl, h1⟩
    · cases hf
  | .i k =>
    unfold fitB at hf
    split at hf
    · rename_i k' hu
      rw [one (by simp) (by intro d hd; rw [hu] at hd; cases hd; simp)] at h1
      exact h1
    · cases hf
  | .b =>
    unfold fitB at hf
    split at hf
    · rename_i hu
      rw [one (by simp) (by intro d hd; rw [hu] at hd; cases hd; simp)] at h1
      exact h1
    · cases hf
  | .s =>
    unfold fitB at hf
    split at hf
    · rename_i hu
      rw [one (by simp) (by intro d hd; rw [hu] at hd; cases hd; simp)] at h1
      exact h1
    · cases hf
  | .sl e =>
    unfold fitB at hf
    split at hf
    · rename_i e' hu
      rw [one (by simp) (by intro d hd; rw [hu] at hd; cases hd; simp)] at h1
      exact h1
    · cases hf

theorem rdAll_of_trod : (shs : List Shp) → {ts : List TypeId} → {vs : List Value} → {ds : List (DataW H)} → {p : List MemPlace} → {r : Reach} → {b0 : Nat} →
    (hf : (shs.zip ts).all (fun x => fitB P x.1 x.2) = true) → (hlen : shs.length = ts.length) →
    (hv : ∀ (j : Nat) t v, ts[j]? = some t → vs[j]? = some v → Value.okWide P w r b0 t v) →
    DataW.TrodAll enc P w 0 sp held ts vs ds p → RdAll w shs vs
  | [], [], vs, ds, p, _, _, _, _, _, h => by
    cases vs <;> cases ds <;> simp_all [DataW.TrodAll, RdAll]
  | x :: r, t :: ts, vs, ds, p, _, _, hf, hlen, hv, h => by
    simp only [List.zip_cons_cons, List.all_cons, Bool.and_eq_true] at hf
    match vs, ds, h with
    | v :: vs, d :: ds, ⟨p1, q1, ⟨fuel, h1⟩, h2, _⟩ =>
      unfold RdAll
      exact ⟨v, vs, rfl, rdV_of_trod x hf.1 (hv 0 t v rfl rfl) h1, rdAll_of_trod r hf.2 (by simpa using hlen) (fun j t v h1 h2 => hv (j + 1) t v (by simpa using h1) (by simpa using h2)) h2⟩

theorem trodAll_below (hl : laidOutB P = true) {W W' : World} (hb : Below W.heap.size W W') : (ts : List TypeId) → {vs : List Value} → {ds : List (DataW H)} → {p : List MemPlace} →
    (hr : ts.all (fun t => P.readableRec t && decide (t < P.types.size)) = true) →
    DataW.TrodAll enc P W 0 (fun _ => true) true ts vs ds p → (∀ x ∈ p, x.block < W.heap.size) →
    DataW.TrodAll enc P W' 0 (fun b => decide (b < W.heap.size)) true ts vs ds p
  | [], vs, ds, p, _, h, _ => by
    cases vs <;> cases ds <;> simp_all [DataW.TrodAll]
  | t :: ts, vs, ds, p, hr, h, hlt => by
    simp only [List.all_cons, Bool.and_eq_true, decide_eq_true_eq] at hr
    match vs, ds, h with
    | v :: vs, d :: ds, ⟨p1, q1, h1, h2, he⟩ =>
      subst he
      exact ⟨p1, q1, Below.trod hl hr.1.1 hr.1.2 h1 hb (fun x hx => hlt x (by simp [hx])), trodAll_below hl hb ts hr.2 h2 (fun x hx => hlt x (by simp [hx])), rfl⟩

/-- THE LAW's POST, out of 'true, and nothing that lay there has turned'. -/
theorem law_post {F : FuncId} {fn : Func} {s : ChangeSpec} {B : TypeId} {W : World} {args : Array Value} {ds gs : List (DataW H)} {before : List MemPlace}
    (hs : ∀ ds : List (DataW H), ds.length = fn.params.size → s.fn H ds = { results := [.lit (.bool true)], args := ds }) (hv : s.vars = []) (hr : fn.resultTypes = #[B]) (hB : P.underlying B = some .bool)
    (hp : fn.params.toList.all (fun t => P.readableRec t && decide (t < P.types.size)) = true) (hl : laidOutB P = true)
    (hW : DataW.Whole enc P fn.params.toList s.vars false W args.toList ds gs before)
    (h : Calls P F args W fun e W' => e = .returned (.bool true) ∧ Below W.heap.size W W') :
    Calls P F args W fun e W' => ∃ v, e = .returned v ∧ s.post enc P fn false true false false W args v W' := by
  refine h.mono fun e W' ⟨he, bel⟩ => ?_
  subst he
  have hW' := hW
  have hlt := fun x hx => hW.lt x hx
  obtain ⟨p, q, hA, hV, rfl, hfz, hnd⟩ := hW
  rw [hv] at hV
  obtain ⟨rfl, rfl⟩ := trodVars_none hV
  have hlen : ds.length = fn.params.size := by
    have : ∀ (ts : List TypeId) (vs : List Value) (ds : List (DataW H)) (p : List MemPlace), DataW.TrodAll enc P W 0 (fun _ => true) true ts vs ds p → ds.length = ts.length := by
      intro ts
      induction ts with
      | nil => intro vs ds p h; cases vs <;> cases ds <;> simp_all [DataW.TrodAll]
      | cons t ts ih =>
        intro vs ds p h
        match vs, ds, h with
        | v :: vs, d :: ds, ⟨p1, q1, h1, h2, _⟩ => simp [ih _ _ _ h2]
    simpa using this _ _ _ _ hA
  have hfn := hs ds hlen
  refine ⟨_, rfl, ds, [], p ++ [], [], p, [], hW', ?_, ?_, ?_, bel.frame _, fun h => by cases h⟩
  · rw [List.append_nil, hfn, hr]
    exact trodAll_mk1 (shut_bool hB _)
  · rw [List.append_nil, hfn]
    exact trodAll_below hl bel _ hp hA (fun x hx => hlt x (by simp [hx]))
  · rw [List.append_nil, hfn, hv]
    rfl
end

theorem rd_slice {w : World} {e : Shp} {v : Value} (h : RdV w (.sl e) v) : v = .slice none 0 0 ∨ ∃ a len cap, v = .slice (some a) len cap ∧ len ≤ cap ∧ cap ≤ maxLen ∧
      ∀ i, i < len → ∃ cs', cs'.length = e.n ∧ (∀ j, j < e.n → w.cell? (a.add (i * e.n + j)) = cs'[j]?) ∧ Rd w e cs' := by
  unfold RdV Rd at h
  rcases h with h | ⟨a, len, cap, h, r⟩
  · simp at h; exact .inl h
  · simp at h; exact .inr ⟨a, len, cap, h, r⟩

theorem rd_int {w : World} {k : IntKind} {v : Value} (h : RdV w (.i k) v) : ∃ n, v = .int k n ∧ (Lit.int k n).wf = true := by
  unfold RdV Rd at h
  simpa using h

theorem rd_str {w : World} {v : Value} (h : RdV w .s v) : ∃ s : ByteArray, v = .string s ∧ s.size ≤ maxLen := by
  unfold RdV Rd at h
  simpa using h

theorem rd_bool {w : World} {v : Value} (h : RdV w .b v) : ∃ b, v = .bool b := by
  unfold RdV Rd at h
  simpa using h

theorem add_none (b o n : Nat) : (⟨b, o, none⟩ : Addr).add n = ⟨b, o + n, none⟩ := by
  unfold Addr.add
  split
  · subst_vars; rfl
  · rfl

theorem cell_lt {w : World} {a : Addr} {v : Value} (h : w.cell? a = some v) : a.block < w.heap.size := by
  unfold World.cell? at h
  split at h
  · rename_i c e f hb
    exact (Array.getElem?_eq_some_iff.1 hb).1
  · cases h

theorem cell_spot {w : World} {a : Addr} {v : Value} (h : w.cell? a = some v) : a.spot = none := by
  unfold World.cell? at h
  split at h
  · split at h
    · cases h
    · rename_i hs
      simpa using hs
  · cases h

theorem slice_base {w : World} {e : Shp} {a : Addr} {len : Nat} (hl : 0 < len) (hn : 0 < e.n)
    (h : ∀ i, i < len → ∃ cs', cs'.length = e.n ∧ (∀ j, j < e.n → w.cell? (a.add (i * e.n + j)) = cs'[j]?) ∧ Rd w e cs') :
    ∃ b o, a = ⟨b, o, none⟩ ∧ b < w.heap.size := by
  obtain ⟨cs, hlen, hat, _⟩ := h 0 hl
  have h0 := hat 0 hn
  rw [List.getElem?_eq_getElem (by omega)] at h0
  simp only [Nat.zero_mul, Nat.add_zero, Addr.add, if_true] at h0
  obtain ⟨b, o, s⟩ := a
  exact ⟨b, o, by have := cell_spot h0; simp_all, cell_lt h0⟩

theorem exists_list {α : Type} {P : Nat → α → Prop} : (n : Nat) → (∀ i, i < n → ∃ x, P i x) → ∃ l : List α, l.length = n ∧ ∀ (i : Nat) (h : i < l.length), P i l[i]
  | 0, _ => ⟨[], rfl, fun i h => absurd h (by simp)⟩
  | n + 1, h => by
    obtain ⟨l, hl, hp⟩ := exists_list n (fun i hi => h i (by omega))
    obtain ⟨x, hx⟩ := h n (by omega)
    refine ⟨l ++ [x], by simp [hl], fun i hi => ?_⟩
    by_cases hc : i < l.length
    · rw [List.getElem_append_left hc]; exact hp i hc
    · have : i = l.length := by simp at hi; omega
      subst this
      simp [hl, hx]

theorem rds_cons {w : World} {x : Shp} {r : List Shp} {cs : List Value} (h : Rds w (x :: r) cs) : ∃ c1 c2, cs = c1 ++ c2 ∧ Rd w x c1 ∧ Rds w r c2 := by
  unfold Rds at h
  obtain ⟨c1, c2, h1, _, h2, h3⟩ := h
  exact ⟨c1, c2, h1, h2, h3⟩
theorem rds_nil {w : World} {cs : List Value} (h : Rds w [] cs) : cs = [] := by
  unfold Rds at h
  exact h
theorem rd_st {w : World} {l : List Shp} {cs : List Value} (h : Rd w (.st l) cs) : Rds w l cs := by
  unfold Rd at h
  exact h
theorem rdc_int {w : World} {k : IntKind} {cs : List Value} (h : Rd w (.i k) cs) : ∃ n, cs = [.int k n] ∧ (Lit.int k n).wf = true := by
  unfold Rd at h
  exact h
theorem rdc_str {w : World} {cs : List Value} (h : Rd w .s cs) : ∃ x : ByteArray, cs = [.string x] ∧ x.size ≤ maxLen := by
  unfold Rd at h
  exact h
theorem rdc_bool {w : World} {cs : List Value} (h : Rd w .b cs) : ∃ x, cs = [.bool x] := by
  unfold Rd at h
  exact h
theorem rdc_slice {w : World} {e : Shp} {cs : List Value} (h : Rd w (.sl e) cs) : ∃ a len cap, cs = [.slice a len cap] := by
  unfold Rd at h
  rcases h with rfl | ⟨a, len, cap, rfl, _⟩
  · exact ⟨none, 0, 0, rfl⟩
  · exact ⟨some a, len, cap, rfl⟩

theorem progOwn : ownKnob Tryz.prog.godebug = none := by kernel_rfl
theorem progLaid : laidOutB Tryz.prog = true := by kernel_rfl
end Go.Proofs.YtpcmbnbdppembaaGreatDoor

/- Put together out of: Args, ArgsHold. -/
/- What an argument of events, of asks looks like: its rows as they are read. -/
namespace Go.Proofs.YtpcmbnbdppembaaGreatDoor
open Go.RowKit

def itShp : Shp := .st [.s, .s]
def askShp : Shp := .st [.i .i64, .s, .s, .s, .i .i64]
def evShp : Shp := .st [.i .i64, .i .i64, .i .i64, .i .i64, askShp, .st [.i .i64, .s, .sl itShp, .b, .s, .i .i64]]

theorem rd_ev {w : World} {cs : List Value} (h : Rd w evShp cs) : ∃ e : Ev, cs = e.cells := by
  obtain ⟨c1, r1, rfl, h1, h⟩ := rds_cons (rd_st h)
  obtain ⟨c2, r2, rfl, h2, h⟩ := rds_cons h
  obtain ⟨c3, r3, rfl, h3, h⟩ := rds_cons h
  obtain ⟨c4, r4, rfl, h4, h⟩ := rds_cons h
  obtain ⟨c5, r5, rfl, h5, h⟩ := rds_cons h
  obtain ⟨c6, r6, rfl, h6, h⟩ := rds_cons h
  obtain rfl := rds_nil h
  obtain ⟨d1, s1, rfl, g1, h⟩ := rds_cons (rd_st h5)
  obtain ⟨d2, s2, rfl, g2, h⟩ := rds_cons h
  obtain ⟨d3, s3, rfl, g3, h⟩ := rds_cons h
  obtain ⟨d4, s4, rfl, g4, h⟩ := rds_cons h
  obtain ⟨d5, s5, rfl, g5, h⟩ := rds_cons h
  obtain rfl := rds_nil h
  obtain ⟨e1, t1, rfl, f1, h⟩ := rds_cons (rd_st h6)
  obtain ⟨e2, t2, rfl, f2, h⟩ := rds_cons h
  obtain ⟨e3, t3, rfl, f3, h⟩ := rds_cons h
  obtain ⟨e4, t4, rfl, f4, h⟩ := rds_cons h
  obtain ⟨e5, t5, rfl, f5, h⟩ := rds_cons h
  obtain ⟨e6, t6, rfl, f6, h⟩ := rds_cons h
  obtain rfl := rds_nil h
  obtain ⟨n1, rfl, _⟩ := rdc_int h1
  obtain ⟨n2, rfl, _⟩ := rdc_int h2
  obtain ⟨n3, rfl, _⟩ := rdc_int h3
  obtain ⟨n4, rfl, _⟩ := rdc_int h4
  obtain ⟨m1, rfl, _⟩ := rdc_int g1
  obtain ⟨m2, rfl, _⟩ := rdc_str g2
  obtain ⟨m3, rfl, _⟩ := rdc_str g3
  obtain ⟨m4, rfl, _⟩ := rdc_str g4
  obtain ⟨m5, rfl, _⟩ := rdc_int g5
  obtain ⟨k1, rfl, _⟩ := rdc_int f1
  obtain ⟨k2, rfl, _⟩ := rdc_str f2
  obtain ⟨ia, il, ic, rfl⟩ := rdc_slice f3
  obtain ⟨k4, rfl⟩ := rdc_bool f4
  obtain ⟨k5, rfl, _⟩ := rdc_str f5
  obtain ⟨k6, rfl, _⟩ := rdc_int f6
  exact ⟨⟨n1, n2, n3, n4, m1, m2, m3, m4, m5, k1, k2, ia, il, ic, k4, k5, k6⟩, rfl⟩

/-- a slice argument whose elements read, one by one -/
theorem slAt_of_rd {α : Type} {k : Nat} {enc : α → List Value} {w : World} {e : Shp} {v : Value} (h : RdV w (.sl e) v) (hn : e.n = k) (hk : 0 < k) (hr : ∀ cs, cs.length = k → Rd w e cs → ∃ x : α, cs = enc x) :
    ∃ l : List α, SlAt k enc w v l ∧ l.length ≤ 9223372036854775807 := by
  rcases rd_slice h with rfl | ⟨a, len, cap, rfl, hl, hm, hi⟩
  · exact ⟨[], SlAt.nil _ _ _ _ _, by simp⟩
  by_cases h0 : len = 0
  · subst h0
    exact ⟨[], SlAt.nil _ _ _ _ _, by simp⟩
  obtain ⟨b, o, rfl, hlt⟩ := slice_base (by omega) (by omega) hi
  obtain ⟨l, hlen, hc⟩ := exists_list (P := fun i (x : α) => ∀ j u, (enc x)[j]? = some u → w.cell? ⟨b, o + i * k + j, none⟩ = some u) len (fun i h => by
    obtain ⟨cs, hcn, hat, hr'⟩ := hi i h
    rw [hn] at hcn hat
    obtain ⟨x, rfl⟩ := hr cs hcn hr'
    refine ⟨x, fun j u hu => ?_⟩
    have hj : j < k := by have := (List.getElem?_eq_some_iff.1 hu).1; omega
    have := hat j hj
    rw [add_none] at this
    rw [← hu, ← this, Nat.add_assoc])
  refine ⟨l, ⟨_, cap, by rw [hlen], fun i x hx => ⟨b, o, rfl, ?_⟩⟩, by unfold maxLen at hm; omega⟩
  have hil := (List.getElem?_eq_some_iff.1 hx).1
  have := hc i hil
  rw [(List.getElem?_eq_some_iff.1 hx).2] at this
  exact this

theorem evsAt_of_rd {w : World} {v : Value} (h : RdV w (.sl evShp) v) : ∃ l : List Ev, EvsAt w v l ∧ l.length ≤ 9223372036854775807 :=
  slAt_of_rd h rfl (by decide) (fun _ _ h => rd_ev h)
end Go.Proofs.YtpcmbnbdppembaaGreatDoor

/- What an argument of items, an arc looks like. -/
namespace Go.Proofs.YtpcmbnbdppembaaGreatDoor
open Go.RowKit

abbrev arcShp : Shp := .st [.i .u64, .i .u64]
abbrev itmShp : Shp := .st [.s, .s]

theorem pt_of_wf {n : Int} (h : (Lit.int .u64 n).wf = true) : Pt64 n := by
  have h1 : IntKind.u64.min = 0 := by decide
  have h2 : IntKind.u64.max = 18446744073709551615 := by decide
  simp only [Lit.wf, h1, h2, Bool.and_eq_true, decide_eq_true_eq] at h
  unfold Pt64
  omega

theorem rd_arc {w : World} {v : Value} (h : RdV w arcShp v) : ∃ a : Arc, v = .agg #[.int .u64 a.f, .int .u64 a.t] ∧ a.ok := by
  unfold RdV at h
  obtain ⟨cs, rfl, h⟩ := h
  obtain ⟨c1, r1, e1, h1, h⟩ := rds_cons h
  obtain ⟨c2, r2, e2, h2, h⟩ := rds_cons h
  obtain rfl := rds_nil h
  obtain ⟨f, rfl, hf⟩ := rdc_int h1
  obtain ⟨t, rfl, ht⟩ := rdc_int h2
  refine ⟨⟨f, t⟩, ?_, pt_of_wf hf, pt_of_wf ht⟩
  congr 1
  apply Array.ext'
  rw [e1, e2]
  rfl

theorem rd_itm {w : World} {cs : List Value} (h : Rd w itmShp cs) : ∃ x : ByteArray × ByteArray, cs = encIt x := by
  obtain ⟨c1, r1, rfl, h1, h⟩ := rds_cons (rd_st h)
  obtain ⟨c2, r2, rfl, h2, h⟩ := rds_cons h
  obtain rfl := rds_nil h
  obtain ⟨a, rfl, _⟩ := rdc_str h1
  obtain ⟨b, rfl, _⟩ := rdc_str h2
  exact ⟨(a, b), rfl⟩

theorem itsAt_of_rd {w : World} {v : Value} (h : RdV w (.sl itmShp) v) : ∃ l : List (ByteArray × ByteArray), SlAt 2 encIt w v l ∧ l.length ≤ 9223372036854775807 :=
  slAt_of_rd h rfl (by decide) (fun _ _ h => rd_itm h)
end Go.Proofs.YtpcmbnbdppembaaGreatDoor

/- give: a Give in memory; letter, over, Step, what is left when no chunk is. -/
namespace Go.Proofs.YtpcmbnbdppembaaGreatDoor
set_option linter.unusedSimpArgs false
set_option linter.unusedVariables false
open Go.RowKit Go.Shelf
attribute [local go_sem ↓] Go.wp_at_zero Go.wp_at_succ

/-- a letter -/
structure Lx where
  kd : Int
  fr : Int
  tt : Int
  id : Int
  aop : Int
  ak : ByteArray
  av : ByteArray
  ato : ByteArray
  am : Int
  te : Int
  tv : ByteArray
  ti : Value
  tm : Bool
  tx : ByteArray
  tn : Int
  a : Arc
  ep : Int
  its : Value
  n : Int
  nd : Int
abbrev encLx (x : Lx) : Array Value := #[.int .i64 x.kd, .int .i64 x.fr, .int .i64 x.tt, .int .i64 x.id, .int .i64 x.aop, .string x.ak, .string x.av, .string x.ato, .int .i64 x.am,
  .int .i64 x.te, .string x.tv, x.ti, .bool x.tm, .string x.tx, .int .i64 x.tn, .int .u64 x.a.f, .int .u64 x.a.t, .int .i64 x.ep, x.its, .int .i64 x.n, .int .i64 x.nd]
/-- a letter of a transfer -/
abbrev ltr (kd fr tt id : Int) (a : Arc) (ep : Int) (its : Value) (n : Int) : Lx := ⟨kd, fr, tt, id, 0, ⟨#[]⟩, ⟨#[]⟩, ⟨#[]⟩, 0, 0, ⟨#[]⟩, .slice none 0 0, false, ⟨#[]⟩, 0, a, ep, its, n, 0⟩

abbrev zLx : Array Value := #[.int .i64 0, .int .i64 0, .int .i64 0, .int .i64 0, .int .i64 0, .string ⟨#[]⟩, .string ⟨#[]⟩, .string ⟨#[]⟩, .int .i64 0, .int .i64 0, .string ⟨#[]⟩, .slice none 0 0, .bool false, .string ⟨#[]⟩, .int .i64 0, .int .u64 0, .int .u64 0, .int .i64 0, .slice none 0 0, .int .i64 0, .int .i64 0]
/-- a Give -/
structure Gv where
  h : Nat
  a : Arc
  ep : Int
  me : Int
  tt : Int
  id : Int
  step : Int
  ch : Value
  went : Int
abbrev encGv (g : Gv) : Array Value := #[.pointer (some ⟨g.h, 0, none⟩), .int .u64 g.a.f, .int .u64 g.a.t, .int .i64 g.ep, .int .i64 g.me, .int .i64 g.tt, .int .i64 g.id, .int .i64 g.step, g.ch, .int .i64 g.went]
abbrev GvAt (w : World) (b : Nat) (g : Gv) : Prop := w.heap[b]? = some (.cells (encGv g) 110 (0, 0))
theorem GvAt.lt {w : World} {b : Nat} {g : Gv} (h : GvAt w b g) : b < w.heap.size := (Array.getElem?_eq_some_iff.1 h).1
theorem GvAt.mod {S : Nat → Prop} {w w' : World} {b : Nat} {g : Gv} (h : GvAt w b g) (hm : Mod S w w') (hb : ¬ S b) : GvAt w' b g := (hm.block b h.lt hb).trans h

/-- a wide value, of whose cells nothing is looked at, stored over a variable just made -/
theorem st_fresh {P : Program} (w : World) (z cs : Array Value) (t : TypeId) (hz : z.size = cs.size) (h1 : ∀ v ∈ cs.toList, v.oneCell' = true) : (storeCells ⟨w.heap.size, 0, none⟩ cs.toList 0).run P (w.alloc (.cells z t)) = .ok () (w.alloc (.cells cs t)) := by
  have hg := heap_alloc_new w (.cells z t)
  rw [run_storeCells_at P w.heap.size 0 t cs.toList 0 z (w.alloc (.cells z t)) hg (by simp; omega) h1]
  congr 1
  have e : (z.toList.take (0 + 0) ++ cs.toList ++ z.toList.drop (0 + 0 + cs.toList.length)).toArray = cs := by
    simp [List.drop_eq_nil_of_le, hz]
  rw [e, World.setRow_alloc_new]
theorem st_freshD {P : Program} (w : World) (z cs : Array Value) (t : TypeId) (hz : z.size = cs.size) (h1 : ∀ v ∈ cs.toList, v.oneCell' = true) : (storeCells ⟨w.heap.size, 0, none⟩ cs.toList 0).run P (w.alloc (.cells z t)).drew = .ok () (w.alloc (.cells cs t)).drew := by
  have := st_fresh (P := P) w.drew z cs t hz h1
  exact this
/-- .. and read again -/
theorem ld_letter {w : World} {g : Nat} {cs : Array Value} (hg : w.heap[g]? = some (.cells cs 50 (0, 0))) (hs : cs.size = 21) : (loadVar 50 ⟨g, 0, none⟩).run Tryz.prog w = .ok (.agg cs) w := by
  have h1 : (isAgg 50).run Tryz.prog w = .ok true w := by kernel_rfl
  have h2 : (sizeOf 50).run Tryz.prog w = .ok 21 w := by kernel_rfl
  have h3 := run_loadCells_list (P := Tryz.prog) w ⟨g, 0, none⟩ cs.toList (fun j v hv => by
    have hv' : cs[j]? = some v := by simpa using hv
    have : (⟨g, 0, none⟩ : Addr).add j = ⟨g, j, none⟩ := by simp [Addr.add]; exact fun h => h.symm
    rw [this]
    exact cell_of hg j hv')
  have h4 : cs.toList.length = 21 := by simpa using hs
  rw [h4] at h3
  simp only [loadVar, Sem.run_bind, h1, Result.andThen_ok, if_true, h2, h3]
  rfl
/-- a letter read as a whole; a list of one letter made -/
def ldL (v : Value) : Sem Value := Instr.loadAt 50 v
def bsL (ps : Array (Nat × Value)) : Sem Value := Instr.buildSlice 41 1 ps
theorem ldL_eq (v : Value) : Instr.loadAt 50 v = ldL v := rfl
theorem bsL_eq (ps : Array (Nat × Value)) : Instr.buildSlice 41 1 ps = bsL ps := rfl
theorem ldL_run {w : World} {g : Nat} {cs : Array Value} (hg : w.heap[g]? = some (.cells cs 50 (0, 0))) (hs : cs.size = 21) : (ldL (.pointer (some ⟨g, 0, none⟩))).run Tryz.prog w = .ok (.agg cs) w := by
  have h1 : (Instr.sureAddr (.pointer (some ⟨g, 0, none⟩))).run Tryz.prog w = .ok ⟨g, 0, none⟩ w := rfl
  unfold ldL Instr.loadAt
  simp only [Sem.run_bind, h1, Result.andThen_ok]
  exact ld_letter hg hs
theorem fold_fill (cs z : Array Value) (h : z.size = cs.size) : cs.zipIdx.foldl (fun acc (p : Value × Nat) => acc.setIfInBounds (0 + p.2) p.1) z = cs := by
  have key : ∀ (l : List (Value × Nat)) (k : Nat) (acc : Array Value), (∀ i x, l[i]? = some x → x.2 = k + i ∧ cs[k + i]? = some x.1) → acc.size = cs.size → k + l.length = cs.size → (∀ j, j < k → acc[j]? = cs[j]?) →
      l.foldl (fun acc (p : Value × Nat) => acc.setIfInBounds (0 + p.2) p.1) acc = cs := by
    intro l
    induction l with
    | nil =>
      intro k acc _ h1 h2 h3
      simp only [List.foldl_nil]
      apply Array.ext_getElem?
      intro j
      by_cases hj : j < k
      · exact h3 j hj
      · simp only [List.length_nil, Nat.add_zero] at h2
        rw [Array.getElem?_eq_none (by omega), Array.getElem?_eq_none (by omega)]
    | cons x l ih =>
      intro k acc h0 h1 h2 h3
      simp only [List.foldl_cons]
      obtain ⟨e1, e2⟩ := h0 0 x rfl
      rw [Nat.add_zero] at e1 e2
      refine ih (k + 1) _ (fun i y hy => ?_) (by simpa using h1) (by simp only [List.length_cons] at h2; omega) (fun j hj => ?_)
      · have := h0 (i + 1) y (by simpa using hy)
        rw [show k + 1 + i = k + (i + 1) by omega]
        exact this
      · rw [Array.getElem?_setIfInBounds, Nat.zero_add, e1]
        by_cases hjk : k = j
        · subst hjk
          have : k < acc.size := by simp only [List.length_cons] at h2; omega
          simp [this, e2]
        · rw [if_neg hjk]
          exact h3 j (by omega)
  have := key cs.zipIdx.toList 0 z (fun i x hx => ?_) h (by simp) (fun j hj => by omega)
  · rw [← Array.foldl_toList]; exact this
  · simp only [Array.getElem?_toList, Array.getElem?_zipIdx, Option.map_eq_some_iff] at hx
    obtain ⟨y, hy, rfl⟩ := hx
    simp [hy]
theorem bsL_run {cs : Array Value} (hs : cs.size = 21) (w : World) : (bsL #[(0, .agg cs)]).run Tryz.prog w = .ok (.slice (some ⟨w.heap.size, 0, none⟩) 1 1) (w.alloc (.cells cs 50)) := by
  have h1 : (underlying 41).run Tryz.prog w = .ok (.slice 50) w := by kernel_rfl
  have h2 : (sizeOf 50).run Tryz.prog w = .ok 21 w := by kernel_rfl
  have h3 : (zeroValue 50).run Tryz.prog w = .ok (.agg zLx) w := by kernel_rfl
  unfold bsL Instr.buildSlice
  simp only [Sem.run_bind, h1, Result.andThen_ok, h2]
  rw [if_neg (by decide), if_neg (by decide)]
  simp only [Sem.run_bind, h3, Result.andThen_ok, Sem.run_pure]
  have hsz : ((Array.range (1 * 21)).map (fun x => (Value.agg zLx).cells[x % (Value.agg zLx).cells.size]!)).size = 21 := by simp
  have hf : ∀ z : Array Value, z.size = 21 → Instr.fill (fun i => some (i * 21, 21)) z [(0, .agg cs)] = some cs := fun z hz => by
    have hff := fold_fill cs z (by omega)
    unfold Instr.fill
    have hc : (Value.agg cs).cells = cs := rfl
    simp only [hc, hs, hz]
    rw [if_neg (by decide)]
    unfold Instr.fill
    exact congrArg some hff
  rw [hf _ hsz]
  simp [go_sem]
theorem zLx_size : zLx.size = 21 := rfl

set_option maxRecDepth 100000 in
set_option maxHeartbeats 8000000 in
theorem letter_any {w : World} {b : Nat} {g : Gv} (h : GvAt w b g) (kd : Int) : Calls Tryz.prog 51 #[.pointer (some ⟨b, 0, none⟩), .int .i64 kd] w fun e w' =>
    e = .returned (.agg (encLx (ltr kd g.me g.tt g.id ⟨0, 0⟩ 0 (.slice none 0 0) 0))) ∧ Mod NoB w w' := by
  have hb := h.lt
  go_enter Tryz.func51, Tryz.ntmps51
  go_wp2_with fail
  obtain ⟨w1, hw1⟩ : ∃ w1, w1 = w.alloc (.cells zLx 50) := ⟨_, rfl⟩
  have hm1 : Mod NoB w w1 := by rw [hw1]; exact (Mod.refl _ _).alloc _
  have bL : w1.heap[w.heap.size]? = some (.cells zLx 50 (0, 0)) := by rw [hw1]; exact heap_alloc_new w _
  rw [show w.alloc (.cells #[.int .i64 0, .int .i64 0, .int .i64 0, .int .i64 0, .int .i64 0, .string ⟨#[]⟩, .string ⟨#[]⟩, .string ⟨#[]⟩, .int .i64 0, .int .i64 0, .string ⟨#[]⟩, .slice none 0 0, .bool false, .string ⟨#[]⟩, .int .i64 0, .int .u64 0, .int .u64 0, .int .i64 0, .slice none 0 0, .int .i64 0, .int .i64 0] 50) = w1 from hw1.symm]
  have c4 := hm1.cellS (cell_of h 4 (v := .int .i64 g.me) rfl)
  have c5 := hm1.cellS (cell_of h 5 (v := .int .i64 g.tt) rfl)
  have c6 := hm1.cellS (cell_of h 6 (v := .int .i64 g.id) rfl)
  have HW1 := Lib.hid hw1
  clear h hw1
  go_still_tail 14, (by kernel_rfl)
  change wpList _ _ _ _ _ w1.drew
  rw [HW1.out]
  clear HW1 c4 c5 c6 bL hm1 w1
  generalize hcs : (#[.int .i64 kd, .int .i64 g.me, .int .i64 g.tt, .int .i64 g.id, .int .i64 0, .string ⟨#[]⟩, .string ⟨#[]⟩, .string ⟨#[]⟩, .int .i64 0, .int .i64 0, .string ⟨#[]⟩, .slice none 0 0, .bool false, .string ⟨#[]⟩, .int .i64 0, .int .u64 0, .int .u64 0, .int .i64 0, .slice none 0 0, .int .i64 0, .int .i64 0] : Array Value) = cs
  have hsz : cs.size = 21 := by rw [← hcs]; rfl
  have hone : ∀ v ∈ cs.toList, v.oneCell' = true := by
    rw [← hcs]
    intro v hv
    simp only [List.mem_cons, List.not_mem_nil, or_false] at hv
    rcases hv with rfl | rfl | rfl | rfl | rfl | rfl | rfl | rfl | rfl | rfl | rfl | rfl | rfl | rfl | rfl | rfl | rfl | rfl | rfl | rfl | rfl <;> rfl
  have HCS : Hid (cs = encLx (ltr kd g.me g.tt g.id ⟨0, 0⟩ 0 (.slice none 0 0) 0)) := Lib.hid hcs.symm
  obtain ⟨z, hzz⟩ : ∃ z, z = zLx := ⟨_, rfl⟩
  rw [show (.cells zLx 50 : Obj) = .cells z 50 from by rw [hzz]]
  have hz1 : z.size = cs.size := by rw [hsz, hzz]; rfl
  have HST := st_freshD (P := Tryz.prog) w z cs 50 hz1 hone
  clear hzz hcs
  go_wp2_with fail
  have hld := ld_letter (w := (w.alloc (.cells cs 50)).drew) (g := w.heap.size) (heap_alloc_new w _) hsz
  refine bodyPost_ret (v := .agg cs) (by simp [results, Tryz.results51, asAddr, hld]) rfl ⟨by rw [HCS.out], ((Mod.refl _ _).alloc _).drew⟩

/-- of whose cells nothing is looked at -/
theorem letter_op {w : World} {b : Nat} {g : Gv} (h : GvAt w b g) (kd : Int) : Calls Tryz.prog 51 #[.pointer (some ⟨b, 0, none⟩), .int .i64 kd] w fun e w' =>
    ∃ cs : Array Value, e = .returned (.agg cs) ∧ cs.size = 21 ∧ (∀ v ∈ cs.toList, v.oneCell' = true) ∧ Hid (cs = encLx (ltr kd g.me g.tt g.id ⟨0, 0⟩ 0 (.slice none 0 0) 0)) ∧ Mod NoB w w' := by
  refine (letter_any h kd).mono ?_
  rintro e w' ⟨rfl, hm⟩
  refine ⟨_, rfl, rfl, ?_, Lib.hid rfl, hm⟩
  intro v hv
  simp only [encLx, ltr, List.mem_cons, List.not_mem_nil, or_false] at hv
  rcases hv with rfl | rfl | rfl | rfl | rfl | rfl | rfl | rfl | rfl | rfl | rfl | rfl | rfl | rfl | rfl | rfl | rfl | rfl | rfl | rfl | rfl <;> rfl

theorem gstep_any {w : World} {b : Nat} {g : Gv} (h : GvAt w b g) : Calls Tryz.prog 19 #[.pointer (some ⟨b, 0, none⟩)] w fun e w' => e = .returned (.int .i64 g.step) ∧ w' = w := by
  have c7 := cell_of h 7 (v := .int .i64 g.step) rfl
  go_enter Tryz.func19, Tryz.ntmps19
  go_wp2_with fail
  go_ret
  exact ⟨rfl, rfl⟩
theorem over_any {w : World} {b : Nat} {g : Gv} (h : GvAt w b g) : Calls Tryz.prog 63 #[.pointer (some ⟨b, 0, none⟩)] w fun e w' => e = .returned (.bool (decide (g.step = 4) || decide (g.step = 5))) ∧ w' = w := by
  have c7 := cell_of h 7 (v := .int .i64 g.step) rfl
  by_cases h4 : g.step = 4
  · have q : (g.step == 4) = true := by simpa using h4
    go_enter Tryz.func63, Tryz.ntmps63
    go_wp2_with fail
    go_ret
    exact ⟨by simp [h4], rfl⟩
  · have q : (g.step == 4) = false := by simpa using h4
    go_enter Tryz.func63, Tryz.ntmps63
    go_wp2_with fail
    go_ret
    exact ⟨by simp [h4]; rfl, rfl⟩
end Go.Proofs.YtpcmbnbdppembaaGreatDoor

/- give: the next letter when no chunk is left: the commit. -/
namespace Go.Proofs.YtpcmbnbdppembaaGreatDoor
set_option linter.unusedSimpArgs false
set_option linter.unusedVariables false
open Go.RowKit Go.Shelf
attribute [local go_sem ↓] Go.wp_at_zero Go.wp_at_succ
attribute [local go_sem] Oper.semAt_some
attribute [local go_sem ↓] ldL_eq bsL_eq

theorem left_make (b : Nat) (w : World) : Calls Tryz.prog 149 #[.pointer (some ⟨b, 0, none⟩)] w fun e w' =>
    e = .returned (.func (.func 198) #[] #[.pointer (some ⟨w.heap.size, 0, none⟩)]) ∧ w' = w.alloc (.cells #[.pointer (some ⟨b, 0, none⟩)] 40) := by
  go_enter Tryz.func149, Tryz.ntmps149
  go_wp2_with fail
  go_ret
  exact ⟨rfl, rfl⟩

set_option maxRecDepth 100000 in
set_option maxHeartbeats 8000000 in
/-- with no chunk left nothing is gone through -/
theorem left_seq {Bv b : Nat} {w : World} (h1 : w.cell? ⟨Bv, 0, none⟩ = some (.pointer (some ⟨b, 0, none⟩))) (h2 : w.cell? ⟨b, 9, none⟩ = some (.int .i64 0)) (h3 : w.cell? ⟨b, 8, none⟩ = some (.slice none 0 0)) {α : Type} (encs : α → Array Value) (Kp : World → World → Prop) :
    SeqStopsK Fence.wide 5 Tryz.prog 198 #[.pointer (some ⟨Bv, 0, none⟩)] encs Kp (fun xs => xs = []) (fun _ => False) 0 w := by
  intro l J Jx W hW hJ hJx _ h0
  have hm := Mod.ofBelow hW
  have c1 := hm.cellS h1
  have c2 := hm.cellS h2
  have c3 := hm.cellS h3
  refine callsIn_wide.2 ?_
  have H0 := Lib.hid h0
  clear hJ hJx h0 hW h1 h2 h3 hm
  show Calls _ _ #[.func (.yield l) #[] #[], .pointer (some ⟨Bv, 0, none⟩)] W _
  go_enter Tryz.func198, Tryz.ntmps198
  go_wp2_with fail
  go_loopw [3] (fun i wr => i = .int .i64 0 ∧ wr = W) (fun _ _ => 0)
  case atStart => exact ⟨rfl, rfl⟩
  case round =>
    obtain ⟨rfl, rfl⟩ := hrel
    go_wp2_with fail
    refine bodyPost_end (results_none rfl _ _ _) rfl ⟨⟨_, rfl⟩, .inl ⟨[], rfl, H0.out⟩⟩

set_option maxRecDepth 100000 in
set_option maxHeartbeats 16000000 in
theorem next_none {w : World} {b : Nat} {g : Gv} (h : GvAt w b g) (hch : g.ch = .slice none 0 0) (hw0 : g.went = 0) :
    Calls Tryz.prog 60 #[.pointer (some ⟨b, 0, none⟩)] w fun e w' => ∃ L, e = .returned (.slice (some ⟨L, 0, none⟩) 1 1) ∧ w.heap.size ≤ L ∧
      w'.heap[L]? = some (.cells (encLx (ltr 14 g.me g.tt g.id g.a g.ep (.slice none 0 0) 0)) 50 (0, 0)) ∧ GvAt w' b { g with step := 3 } ∧ Mod (· = b) w w' := by
  have HG := Lib.hid h
  have hb := h.lt
  have c8 : w.cell? ⟨b, 8, none⟩ = some (.slice none 0 0) := cell_of h 8 (by simp [hch])
  have c9 : w.cell? ⟨b, 9, none⟩ = some (.int .i64 0) := cell_of h 9 (by simp [hw0])
  clear h
  refine (callsIn_wide (n := 6)).1 ?_
  refine callsIn_of_wp_marks Tryz.func60 rfl trivial ?_ rfl
  simp only [Tryz.ntmps60, List.size_toArray, List.length_cons, List.length_nil, Nat.reduceAdd, Nat.reduceSub, Array.replicate_succ, Array.replicate_zero, List.push_toArray, List.append_toArray, List.nil_append, List.cons_append]
  refine wpIn_wide.2 ?_
  go_wp2_with fail
  refine (left_make _ _).mono ?_
  rintro e w2 ⟨rfl, hw2⟩
  go_wp2_with fail
  refine (wpIn_wide (n := 6)).1 ?_
  obtain ⟨B0, hB0⟩ : ∃ B0, B0 = w.heap.size := ⟨_, rfl⟩
  obtain ⟨w3, hw3⟩ : ∃ w3, w3 = ((w.alloc (.cells #[.pointer (some ⟨b, 0, none⟩)] 40)).alloc (.cells #[.slice none 0 0] 41)).alloc (.cells #[.pointer (some ⟨b, 0, none⟩)] 40) := ⟨_, rfl⟩
  have bX : Boxed w3 B0 40 (.pointer (some ⟨b, 0, none⟩)) := by rw [hw3, hB0]; exact ((Boxed.new w 40 (.pointer (some ⟨b, 0, none⟩))).alloc _).alloc _
  have bR : Boxed w3 (B0 + 1) 41 (.slice none 0 0) := by
    rw [hw3, hB0]
    have := (Boxed.new (w.alloc (.cells #[.pointer (some ⟨b, 0, none⟩)] 40)) 41 (.slice none 0 0)).alloc (.cells #[.pointer (some ⟨b, 0, none⟩)] 40)
    rwa [World.size_alloc] at this
  have bL : w3.cell? ⟨B0 + 1 + 1, 0, none⟩ = some (.pointer (some ⟨b, 0, none⟩)) := by
    rw [hw3, hB0]
    have := (Boxed.new ((w.alloc (.cells #[.pointer (some ⟨b, 0, none⟩)] 40)).alloc (.cells #[.slice none 0 0] 41)) 40 (.pointer (some ⟨b, 0, none⟩))).cell
    rwa [World.size_alloc, World.size_alloc] at this
  have hm3 : Mod NoB w w3 := by rw [hw3]; exact (((Mod.refl _ _).alloc _).alloc _).alloc _
  have hs3 : w3.heap.size = B0 + 3 := by rw [hw3, hB0]; simp
  rw [← hw3, ← hB0]
  have HM3 := Lib.hid hm3; have HB0 := Lib.hid hB0; have HS3 := Lib.hid hs3
  have hbB : b < B0 := by omega
  have G3 : GvAt w3 b g := HG.out.mod hm3 (fun x => x)
  have hsq := left_seq bL (hm3.cellS c9) (hm3.cellS c8) (fun x : Empty => x.elim) (fun _ _ => True)
  have HBX := Lib.hid bX; have HBR := Lib.hid bR; have HG3 := Lib.hid G3
  clear hw2 hw3 hm3 hs3 hB0 bL c8 c9 hb bX bR G3 HG
  refine wpIn_rangeFunc_ownF rfl (by decide) (gf := 198) (lb := #[.pointer (some ⟨B0 + 1 + 1, 0, none⟩)]) rfl trivial (enters_of Tryz.func198 (by kernel_rfl) rfl) hsq (fun _ _ => trivial) (fun _ _ _ _ _ _ _ _ => trivial) (Below.refl _ _) (fun x => x.elim)
      (fun pre W => Below w3.heap.size w3 W) (fun _ _ _ => False) ?hI ?hIx ?h0 (fun x => x.elim) ?assign ?body ?done ?stop
  case hI => exact ownFrom_below (Nat.le_refl _) (Nat.le_refl _)
  case hIx => intro c s A B row hs; exact hs.elim
  case h0 => exact Below.refl _ _
  case assign => intro l x; exact x.elim
  case body => intro l pre x; exact x.elim
  case stop => intro D c pre W hD hp; exact hp.elim
  case done =>
    rintro D xs W hD rfl hB hK
    have hmW : Mod NoB w3 W := Mod.ofBelow hB
    have GW : GvAt W b g := HG3.out.mod hmW (fun x => x)
    have XW : Boxed W B0 40 (.pointer (some ⟨b, 0, none⟩)) := (hmW.block _ HBX.out.lt (fun x => x)).trans HBX.out
    have RW : Boxed W (B0 + 1) 41 (.slice none 0 0) := (hmW.block _ HBR.out.lt (fun x => x)).trans HBR.out
    have hDB : B0 + 3 ≤ D := by have := HS3.out; omega
    have x0 := XW.cell
    have g7 := cell_of GW 7 (v := .int .i64 g.step) rfl
    have f7 := frozen_of GW 7
    have HMW := Lib.hid hmW; have HGW := Lib.hid GW; have HXW := Lib.hid XW; have HRW := Lib.hid RW; have HK := Lib.hid hK
    clear hB hmW GW XW RW hsq hD hK
    gi_wp2
    go_wp2_with fail
    have G1 : GvAt (W.setCell ⟨b, 7, none⟩ (.int .i64 3)) b { g with step := 3 } := heap_set HGW.out 7 _
    have hmS : Mod (· = b) W (W.setCell ⟨b, 7, none⟩ (.int .i64 3)) := Mod.setCell (S := (· = b)) (Mod.refl _ _) (p := ⟨b, 7, none⟩) (fun _ => rfl) _
    refine (letter_op G1 14).mono ?_
    rintro e w5 ⟨cs, rfl, hsz, hone, HCS, hm5⟩
    have hm15 : Mod (· = b) W w5 := hmS.trans (hm5.mono (fun _ _ x => x.elim))
    have G5 : GvAt w5 b { g with step := 3 } := G1.mod hm5 (fun x => x)
    have X5 : Boxed w5 B0 40 (.pointer (some ⟨b, 0, none⟩)) := (hm15.block _ HXW.out.lt (Nat.ne_of_gt hbB)).trans HXW.out
    have R5 : Boxed w5 (B0 + 1) 41 (.slice none 0 0) := (hm15.block _ HRW.out.lt (by omega)).trans HRW.out
    have hDl : D < W.heap.size := (Array.getElem?_eq_some_iff.1 HK.out).1
    have K5 : w5.heap[D]? = some (.deferred (some [])) := (hm15.block D hDl (by omega)).trans HK.out
    have hx5 := X5.cell
    have hz : zLx.size = cs.size := by rw [hsz]; rfl
    have HST := st_fresh (P := Tryz.prog) w5 zLx cs 50 hz hone
    dsimp only [zLx] at HST
    have HMM : Hid (Mod (· = b) w w5) := Lib.hid (Mod.trans (S := (· = b)) ((HM3.out.trans HMW.out).mono (fun _ _ x => x.elim)) hm15)
    have HG5 := Lib.hid G5; have HX5 := Lib.hid X5; have HR5 := Lib.hid R5; have HK5 := Lib.hid K5; have HSZ := Lib.hid hsz
    clear HK HRW HXW HGW HMW x0 g7 f7 G1 hmS hm5 hm15 G5 X5 R5 K5 hDl hz
    go_wp2_with fail
    clear HST hx5
    obtain ⟨L, hL⟩ : ∃ L, L = w5.heap.size := ⟨_, rfl⟩
    obtain ⟨w6, hw6⟩ : ∃ w6, w6 = w5.alloc (.cells cs 50) := ⟨_, rfl⟩
    have b6 : w6.heap[L]? = some (.cells cs 50 (0, 0)) := by rw [hw6, hL]; exact heap_alloc_new w5 _
    have hm6 : Mod NoB w5 w6 := by rw [hw6]; exact (Mod.refl _ _).alloc _
    rw [← hw6, ← hL]
    have HLS : Hid (L = w5.heap.size) := Lib.hid hL
    have hbL : b < L := by rw [hL]; exact HG5.out.lt
    have hXL : B0 < L := by rw [hL]; exact HX5.out.lt
    have hRL : B0 + 1 < L := by rw [hL]; exact HR5.out.lt
    have hDL : D < L := by rw [hL]; exact (Array.getElem?_eq_some_iff.1 HK5.out).1
    have hL6 : L < w6.heap.size := (Array.getElem?_eq_some_iff.1 b6).1
    have G6 : GvAt w6 b { g with step := 3 } := HG5.out.mod hm6 (fun x => x)
    have X6 : Boxed w6 B0 40 (.pointer (some ⟨b, 0, none⟩)) := (hm6.block _ HX5.out.lt (fun x => x)).trans HX5.out
    have KEEP : Hid (∀ X, Mod (· = L) w6 X → (X.cell? ⟨B0, 0, none⟩ = some (.pointer (some ⟨b, 0, none⟩)) ∧ X.cell? ⟨b, 1, none⟩ = some (.int .u64 g.a.f) ∧ X.cell? ⟨b, 2, none⟩ = some (.int .u64 g.a.t) ∧ X.cell? ⟨b, 3, none⟩ = some (.int .i64 g.ep))) := Lib.hid (fun X hm => by
      have gx : GvAt X b { g with step := 3 } := G6.mod hm (Nat.ne_of_lt hbL)
      have xx : Boxed X B0 40 (.pointer (some ⟨b, 0, none⟩)) := (hm.block _ X6.lt (Nat.ne_of_lt hXL)).trans X6
      exact ⟨xx.cell, cell_of gx 1 rfl, cell_of gx 2 rfl, cell_of gx 3 rfl⟩)
    have f15 := frozen_of b6 15; have f16 := frozen_of b6 16; have f17 := frozen_of b6 17
    have q15 : w6.cell? ⟨L, 15, none⟩ = some (.int .u64 0) := cell_of b6 15 (by rw [HCS.out]; rfl)
    have q16 : w6.cell? ⟨L, 16, none⟩ = some (.int .u64 0) := cell_of b6 16 (by rw [HCS.out]; rfl)
    have q17 : w6.cell? ⟨L, 17, none⟩ = some (.int .i64 0) := cell_of b6 17 (by rw [HCS.out]; rfl)
    have HM6 := Lib.hid hm6; have HG6 := Lib.hid G6; have HB6 := Lib.hid b6
    clear hm6 G6 b6 X6 hL hw6
    go_region_held3 (fun X => X.cell? ⟨B0, 0, none⟩ = some (.pointer (some ⟨b, 0, none⟩)) ∧ X.cell? ⟨b, 1, none⟩ = some (.int .u64 g.a.f) ∧ X.cell? ⟨b, 2, none⟩ = some (.int .u64 g.a.t) ∧ X.cell? ⟨b, 3, none⟩ = some (.int .i64 g.ep)) (exact KEEP.out _ (by repeat (first | exact Mod.refl _ _ | refine Mod.alloc ?_ _ | refine Mod.drew ?_ | refine Mod.setCell (S := (· = L)) ?_ (p := ⟨L, _, none⟩) (fun _ => rfl) _))) ((first | fail))
    have b7 : ((((w6.setCell ⟨L, 15, none⟩ (.int .u64 g.a.f)).setCell ⟨L, 16, none⟩ (.int .u64 g.a.t)).setCell ⟨L, 17, none⟩ (.int .i64 g.ep)).drew).heap[L]? = some (.cells (encLx (ltr 14 g.me g.tt g.id g.a g.ep (.slice none 0 0) 0)) 50 (0, 0)) := by
      have h1 := heap_set (heap_set (heap_set HB6.out 15 (.int .u64 g.a.f)) 16 (.int .u64 g.a.t)) 17 (.int .i64 g.ep)
      rw [HCS.out] at h1
      exact h1
    have m7 : Mod (· = L) w6 ((((w6.setCell ⟨L, 15, none⟩ (.int .u64 g.a.f)).setCell ⟨L, 16, none⟩ (.int .u64 g.a.t)).setCell ⟨L, 17, none⟩ (.int .i64 g.ep)).drew) := (by repeat (first | exact Mod.refl _ _ | refine Mod.alloc ?_ _ | refine Mod.drew ?_ | refine Mod.setCell (S := (· = L)) ?_ (p := ⟨L, _, none⟩) (fun _ => rfl) _))
    generalize (((w6.setCell ⟨L, 15, none⟩ (.int .u64 g.a.f)).setCell ⟨L, 16, none⟩ (.int .u64 g.a.t)).setCell ⟨L, 17, none⟩ (.int .i64 g.ep)).drew = w7 at *
    have m57 : Mod NoB w5 w7 := HM6.out.then m7 (fun k hk e => by have := HLS.out; omega)
    have R7 : Boxed w7 (B0 + 1) 41 (.slice none 0 0) := (m57.block _ HR5.out.lt (fun x => x)).trans HR5.out
    have r7 := R7.cell
    have hRl7 : B0 + 1 < w7.heap.size := R7.lt
    have rf7 := R7.frozen
    obtain ⟨c7, hc7⟩ : ∃ c7, c7 = encLx (ltr 14 g.me g.tt g.id g.a g.ep (.slice none 0 0) 0) := ⟨_, rfl⟩
    rw [← hc7] at b7
    have hs7c : c7.size = 21 := by rw [hc7]; rfl
    have hld := ldL_run b7 hs7c
    have hbs := bsL_run hs7c
    have HC7 := Lib.hid hc7; have HS7 := Lib.hid hs7c
    clear hc7 hs7c
    have HB7 := Lib.hid b7; have HM57 := Lib.hid m57; have HR7 := Lib.hid R7
    clear b7 m7 m57 R7 f15 f16 f17 q15 q16 q17 KEEP hone hsz
    try clear hHeld
    go_wp2_with fail
    have hs7 : (w7.setCell ⟨B0 + 1, 0, none⟩ (.slice (some ⟨w7.heap.size, 0, none⟩) 1 1)).heap.size = w7.heap.size := by simp [World.setCell]
    obtain ⟨w8, hw8⟩ : ∃ w8, w8 = (w7.setCell ⟨B0 + 1, 0, none⟩ (.slice (some ⟨w7.heap.size, 0, none⟩) 1 1)).alloc (.cells c7 50) := ⟨_, rfl⟩
    have R8 : Boxed w8 (B0 + 1) 41 (.slice (some ⟨w7.heap.size, 0, none⟩) 1 1) := by rw [hw8]; exact (HR7.out.set _).alloc _
    have N8 : w8.heap[w7.heap.size]? = some (.cells c7 50 (0, 0)) := by
      have := heap_alloc_new (w7.setCell ⟨B0 + 1, 0, none⟩ (.slice (some ⟨w7.heap.size, 0, none⟩) 1 1)) (.cells c7 50)
      rw [hs7] at this
      rw [hw8]; exact this
    have m58 : Mod (· = B0 + 1) w5 w8 := by
      rw [hw8]
      exact (Mod.setCell (S := (· = B0 + 1)) (HM57.out.mono (fun _ _ x => x.elim)) (p := ⟨B0 + 1, 0, none⟩) (fun _ => rfl) _).alloc _
    have G8 : GvAt w8 b { g with step := 3 } := HG5.out.mod m58 (by omega)
    have K8 : w8.heap[D]? = some (.deferred (some [])) := (m58.block D (Array.getElem?_eq_some_iff.1 HK5.out).1 (by omega)).trans HK5.out
    have hL8 : w7.heap.size < w8.heap.size := (Array.getElem?_eq_some_iff.1 N8).1
    have h57 := HM57.out.size
    have hws : w.heap.size ≤ w5.heap.size := HMM.out.size
    have hD8 : D < w5.heap.size := (Array.getElem?_eq_some_iff.1 HK5.out).1
    have hBw := HB0.out
    show bodyPostM _ _ _ _ _ _ _ ((w7.setCell ⟨B0 + 1, 0, none⟩ (.slice (some ⟨w7.heap.size, 0, none⟩) 1 1)).alloc (.cells c7 50))
    rw [← hw8]
    refine ⟨by simp, .inl ⟨_, _, rfl, run_takeDeferred K8, ?_⟩⟩
    have mD : Mod (· = D) w8 (w8.putObj D (.deferred none)) := ⟨rfl, rfl, rfl, by simp [World.putObj], fun k hk hn => World.putObj_heap_other hn⟩
    have hcr : (w8.putObj D (.deferred none)).cell? ⟨B0 + 1, 0, none⟩ = some (.slice (some ⟨w7.heap.size, 0, none⟩) 1 1) :=
      (mD.cell (p := ⟨B0 + 1, 0, none⟩) R8.lt (show ¬ B0 + 1 = D by omega)).trans R8.cell
    refine ⟨.slice (some ⟨w7.heap.size, 0, none⟩) 1 1, ?_, w7.heap.size, rfl, by omega, ?_, G8.mod mD (show ¬ b = D by omega), ?_⟩
    · simp [results, Tryz.results60, go_sem, hcr]
    · rw [mD.block _ hL8 (show ¬ w7.heap.size = D by omega), N8, HC7.out]
    · exact ((HMM.out.then m58 (fun k hk e => by have e2 : k = _ := e; omega))).then mD (fun k hk e => by have e2 : k = _ := e; omega)
end Go.Proofs.YtpcmbnbdppembaaGreatDoor

/- give: Got, where the offer is taken and there are no chunks, and at the end. -/
namespace Go.Proofs.YtpcmbnbdppembaaGreatDoor
set_option linter.unusedSimpArgs false
set_option linter.unusedVariables false
open Go.RowKit Go.Shelf
attribute [local go_sem ↓] Go.wp_at_zero Go.wp_at_succ
attribute [local go_sem] Oper.semAt_some

set_option maxRecDepth 100000 in
set_option maxHeartbeats 16000000 in
theorem got_accept_none {w : World} {b : Nat} {g : Gv} (h : GvAt w b g) (hch : g.ch = .slice none 0 0) (hw0 : g.went = 0) (hst : g.step = 1) {cx : Array Value} (x0 : cx[0]? = some (.int .i64 11)) (x1 : cx[1]? = some (.int .i64 g.tt)) (x3 : cx[3]? = some (.int .i64 g.id)) (x19 : cx[19]? = some (.int .i64 1)) :
    Calls Tryz.prog 17 #[.pointer (some ⟨b, 0, none⟩), .agg cx] w fun e w' => ∃ L, e = .returned (.tuple #[.slice (some ⟨L, 0, none⟩) 1 1, .bool false]) ∧ w.heap.size ≤ L ∧
      w'.heap[L]? = some (.cells (encLx (ltr 14 g.me g.tt g.id g.a g.ep (.slice none 0 0) 0)) 50 (0, 0)) ∧ GvAt w' b { g with step := 3 } ∧ Mod (· = b) w w' := by
  have HG := Lib.hid h
  have hb := h.lt
  clear h
  go_enter Tryz.func17, Tryz.ntmps17
  go_wp2_with fail
  obtain ⟨B0, hB0⟩ : ∃ B0, B0 = w.heap.size := ⟨_, rfl⟩
  obtain ⟨w1, hw1⟩ : ∃ w1, w1 = w.alloc (.cells cx 50) := ⟨_, rfl⟩
  have hm1 : Mod NoB w w1 := by rw [hw1]; exact (Mod.refl _ _).alloc _
  have bX : w1.heap[B0]? = some (.cells cx 50 (0, 0)) := by rw [hw1, hB0]; exact heap_alloc_new w _
  have G1 : GvAt w1 b g := HG.out.mod hm1 (fun x => x)
  rw [← hw1, ← hB0]
  have HX := Lib.hid bX; have HM1 := Lib.hid hm1; have HG1 := Lib.hid G1; have HB0 := Lib.hid hB0
  have y0 := cell_of bX 0 x0; have y1 := cell_of bX 1 x1; have y3 := cell_of bX 3 x3; have y19 := cell_of bX 19 x19
  have g5 := cell_of G1 5 (v := .int .i64 g.tt) rfl
  have g6 := cell_of G1 6 (v := .int .i64 g.id) rfl
  have g7 : w1.cell? ⟨b, 7, none⟩ = some (.int .i64 1) := cell_of G1 7 (by simp [hst])
  clear hw1 hB0 bX hm1 G1 HG x0 x1 x3 x19
  go_quiet (fail)
  go_wp2_with fail
  refine (next_none (HG1.out.mod (S := NoB) (by repeat (first | exact Mod.refl _ _ | refine Mod.alloc ?_ _ | refine Mod.drew ?_ | refine Mod.drewN ?_ _)) (fun x => x)) hch hw0).mono ?_
  rintro e w2 ⟨L, rfl, hL, hl, hg2, hm2⟩
  have HLL := Lib.hid hL; have HL2 := Lib.hid hl; have HG2 := Lib.hid hg2
  have HM2 := Lib.hid (Mod.trans (S := (· = b)) (a := w1) (Mod.mono (S := NoB) (by repeat (first | exact Mod.refl _ _ | refine Mod.alloc ?_ _ | refine Mod.drew ?_ | refine Mod.drewN ?_ _)) (fun _ _ x => x.elim)) hm2)
  clear hL hl hg2 hm2
  go_wp2_with fail
  refine (over_any HG2.out).mono ?_
  rintro e w3 ⟨rfl, rfl⟩
  go_wp2_with fail
  refine bodyPost_ret (v := .tuple #[.slice (some ⟨L, 0, none⟩) 1 1, .bool false]) (by simp [results, Tryz.results17, go_sem]) rfl ?_
  exact ⟨L, rfl, by have h1 := HLL.out; have h2 := HM1.out.size; simp at h1; omega, HL2.out, HG2.out, (HM1.out.mono (fun _ _ x => x.elim)).trans HM2.out⟩

set_option maxRecDepth 100000 in
set_option maxHeartbeats 16000000 in
theorem got_done {w : World} {b : Nat} {g : Gv} (h : GvAt w b g) (hst : g.step = 3) {st : HSt} {xs : List Itm} {B : List Nat} (hh : HoldI w g.h st xs B) (hbB : b ∉ B) (hs : st.shut = true) (ha : st.a.ok) (hxl : xs.length ≤ 100000) (hlen : st.own.length ≤ 100000) (hpl : st.pts.length ≤ 1000000)
    {cx : Array Value} (x0 : cx[0]? = some (.int .i64 15)) (x1 : cx[1]? = some (.int .i64 g.tt)) (x3 : cx[3]? = some (.int .i64 g.id)) :
    Calls Tryz.prog 17 #[.pointer (some ⟨b, 0, none⟩), .agg cx] w fun e w' => e = .returned (.tuple #[.slice none 0 0, .bool true]) ∧ GvAt w' b { g with step := 4 } ∧
      ∃ B', HoldI w' g.h { st with own := lostTo st.own (piecesA st.a), shut := false, a := ⟨0, 0⟩, pts := st.pts ++ [⟨st.a.f, st.a.t, g.tt, 0⟩] } (outS st.a xs) B' ∧ Turn (b :: B) w w' (b :: B') := by
  have HG := Lib.hid h
  have HH := Lib.hid hh
  have hb := h.lt
  clear h hh
  go_enter Tryz.func17, Tryz.ntmps17
  go_wp2_with fail
  obtain ⟨B0, hB0⟩ : ∃ B0, B0 = w.heap.size := ⟨_, rfl⟩
  obtain ⟨w1, hw1⟩ : ∃ w1, w1 = w.alloc (.cells cx 50) := ⟨_, rfl⟩
  have hm1 : Mod NoB w w1 := by rw [hw1]; exact (Mod.refl _ _).alloc _
  have bX : w1.heap[B0]? = some (.cells cx 50 (0, 0)) := by rw [hw1, hB0]; exact heap_alloc_new w _
  have G1 : GvAt w1 b g := HG.out.mod hm1 (fun x => x)
  rw [← hw1, ← hB0]
  have HX := Lib.hid bX; have HM1 := Lib.hid hm1; have HG1 := Lib.hid G1; have HB0 := Lib.hid hB0
  have y0 := cell_of bX 0 x0; have y1 := cell_of bX 1 x1; have y3 := cell_of bX 3 x3
  have g0 := cell_of G1 0 (v := .pointer (some ⟨g.h, 0, none⟩)) rfl
  have g5 := cell_of G1 5 (v := .int .i64 g.tt) rfl
  have g6 := cell_of G1 6 (v := .int .i64 g.id) rfl
  have g7 : w1.cell? ⟨b, 7, none⟩ = some (.int .i64 3) := cell_of G1 7 (by simp [hst])
  clear hw1 hB0 bX hm1 G1 HG x0 x1 x3
  go_quiet (fail)
  go_wp2_with fail
  go_quiet (fail)
  go_wp2_with fail
  have hH1 : HoldI w1 g.h st xs B := HH.out.mod HM1.out (fun _ _ x => x)
  have KEEP : Hid (∀ X, Mod (· ∈ B) w1 X → (X.cell? ⟨b, 0, none⟩ = some (.pointer (some ⟨g.h, 0, none⟩)) ∧ X.cell? ⟨b, 5, none⟩ = some (.int .i64 g.tt))) := Lib.hid (fun X hm => by
    have gx : GvAt X b g := HG1.out.mod hm hbB
    exact ⟨cell_of gx 0 rfl, cell_of gx 5 rfl⟩)
  have HH1 := Lib.hid hH1
  clear hH1 g0 g5 g6 g7 y0 y1 y3
  go_region_held3 (fun X => X.cell? ⟨b, 0, none⟩ = some (.pointer (some ⟨g.h, 0, none⟩)) ∧ X.cell? ⟨b, 5, none⟩ = some (.int .i64 g.tt)) (first | exact KEEP.out _ M6.out | exact KEEP.out _ (Mod.mono (S := NoB) (by repeat (first | exact Mod.refl _ _ | refine Mod.alloc ?_ _ | refine Mod.drew ?_ | refine Mod.drewN ?_ _)) (fun _ _ x => x.elim))) ((first | (go_simp; go_at_call 62; go_loud (refine (lose_I (HH1.out.mod (S := NoB) (by repeat (first | exact Mod.refl _ _ | refine Mod.alloc ?_ _ | refine Mod.drew ?_ | refine Mod.drewN ?_ _)) (fun _ _ x => x)) hs g.tt ha hxl hlen hpl).mono ?_; rintro e w5 ⟨rfl, B5, hh5, ht5⟩; have hm6 := Mod.trans (S := (· ∈ B)) (a := w1) (Mod.mono (S := NoB) (by repeat (first | exact Mod.refl _ _ | refine Mod.alloc ?_ _ | refine Mod.drew ?_ | refine Mod.drewN ?_ _)) (fun _ _ x => x.elim)) ht5.1; obtain ⟨k0, k1⟩ := KEEP.out _ hm6; have M6 := Lib.hid hm6; have HH5 := Lib.hid hh5; have HT5 := Lib.hid ht5.2; clear hh5 ht5 hm6))))
  have G5 : GvAt w5 b g := HG1.out.mod M6.out hbB
  have f7 := frozen_of G5 7
  have c7 := cell_of G5 7 (v := .int .i64 g.step) rfl
  have HG5 := Lib.hid G5
  clear G5 k0 k1
  go_wp2_with fail
  have hg6 : GvAt (w5.setCell ⟨b, 7, none⟩ (.int .i64 4)) b { g with step := 4 } := heap_set HG5.out 7 _
  have hmS : Mod (· = b) w5 (w5.setCell ⟨b, 7, none⟩ (.int .i64 4)) := Mod.setCell (S := (· = b)) (Mod.refl _ _) (p := ⟨b, 7, none⟩) (fun _ => rfl) _
  have HG6 := Lib.hid hg6; have HMS := Lib.hid hmS
  clear hg6 hmS f7 c7
  refine (over_any HG6.out).mono ?_
  rintro e w6 ⟨rfl, rfl⟩
  go_wp2_with fail
  have hsz1 : w.heap.size ≤ w1.heap.size := HM1.out.size
  have hB5 : ∀ k ∈ B5, k ∈ B ∨ w.heap.size ≤ k := fun k hk => (HT5.out k hk).elim .inl (fun h => .inr (by simp at h; omega))
  have hbB5 : ∀ k ∈ B5, ¬ k = b := fun k hk e => (hB5 k hk).elim (fun h => hbB (e ▸ h)) (fun h => by omega)
  refine bodyPost_ret (v := .tuple #[.slice none 0 0, .bool true]) (by simp [results, Tryz.results17, go_sem]) rfl ?_
  refine ⟨rfl, HG6.out, B5, HH5.out.mod HMS.out hbB5, ?_, ?_⟩
  · exact ((HM1.out.mono (fun _ _ x => x.elim)).trans (M6.out.mono (fun k _ hk => List.mem_cons_of_mem _ hk))).trans (HMS.out.mono (fun k _ hk => by have e : k = b := hk; subst e; exact List.mem_cons_self))
  · intro k hk
    rcases List.mem_cons.1 hk with rfl | hk
    · exact .inl List.mem_cons_self
    · exact (hB5 k hk).imp (fun h => List.mem_cons_of_mem _ h) id
end Go.Proofs.YtpcmbnbdppembaaGreatDoor

/- give.Start, where there is no item in the arc. -/
namespace Go.Proofs.YtpcmbnbdppembaaGreatDoor
set_option linter.unusedSimpArgs false
set_option linter.unusedVariables false
open Go.RowKit Go.Shelf
attribute [local go_sem ↓] Go.wp_at_zero Go.wp_at_succ
attribute [local go_sem] Oper.semAt_some
attribute [local go_sem ↓] ldL_eq bsL_eq

set_option maxRecDepth 100000 in
set_option maxHeartbeats 8000000 in
theorem chunks_none (w : World) (av : Option Addr) (cap : Nat) : Calls Tryz.prog 50 #[.slice av 0 cap] w fun e w' => e = .returned (.slice none 0 0) ∧ w' = w := by
  go_enter Tryz.func50, Tryz.ntmps50
  go_wp2_with fail
  go_loopw [0, 3] (fun l out wr => l = .slice av 0 cap ∧ out = .slice none 0 0 ∧ wr = w) (fun _ _ _ => 0)
  case atStart => exact ⟨rfl, rfl, rfl⟩
  case round =>
    obtain ⟨rfl, rfl, rfl⟩ := hrel
    go_wp2_with fail
    go_ret
    exact ⟨rfl, rfl⟩

set_option maxRecDepth 100000 in
set_option maxHeartbeats 8000000 in
/-- to oneself nothing is given -/
theorem start_self (w : World) (h : Nat) (a : Arc) (me id : Int) : Calls Tryz.prog 15 #[.pointer (some ⟨h, 0, none⟩), .agg #[.int .u64 a.f, .int .u64 a.t], .int .i64 me, .int .i64 me, .int .i64 id] w fun e w' =>
    e = .returned (.tuple #[.pointer none, .slice none 0 0, .int .i64 1]) ∧ Mod NoB w w' := by
  go_enter Tryz.func15, Tryz.ntmps15
  go_wp2_with fail
  refine bodyPost_ret (v := .tuple #[.pointer none, .slice none 0 0, .int .i64 1]) (by simp [results, Tryz.results15, go_sem]) rfl ?_
  exact ⟨rfl, (Mod.refl _ _).alloc _⟩

set_option maxRecDepth 100000 in
set_option maxHeartbeats 8000000 in
/-- what cannot be shut is not given -/
theorem start_err {w : World} {h : Nat} {st : HSt} {tr : Option Tree} {n : Nat} {B : List Nat} (hh : HoldAt w h st tr n B) (a : Arc) (me kt id : Int) (hne : kt ≠ me) {er : Int} (her : er ≠ 0)
    (hf : ∀ w1, Mod NoB w w1 → Calls Tryz.prog 37 #[.pointer (some ⟨h, 0, none⟩), .agg #[.int .u64 a.f, .int .u64 a.t]] w1 fun e w' => e = .returned (.tuple #[.slice none 0 0, .int .i64 0, .int .i64 er]) ∧ Mod NoB w1 w') :
    Calls Tryz.prog 15 #[.pointer (some ⟨h, 0, none⟩), .agg #[.int .u64 a.f, .int .u64 a.t], .int .i64 me, .int .i64 kt, .int .i64 id] w fun e w' =>
    e = .returned (.tuple #[.pointer none, .slice none 0 0, .int .i64 er]) ∧ Mod NoB w w' := by
  have hne2 : (kt == me) = false := by simpa using hne
  have her2 : (er != 0) = true := by simpa using her
  have HF := Lib.hid hf
  clear hf hne her
  go_enter Tryz.func15, Tryz.ntmps15
  go_wp2_with fail
  refine (HF.out _ ((Mod.refl _ _).alloc _)).mono ?_
  rintro e w1 ⟨rfl, hm1⟩
  have HM1 := Lib.hid (((Mod.refl NoB w).alloc (.cells #[.int .u64 a.f, .int .u64 a.t] 25)).trans hm1)
  clear hm1
  go_wp2_with fail
  refine bodyPost_ret (v := .tuple #[.pointer none, .slice none 0 0, .int .i64 er]) (by simp [results, Tryz.results15, go_sem]) rfl ?_
  exact ⟨rfl, HM1.out⟩

set_option maxRecDepth 100000 in
set_option maxHeartbeats 16000000 in
theorem start_none {w : World} {h : Nat} {st : HSt} {B : List Nat} (hh : HoldI w h st [] B) (a : Arc) (ha : a.ok) (me kt id : Int) (hne : kt ≠ me) (hs : st.shut = false) {ep : Int} (hsm : st.same ep) (hep : ep ≤ 1000000) (hcv : st.covA a) :
    Calls Tryz.prog 15 #[.pointer (some ⟨h, 0, none⟩), .agg #[.int .u64 a.f, .int .u64 a.t], .int .i64 me, .int .i64 kt, .int .i64 id] w fun e w' =>
    ∃ b L, e = .returned (.tuple #[.pointer (some ⟨b, 0, none⟩), .slice (some ⟨L, 0, none⟩) 1 1, .int .i64 0]) ∧ w.heap.size ≤ b ∧ w.heap.size ≤ L ∧ b ∉ B ∧
      GvAt w' b ⟨h, a, ep + 1, me, kt, id, 1, .slice none 0 0, 0⟩ ∧ w'.heap[L]? = some (.cells (encLx (ltr 10 me kt id a (ep + 1) (.slice none 0 0) 0)) 50 (0, 0)) ∧
      HoldI w' h { st with shut := true, a := a } [] B ∧ Turn B w w' B := by
  have hne2 : (kt == me) = false := by simpa using hne
  obtain ⟨tr, n, hh, ho⟩ := hh
  have HH := Lib.hid hh; have HO := Lib.hid ho
  have hepw : IntKind.i64.wrap (ep + 1) = ep + 1 := IntWalk.i64_in _ ⟨by have := hsm.1; omega, by omega⟩
  have HLT := Lib.hid hh.lts
  clear hh ho hne
  go_enter Tryz.func15, Tryz.ntmps15
  go_wp2_with fail
  refine (freeze_same (HH.out.mod ((Mod.refl NoB w).alloc _) (fun _ _ x => x)) hsm hs ha (HO.out.items (by simp)) (by simp)).mono ?_
  rintro e w1 (⟨hnc, _⟩ | ⟨_, v, rfl, hrow, hnew, hh1, ht1⟩)
  · exact absurd hcv hnc
  have e0 : (arcIts a ([] : List Itm)).take 200 = [] := by
    unfold arcIts
    simp
  rw [e0] at hrow
  obtain ⟨av, acap, rfl⟩ : ∃ o cap, v = .slice o 0 cap := (ownsRow_form hrow).elim (fun h => ⟨none, 0, by rw [h.1]⟩) (fun ⟨g, cap, h⟩ => ⟨_, cap, h⟩)
  have hNB : w.heap.size ∉ B := fun hb => by have := HLT.out _ hb; omega
  have bA := (ht1.1.block w.heap.size (by simp) hNB).trans (heap_alloc_new w (.cells #[.int .u64 a.f, .int .u64 a.t] 25))
  have htw : Turn B w w1 B := (Turn.of_no (A := B) ((Mod.refl NoB w).alloc (.cells #[.int .u64 a.f, .int .u64 a.t] 25))).trans ht1
  have HH1 := Lib.hid hh1; have HTW := Lib.hid htw; have HBA := Lib.hid bA
  obtain ⟨N0, hN0⟩ : ∃ N0, N0 = w.heap.size := ⟨_, rfl⟩
  have hN1 : N0 < w1.heap.size := by rw [hN0]; exact (Array.getElem?_eq_some_iff.1 bA).1
  rw [← hN0] at bA HBA hNB ⊢
  have HN0 := Lib.hid hN0
  have KEEP : Hid (∀ X, Mod NoB w1 X → (X.cell? ⟨N0, 0, none⟩ = some (.int .u64 a.f) ∧ X.cell? ⟨N0, 1, none⟩ = some (.int .u64 a.t))) := Lib.hid (fun X hm => ⟨hm.cellS (cell_of bA 0 rfl), hm.cellS (cell_of bA 1 rfl)⟩)
  clear bA htw hh1 ht1 hrow hnew hN0 e0
  go_wp2_with fail
  go_region_held3 (fun X => X.cell? ⟨N0, 0, none⟩ = some (.int .u64 a.f) ∧ X.cell? ⟨N0, 1, none⟩ = some (.int .u64 a.t)) (exact KEEP.out _ (by repeat (first | exact Mod.refl _ _ | refine Mod.alloc ?_ _ | refine Mod.drew ?_ | refine Mod.drewN ?_ _))) ((first | (go_at_call 50; refine (chunks_none _ av acap).mono ?_; rintro e w' ⟨rfl, rfl⟩)))
  obtain ⟨b, hb⟩ : ∃ b, b = w1.heap.size := ⟨_, rfl⟩
  obtain ⟨w2, hw2⟩ : ∃ w2, w2 = (w1.alloc (.cells #[.pointer (some ⟨h, 0, none⟩), .int .u64 a.f, .int .u64 a.t, .int .i64 (ep + 1), .int .i64 me, .int .i64 kt, .int .i64 id, .int .i64 1, .slice none 0 0, .int .i64 0] 110)).drew := ⟨_, rfl⟩
  have G2 : GvAt w2 b ⟨h, a, ep + 1, me, kt, id, 1, .slice none 0 0, 0⟩ := by rw [hw2, hb]; exact heap_alloc_new w1 _
  have hm12 : Mod NoB w1 w2 := by rw [hw2]; exact ((Mod.refl _ _).alloc _).drew
  rw [← hw2, ← hb]
  have hN0b : N0 < b := by rw [hb]; exact hN1
  have HB1 := Lib.hid hb; have HM12 := Lib.hid hm12; have HG2 := Lib.hid G2
  have hbw : w.heap.size ≤ b := by rw [hb]; exact HTW.out.1.size
  have HBW := Lib.hid hbw
  clear hw2 hb hm12 G2 hN1 hbw
  go_wp2_with fail
  refine (letter_op HG2.out 10).mono ?_
  rintro e w3 ⟨cs, rfl, hsz, hone, HCS, hm3⟩
  have hz : zLx.size = cs.size := by rw [hsz]; rfl
  have HST := st_fresh (P := Tryz.prog) w3 zLx cs 50 hz hone
  dsimp only [zLx] at HST
  have HM3 := Lib.hid (HM12.out.trans hm3); have HG3 := Lib.hid (HG2.out.mod hm3 (fun x => x)); have HSZ := Lib.hid hsz
  clear hm3 hz
  go_wp2_with fail
  clear HST
  obtain ⟨L, hL⟩ : ∃ L, L = w3.heap.size := ⟨_, rfl⟩
  obtain ⟨w4, hw4⟩ : ∃ w4, w4 = w3.alloc (.cells cs 50) := ⟨_, rfl⟩
  have b4 : w4.heap[L]? = some (.cells cs 50 (0, 0)) := by rw [hw4, hL]; exact heap_alloc_new w3 _
  have hm4 : Mod NoB w3 w4 := by rw [hw4]; exact (Mod.refl _ _).alloc _
  rw [← hw4, ← hL]
  have hbL : b < L := by rw [hL]; exact HG3.out.lt
  have hL4 : L < w4.heap.size := (Array.getElem?_eq_some_iff.1 b4).1
  have hm14 : Mod NoB w1 w4 := HM3.out.trans hm4
  have G4 : GvAt w4 b ⟨h, a, ep + 1, me, kt, id, 1, .slice none 0 0, 0⟩ := HG3.out.mod hm4 (fun x => x)
  have KEEP4 : Hid (∀ X, Mod (· = L) w4 X → (X.cell? ⟨N0, 0, none⟩ = some (.int .u64 a.f) ∧ X.cell? ⟨N0, 1, none⟩ = some (.int .u64 a.t) ∧ X.cell? ⟨b, 3, none⟩ = some (.int .i64 (ep + 1)))) := Lib.hid (fun X hm => by
    obtain ⟨k0, k1⟩ := KEEP.out _ hm14
    exact ⟨(hm.cell (p := ⟨N0, 0, none⟩) (by have := cell_lt' k0; exact this) (show ¬ N0 = L by omega)).trans k0, (hm.cell (p := ⟨N0, 1, none⟩) (by have := cell_lt' k1; exact this) (show ¬ N0 = L by omega)).trans k1, cell_of (G4.mod hm (show ¬ b = L by omega)) 3 rfl⟩)
  have f15 := frozen_of b4 15; have f16 := frozen_of b4 16; have f17 := frozen_of b4 17; have f19 := frozen_of b4 19
  have q15 : w4.cell? ⟨L, 15, none⟩ = some (.int .u64 0) := cell_of b4 15 (by rw [HCS.out]; rfl)
  have q16 : w4.cell? ⟨L, 16, none⟩ = some (.int .u64 0) := cell_of b4 16 (by rw [HCS.out]; rfl)
  have q17 : w4.cell? ⟨L, 17, none⟩ = some (.int .i64 0) := cell_of b4 17 (by rw [HCS.out]; rfl)
  have q19 : w4.cell? ⟨L, 19, none⟩ = some (.int .i64 0) := cell_of b4 19 (by rw [HCS.out]; rfl)
  have HM4 := Lib.hid hm4; have HM14 := Lib.hid hm14; have HG4 := Lib.hid G4; have HB4 := Lib.hid b4; have HLL := Lib.hid hL
  clear hm4 hm14 G4 b4 hL hw4 hone hsz
  go_region_held3 (fun X => X.cell? ⟨N0, 0, none⟩ = some (.int .u64 a.f) ∧ X.cell? ⟨N0, 1, none⟩ = some (.int .u64 a.t) ∧ X.cell? ⟨b, 3, none⟩ = some (.int .i64 (ep + 1))) (exact KEEP4.out _ (by repeat (first | exact Mod.refl _ _ | refine Mod.alloc ?_ _ | refine Mod.drew ?_ | refine Mod.setCell (S := (· = L)) ?_ (p := ⟨L, _, none⟩) (fun _ => rfl) _))) ((first | fail))
  have b5 : (((((w4.setCell ⟨L, 15, none⟩ (.int .u64 a.f)).setCell ⟨L, 16, none⟩ (.int .u64 a.t)).setCell ⟨L, 17, none⟩ (.int .i64 (ep + 1))).setCell ⟨L, 19, none⟩ (.int .i64 0)).drew).heap[L]? = some (.cells (encLx (ltr 10 me kt id a (ep + 1) (.slice none 0 0) 0)) 50 (0, 0)) := by
    have h1 := heap_set (heap_set (heap_set (heap_set HB4.out 15 (.int .u64 a.f)) 16 (.int .u64 a.t)) 17 (.int .i64 (ep + 1))) 19 (.int .i64 0)
    rw [HCS.out] at h1
    exact h1
  have m5 : Mod (· = L) w4 (((((w4.setCell ⟨L, 15, none⟩ (.int .u64 a.f)).setCell ⟨L, 16, none⟩ (.int .u64 a.t)).setCell ⟨L, 17, none⟩ (.int .i64 (ep + 1))).setCell ⟨L, 19, none⟩ (.int .i64 0)).drew) := (by repeat (first | exact Mod.refl _ _ | refine Mod.alloc ?_ _ | refine Mod.drew ?_ | refine Mod.setCell (S := (· = L)) ?_ (p := ⟨L, _, none⟩) (fun _ => rfl) _))
  generalize ((((w4.setCell ⟨L, 15, none⟩ (.int .u64 a.f)).setCell ⟨L, 16, none⟩ (.int .u64 a.t)).setCell ⟨L, 17, none⟩ (.int .i64 (ep + 1))).setCell ⟨L, 19, none⟩ (.int .i64 0)).drew = w5 at *
  obtain ⟨c5, hc5⟩ : ∃ c5, c5 = encLx (ltr 10 me kt id a (ep + 1) (.slice none 0 0) 0) := ⟨_, rfl⟩
  rw [← hc5] at b5
  have hs5 : c5.size = 21 := by rw [hc5]; rfl
  have hbs := bsL_run hs5
  have KEEP5 : Hid (∀ X, Mod NoB w5 X → (ldL (.pointer (some ⟨L, 0, none⟩))).run Tryz.prog X = .ok (.agg c5) X) := Lib.hid (fun X hm => ldL_run ((hm.block L (Array.getElem?_eq_some_iff.1 b5).1 (fun x => x)).trans b5) hs5)
  have HC5 := Lib.hid hc5; have HB5 := Lib.hid b5; have HM5 := Lib.hid m5
  clear b5 m5 hc5 hs5 f15 f16 f17 f19 q15 q16 q17 q19 KEEP4
  go_wp2_with fail
  go_region_held3 (fun X => (ldL (.pointer (some ⟨L, 0, none⟩))).run Tryz.prog X = .ok (.agg c5) X) (exact KEEP5.out _ (by repeat (first | exact Mod.refl _ _ | refine Mod.alloc ?_ _ | refine Mod.drew ?_ | refine Mod.drewN ?_ _))) ((first | fail))
  all_goals
    go_wp2_with fail
    have hw15 : Mod NoB w1 w5 := HM14.out.then HM5.out (fun k hk e => by have e2 : k = L := e; have := HLL.out; have := HM3.out.size; omega)
    refine bodyPost_ret (v := .tuple #[.pointer (some ⟨b, 0, none⟩), .slice (some ⟨w5.heap.size, 0, none⟩) 1 1, .int .i64 0]) (by simp [results, Tryz.results15, go_sem]) rfl ?_
    have hm56 : Mod NoB w5 ((w5.alloc (.cells c5 50)).drew) := ((Mod.refl _ _).alloc _).drew
    have hH5 : HoldAt w5 h { st with shut := true, a := a } tr n B := HH1.out.mod hw15 (fun _ _ x => x)
    have hbn : b ∉ B := fun hb2 => by have := HLT.out b hb2; have := HBW.out; omega
    refine ⟨b, w5.heap.size, rfl, HBW.out, ?_, hbn, (HG4.out.mod HM5.out (show ¬ b = L by omega)).mod hm56 (fun x => x), ?_, ⟨tr, n, hH5.mod hm56 (fun _ _ x => x), HO.out⟩, ?_⟩
    · exact Nat.le_trans HTW.out.1.size hw15.size
    · rw [← HC5.out]; exact heap_alloc_new w5 _
    · exact (HTW.out.trans (Turn.of_no hw15)).trans (Turn.of_no hm56)
end Go.Proofs.YtpcmbnbdppembaaGreatDoor

/- rosarylaw15.Loaded with nothing to put in. -/
namespace Go.Proofs.YtpcmbnbdppembaaGreatDoor
set_option linter.unusedSimpArgs false
set_option linter.unusedVariables false
open Go.RowKit Go.Shelf
attribute [local go_sem ↓] Go.wp_at_zero Go.wp_at_succ

def stL (node : Int) (a : Arc) (ep : Int) : HSt := ownSt ⟨node, 200, 0, [], false, ⟨0, 0⟩, []⟩ a ep

set_option maxRecDepth 100000 in
set_option maxHeartbeats 16000000 in
theorem loaded_nil (node : Int) (a : Arc) (ep : Int) (hep : 0 ≤ ep) (av : Option Addr) (cap : Nat) (w : World) : Calls Tryz.prog 13 #[.int .i64 node, .agg #[.int .u64 a.f, .int .u64 a.t], .int .i64 ep, .slice av 0 cap] w fun e w' =>
    ∃ h r B, e = .returned (.tuple #[.pointer (some ⟨h, 0, none⟩), .pointer (some ⟨r, 0, none⟩)]) ∧ NewI w w' h (stL node a ep) [] B := by
  go_enter Tryz.func13, Tryz.ntmps13
  go_wp2_with fail
  refine (new_any node 200 _ (by decide) (by decide)).mono ?_
  rintro e w1 ⟨h, B, rfl, q1, q2, q3⟩
  have hm1 := ((Mod.refl NoB w).alloc (.cells #[.int .u64 a.f, .int .u64 a.t] 25)).trans q2
  have bA1 := (q2.block w.heap.size (by simp) (fun x => x)).trans (heap_alloc_new w (.cells #[.int .u64 a.f, .int .u64 a.t] 25))
  have q3' : ∀ k ∈ B, w.heap.size + 1 ≤ k := fun k hk => by have := q3 k hk; simpa using this
  have hq1lt := q1.lts
  have N1 : Hid (NewI w w1 h ⟨node, 200, 0, [], false, ⟨0, 0⟩, []⟩ [] B) := Lib.hid ⟨⟨none, 0, q1, ShOK.start⟩, hm1, fun k hk => by have := q3' k hk; omega⟩
  have HBA := Lib.hid bA1; have HQ1 := Lib.hid q1; have HQ3 := Lib.hid q3'; have HLT1 := Lib.hid hq1lt
  clear q1 q2 q3 q3' hm1 bA1 hq1lt
  go_wp2_with fail
  refine (holds_any node 200 _ (by decide) (by decide)).mono ?_
  rintro e w2 ⟨r, rfl, hr1, hr2, hm2⟩
  have a0 := hm2.cellS (cell_of HBA.out 0 (v := .int .u64 a.f) rfl)
  have a1 := hm2.cellS (cell_of HBA.out 1 (v := .int .u64 a.t) rfl)
  have HR1 := Lib.hid hr1; have HR2 := Lib.hid hr2; have HM2 := Lib.hid hm2
  have N2 : Hid (NewI w w2 h ⟨node, 200, 0, [], false, ⟨0, 0⟩, []⟩ [] B) := Lib.hid (N1.out.quiet hm2)
  have HQ2 := Lib.hid (HQ1.out.mod hm2 (fun _ _ x => x))
  clear hr1 hr2 hm2
  go_wp2_with fail
  refine (own_any HQ2.out a ep (by simp)).mono ?_
  rintro e w3 ⟨rfl, B3, hh3, ht3⟩
  rw [may_none hep rfl] at hh3 ⊢
  rw [if_pos rfl] at hh3
  have N3 : Hid (NewI w w3 h (stL node a ep) [] B3) := Lib.hid (N2.out.turn ⟨none, 0, hh3, ShOK.start⟩ ht3)
  have hrB : r ∉ B := fun hb => by have := HLT1.out r hb; have := HR1.out; omega
  have hrl : r < w2.heap.size := (Array.getElem?_eq_some_iff.1 HR2.out).1
  have hr3 := (ht3.1.block r hrl hrB).trans HR2.out
  have hAB : w.heap.size ∉ B := fun hb => by have := HQ3.out _ hb; omega
  have bA3 := (ht3.1.block w.heap.size (by have := cell_lt' a0; exact this) hAB).trans ((HM2.out.block w.heap.size (Array.getElem?_eq_some_iff.1 HBA.out).1 (fun x => x)).trans HBA.out)
  have a0 := cell_of bA3 0 (v := .int .u64 a.f) rfl
  have a1 := cell_of bA3 1 (v := .int .u64 a.t) rfl
  have hrB3 : r ∉ B3 := fun hb => (ht3.2 r hb).elim hrB (fun h => by omega)
  have HR3 := Lib.hid hr3; have HRB3 := Lib.hid hrB3; have HRL : Hid (w.heap.size ≤ r) := Lib.hid (Nat.le_trans N1.out.2.1.size HR1.out)
  clear hh3 ht3 hr3 hrB hrl hAB bA3 hrB3
  go_wp2_with fail
  refine (rown_none HR3.out a ep hep).mono ?_
  rintro e w4 ⟨rfl, hm4⟩
  have N4 : Hid (NewI w w4 h (stL node a ep) [] B3) := Lib.hid ⟨N3.out.1.mod hm4 (fun k hk e => HRB3.out (by have e2 : k = r := e; rw [← e2]; exact hk)), N3.out.2.1.then hm4 (fun k hk e => by have e2 : k = r := e; have := HRL.out; omega), N3.out.2.2⟩
  clear hm4 a0 a1
  go_wp2_with fail
  go_loopw [12] (fun i wr => i = .int .i64 0 ∧ wr = w4) (fun _ _ => 0)
  case atStart => exact ⟨rfl, rfl⟩
  case round =>
    obtain ⟨rfl, rfl⟩ := hrel
    go_wp2_with fail
    refine bodyPost_ret (v := .tuple #[.pointer (some ⟨h, 0, none⟩), .pointer (some ⟨r, 0, none⟩)]) (by simp [results, Tryz.results13, go_sem]) rfl ?_
    exact ⟨h, r, B3, rfl, N4.out⟩
end Go.Proofs.YtpcmbnbdppembaaGreatDoor

/- rosarylaw15.alive. -/
namespace Go.Proofs.YtpcmbnbdppembaaGreatDoor
set_option linter.unusedSimpArgs false
set_option linter.unusedVariables false
open Go.RowKit Go.Shelf
attribute [local go_sem ↓] Go.wp_at_zero Go.wp_at_succ

theorem stL_own (node : Int) (a : Arc) (ep : Int) : (stL node a ep).own = (piecesA a).map (fun p => ⟨p.f, p.t, node, ep⟩) := by
  simp [stL, ownSt]
theorem stL_same (node : Int) {a : Arc} (ha : a.ok) {ep : Int} (hep : 0 ≤ ep) : (stL node a ep).same ep := by
  refine ⟨hep, fun o ho => ?_⟩
  rw [stL_own] at ho
  obtain ⟨p, hp, rfl⟩ := List.mem_map.1 ho
  obtain ⟨⟨h1, h2⟩, h3⟩ := piecesA_ok ha p hp
  exact ⟨h1, h2, h3, rfl⟩
/-- what is owned of one arc -/
theorem stL_at (node : Int) {a : Arc} (ha : a.ok) (ep : Int) {x : Int} (hx : Pt64 x) : ((stL node a ep).at x).isSome = inA a x := by
  have := at_own (st := ⟨node, 200, 0, [], false, ⟨0, 0⟩, []⟩) ha (ep := ep) hx
  simpa [stL, HSt.at] using this
theorem stL_cov (node : Int) {own a : Arc} (ho : own.ok) (ha : a.ok) (ep : Int) : (stL node own ep).covA a ↔ ∀ x, Pt64 x → inA a x = true → inA own x = true := by
  constructor
  · intro h x hx hin
    rw [← pieces_in ha hx, List.any_eq_true] at hin
    obtain ⟨p, hp, hpx⟩ := hin
    rw [← stL_at node ho ep hx]
    exact h p hp x hx hpx
  · intro h p hp x hx hpx
    rw [stL_at node ho ep hx]
    exact h x hx (by rw [← pieces_in ha hx, List.any_eq_true]; exact ⟨p, hp, hpx⟩)

set_option maxRecDepth 100000 in
set_option maxHeartbeats 16000000 in
theorem alive15 (w : World) : Calls Tryz.prog 12 #[] w fun e w' => e = .returned (.bool true) ∧ Mod NoB w w' := by
  have ok0 : (⟨0, 0⟩ : Arc).ok := ⟨⟨by decide, by decide⟩, ⟨by decide, by decide⟩⟩
  have hcov : (stL 1 ⟨0, 0⟩ 0).covA ⟨0, 0⟩ := (stL_cov 1 ok0 ok0 0).2 (fun x _ h => h)
  have hsm := stL_same 1 ok0 (Int.le_refl 0)
  have HCV := Lib.hid hcov; have HSM := Lib.hid hsm; have OK0 := Lib.hid ok0
  clear hcov hsm ok0
  go_enter Tryz.func12, Tryz.ntmps12
  go_wp2_with fail
  refine (loaded_nil 1 ⟨0, 0⟩ 0 (Int.le_refl 0) none 0 _).mono ?_
  rintro e w1 ⟨h, r, B, rfl, hn1⟩
  have N1 := Lib.hid hn1
  clear hn1
  go_wp2_with fail
  refine (start_none N1.out.1 ⟨0, 0⟩ OK0.out 1 2 5 (by decide) rfl HSM.out (by decide) HCV.out).mono ?_
  rintro e w2 ⟨b, L, rfl, hb1, hL1, hbB, hg2, hl2, hh2, ht2⟩
  have y0 := cell_of hl2 0 (v := .int .i64 10) rfl
  have y17 := cell_of hl2 17 (v := .int .i64 1) rfl
  have N2 : Hid (NewI w w2 h { stL 1 ⟨0, 0⟩ 0 with shut := true, a := ⟨0, 0⟩ } [] B) := Lib.hid (N1.out.turn hh2 ht2)
  have HG2 := Lib.hid hg2; have HBB := Lib.hid hbB; have HB1 := Lib.hid (Nat.le_trans N1.out.2.1.size hb1)
  clear hb1 hL1 hbB hg2 hl2 hh2 ht2
  go_wp2_with fail
  refine (got_accept_none (cx := encLx (ltr 11 2 1 5 ⟨0, 0⟩ 0 (.slice none 0 0) 1)) HG2.out rfl rfl rfl rfl rfl rfl rfl).mono ?_
  rintro e w3 ⟨L2, rfl, hL2, hl3, hg3, hm3⟩
  have N3 : Hid (NewI w w3 h { stL 1 ⟨0, 0⟩ 0 with shut := true, a := ⟨0, 0⟩ } [] B) := Lib.hid ⟨N2.out.1.mod hm3 (fun k hk e => HBB.out (by have e2 : k = b := e; rw [← e2]; exact hk)), N2.out.2.1.then hm3 (fun k hk e => by have e2 : k = b := e; have := HB1.out; omega), N2.out.2.2⟩
  have HL2 := Lib.hid hL2; have HL3 := Lib.hid hl3; have HG3 := Lib.hid hg3
  have HBL : Hid (b < w2.heap.size) := Lib.hid HG2.out.lt
  have HLT2 := Lib.hid N2.out.1.lts
  clear hL2 hl3 hg3 hm3 y0 y17
  go_wp2_with fail
  refine (got_done (cx := encLx (ltr 15 2 1 5 ⟨0, 0⟩ 0 (.slice none 0 0) 0)) HG3.out rfl N3.out.1 HBB.out rfl OK0.out (by simp) (by decide) (by decide) rfl rfl rfl).mono ?_
  rintro e w4 ⟨rfl, hg4, B4, hh4, ht4⟩
  have hL2n : L2 ∉ b :: B := fun hb => by
    have h1 := HL2.out
    rcases List.mem_cons.1 hb with e | hb
    · have := HBL.out; omega
    · have := HLT2.out L2 hb; omega
  have hl4 := (ht4.1.block L2 (Array.getElem?_eq_some_iff.1 HL3.out).1 hL2n).trans HL3.out
  have y0 := cell_of hl4 0 (v := .int .i64 14) rfl
  have HM4 : Hid (Mod NoB w w4) := Lib.hid (N3.out.2.1.then ht4.1 (fun k hk hb => by
    rcases List.mem_cons.1 hb with e | hb
    · have := HB1.out; omega
    · have := N3.out.2.2 k hb; omega))
  have HG4 := Lib.hid hg4
  obtain ⟨tr4, n4, hh4a, hh4b⟩ := hh4
  have HH4 := Lib.hid hh4a
  have HAT : Hid ((({ ({ stL 1 ⟨0, 0⟩ 0 with shut := true, a := ⟨0, 0⟩ } : HSt) with own := lostTo (stL 1 ⟨0, 0⟩ 0).own (piecesA ⟨0, 0⟩), shut := false, a := ⟨0, 0⟩, pts := (stL 1 ⟨0, 0⟩ 0).pts ++ [⟨0, 0, 2, 0⟩] } : HSt).at 7).isSome = false) := Lib.hid rfl
  clear hg4 hh4a hh4b ht4 hl4 hL2n
  go_wp2_with fail
  refine (gstep_any HG4.out).mono ?_
  rintro e w5 ⟨rfl, rfl⟩
  go_wp2_with fail
  refine (hasH_any HH4.out 7).mono ?_
  rintro e w6 ⟨rfl, hm6⟩
  have HM6 := Lib.hid (HM4.out.trans hm6)
  clear hm6
  rw [HAT.out]
  go_wp2_with fail
  go_ret
  exact ⟨rfl, HM6.out⟩
end Go.Proofs.YtpcmbnbdppembaaGreatDoor

/- GiveOnce: the walk. -/
namespace Go.Proofs.YtpcmbnbdppembaaGreatDoor
set_option linter.unusedSimpArgs false
set_option linter.unusedVariables false
open Go.RowKit Go.Shelf
attribute [local go_sem ↓] Go.wp_at_zero Go.wp_at_succ

theorem NewI.mod_of {w W : World} {h : Nat} {st : HSt} {xs : List Itm} {B : List Nat} (hn : NewI w W h st xs B) : Mod NoB w W := hn.2.1

set_option maxRecDepth 100000 in
set_option maxHeartbeats 16000000 in
theorem once_walk {own a b : Arc} (ho : own.ok) (ha : a.ok) (hb : b.ok) (kt : Int) (w : World) :
    Calls Tryz.prog 5 #[.agg #[.int .u64 own.f, .int .u64 own.t], .agg #[.int .u64 a.f, .int .u64 a.t], .agg #[.int .u64 b.f, .int .u64 b.t], .int .i64 kt] w fun e w' => e = .returned (.bool true) ∧ Mod NoB w w' := by
  have HO := Lib.hid ho; have HA := Lib.hid ha
  clear ho ha hb
  go_enter Tryz.func5, Tryz.ntmps5
  go_wp2_with fail
  obtain ⟨N0, hN0⟩ : ∃ N0, N0 = w.heap.size := ⟨_, rfl⟩
  obtain ⟨w0, hw0⟩ : ∃ w0, w0 = ((w.alloc (.cells #[.int .u64 own.f, .int .u64 own.t] 25)).alloc (.cells #[.int .u64 a.f, .int .u64 a.t] 25)).alloc (.cells #[.int .u64 b.f, .int .u64 b.t] 25) := ⟨_, rfl⟩
  have hm0 : Mod NoB w w0 := by rw [hw0]; exact (((Mod.refl _ _).alloc _).alloc _).alloc _
  have bO : w0.heap[N0]? = some (.cells #[.int .u64 own.f, .int .u64 own.t] 25 (0, 0)) := by
    rw [hw0, hN0, Below.heap_alloc _ _ _ (by simp; omega), Below.heap_alloc _ _ _ (by simp)]; exact heap_alloc_new w _
  have bA : w0.heap[N0 + 1]? = some (.cells #[.int .u64 a.f, .int .u64 a.t] 25 (0, 0)) := by
    rw [hw0, hN0, Below.heap_alloc _ _ _ (by simp)]; exact heap_two _ _ _
  have bB : w0.heap[N0 + 1 + 1]? = some (.cells #[.int .u64 b.f, .int .u64 b.t] 25 (0, 0)) := by
    rw [hw0, hN0]
    have := heap_two (w.alloc (.cells #[.int .u64 own.f, .int .u64 own.t] 25)) (.cells #[.int .u64 a.f, .int .u64 a.t] 25) (.cells #[.int .u64 b.f, .int .u64 b.t] 25)
    rwa [World.size_alloc] at this
  rw [← hw0, ← hN0]
  have KEEP : Hid (∀ W, Mod NoB w0 W → (W.cell? ⟨N0, 0, none⟩ = some (.int .u64 own.f) ∧ W.cell? ⟨N0, 1, none⟩ = some (.int .u64 own.t) ∧ W.cell? ⟨N0 + 1, 0, none⟩ = some (.int .u64 a.f) ∧ W.cell? ⟨N0 + 1, 1, none⟩ = some (.int .u64 a.t) ∧ W.cell? ⟨N0 + 1 + 1, 0, none⟩ = some (.int .u64 b.f) ∧ W.cell? ⟨N0 + 1 + 1, 1, none⟩ = some (.int .u64 b.t))) :=
    Lib.hid (fun W hm => ⟨hm.cellS (cell_of bO 0 rfl), hm.cellS (cell_of bO 1 rfl), hm.cellS (cell_of bA 0 rfl), hm.cellS (cell_of bA 1 rfl), hm.cellS (cell_of bB 0 rfl), hm.cellS (cell_of bB 1 rfl)⟩)
  have HM0 := Lib.hid hm0
  clear hw0 hN0 bO bA bB hm0
  go_wp2_with fail
  refine (alive15 _).mono ?_
  rintro e w1 ⟨rfl, hm1⟩
  obtain ⟨k0, k1, k2, k3, k4, k5⟩ := KEEP.out _ hm1
  have M1 := Lib.hid hm1
  clear hm1
  go_wp2_with fail
  refine (loaded_nil 1 own 0 (Int.le_refl 0) none 0 _).mono ?_
  rintro e w2 ⟨h, r, B, rfl, hn2⟩
  have hm2 := M1.out.trans hn2.2.1
  clear k0 k1 k2 k3 k4 k5
  obtain ⟨k0, k1, k2, k3, k4, k5⟩ := KEEP.out _ hm2
  have N2 := Lib.hid hn2; have M2 := Lib.hid hm2
  clear hm2 hn2
  go_wp2_with fail
  refine (start_self _ h a 1 3).mono ?_
  rintro e w3 ⟨rfl, hm3⟩
  have hmm3 := M2.out.trans hm3
  clear k0 k1 k2 k3 k4 k5
  obtain ⟨k0, k1, k2, k3, k4, k5⟩ := KEEP.out _ hmm3
  have N3 := Lib.hid (N2.out.quiet hm3); have M3 := Lib.hid hmm3
  clear hm3 hmm3
  go_wp2_with fail
  cases hin : withinA own a with
  | false =>
    have hnc : ¬ (stL 1 own 0).covA a := fun hc => by
      have := (within_iff HO.out HA.out).2 ((stL_cov 1 HO.out HA.out 0).1 hc)
      rw [hin] at this
      cases this
    obtain ⟨tr, n, hh, hsh⟩ := N3.out.1
    refine (start_err hh a 1 2 3 (by decide) (er := 1) (by decide) (fun w' hm' => (freeze_same (hh.mod hm' (fun _ _ x => x)) (stL_same 1 HO.out (Int.le_refl 0)) rfl HA.out (hsh.items (by simp)) (by simp)).mono (by
      rintro e w'' (⟨_, he, hm⟩ | ⟨hc, _⟩)
      · exact ⟨he, hm⟩
      · exact absurd hc hnc))).mono ?_
    rintro e w4 ⟨rfl, hm4⟩
    have hmm4 := M3.out.trans hm4
    clear k0 k1 k2 k3 k4 k5
    obtain ⟨k0, k1, k2, k3, k4, k5⟩ := KEEP.out _ hmm4
    have M4 := Lib.hid hmm4
    clear hm4 hmm4 hh hsh hnc
    go_wp2_with fail
    refine (within_any own a _).mono ?_
    rintro e w5 ⟨rfl, hm5⟩
    rw [hin]
    have M5 := Lib.hid (M4.out.trans hm5)
    clear hm5
    go_wp2_with fail
    go_ret
    exact ⟨rfl, HM0.out.trans M5.out⟩
  | true =>
    have hcv : (stL 1 own 0).covA a := (stL_cov 1 HO.out HA.out 0).2 ((within_iff HO.out HA.out).1 hin)
    refine (start_none N3.out.1 a HA.out 1 2 3 (by decide) rfl (stL_same 1 HO.out (Int.le_refl 0)) (by decide) hcv).mono ?_
    rintro e w4 ⟨gb, L, rfl, hb1, hL1, hbB, hg4, hl4, hh4, ht4⟩
    have N4 : Hid (NewI w1 w4 h { stL 1 own 0 with shut := true, a := a } [] B) := Lib.hid (N3.out.turn hh4 ht4)
    have hmm4 := M1.out.trans N4.out.2.1
    clear k0 k1 k2 k3 k4 k5
    obtain ⟨k0, k1, k2, k3, k4, k5⟩ := KEEP.out _ hmm4
    have M4 := Lib.hid hmm4; have HL4 := Lib.hid hl4
    clear hmm4 hb1 hL1 hbB hg4 hl4 hh4 ht4 hcv
    go_wp2_with fail
    refine (within_any own a _).mono ?_
    rintro e w5 ⟨rfl, hm5⟩
    rw [hin]
    have hmm5 := M4.out.trans hm5
    clear k0 k1 k2 k3 k4 k5
    obtain ⟨k0, k1, k2, k3, k4, k5⟩ := KEEP.out _ hmm5
    have M5 := Lib.hid hmm5
    have HL5 := Lib.hid ((hm5.block L (Array.getElem?_eq_some_iff.1 HL4.out).1 (fun x => x)).trans HL4.out)
    have N5 := Lib.hid (N4.out.quiet hm5)
    clear hm5 hmm5
    go_wp2_with fail
    obtain ⟨tr, n, hh, hsh⟩ := N5.out.1
    refine (start_err hh b 1 3 4 (by decide) (er := 7) (by decide) (fun w' hm' => freeze_busy (hh.mod hm' (fun _ _ x => x)) rfl b)).mono ?_
    rintro e w6 ⟨rfl, hm6⟩
    have hmm6 := M5.out.trans hm6
    clear k0 k1 k2 k3 k4 k5
    obtain ⟨k0, k1, k2, k3, k4, k5⟩ := KEEP.out _ hmm6
    have M6 := Lib.hid hmm6
    have hl6 := (hm6.block L (Array.getElem?_eq_some_iff.1 HL5.out).1 (fun x => x)).trans HL5.out
    have y1 := cell_of hl6 1 (v := .int .i64 1) rfl
    have y2 := cell_of hl6 2 (v := .int .i64 2) rfl
    have y3 := cell_of hl6 3 (v := .int .i64 3) rfl
    have y15 := cell_of hl6 15 (v := .int .u64 a.f) rfl
    have y16 := cell_of hl6 16 (v := .int .u64 a.t) rfl
    have y19 := cell_of hl6 19 (v := .int .i64 0) rfl
    clear hm6 hmm6 hh hsh hl6
    go_wp2_with fail
    go_quiet (fail)
    go_wp2_with fail
    go_ret
    exact ⟨rfl, HM0.out.trans (M6.out.trans (by repeat (first | exact Mod.refl _ _ | refine Mod.alloc ?_ _ | refine Mod.drew ?_ | refine Mod.drewN ?_ _)))⟩
end Go.Proofs.YtpcmbnbdppembaaGreatDoor

namespace Go.Proofs.YtpcmbnbdppembaaGreatDoor
set_option linter.unusedSimpArgs false
set_option linter.unusedVariables false
open Go.ChangeShapes Go.WideShapes Go.ChangeAt Go.RowKit Go.Proofs

set_option maxRecDepth 100000 in
theorem giveOnce_lifted (os : Os) (started : os.Started) (H : Type) (enc : TypeId × Value → H) :
    ReturnsInHanded {} Tryz.checked os 5 .any (fun w args => (Rows.giveOnceSpec.pre enc Tryz.prog Tryz.f5 Rows.giveOnceRow.domain false w args ∧ laidMetH Tryz.prog Rows.giveOnceRow.laid w) ∧ sizedMet enc Tryz.prog Tryz.f5 (OpenSpec.ofChange Rows.giveOnceSpec) false w args)
      (Rows.giveOnceSpec.post enc Tryz.prog Tryz.f5 false true false false) := by
  refine returnsInHanded_of_change_and (C := Tryz.checked) (X := fun w _ => laidMetH Tryz.prog Rows.giveOnceRow.laid w) (fun _ _ _ hh h => h.of_heap hh) progOwn started (by kernel_rfl) Tryz.func5
    (ChangeSpec.witness_shaped (enc := enc) (C := Tryz.checked) (os := os) (X := fun w _ => laidMetH Tryz.prog Rows.giveOnceRow.laid w) false (World.laidAll Tryz.prog os Rows.giveOnceRow.laid) #[.agg #[.int .u64 0, .int .u64 0], .agg #[.int .u64 0, .int .u64 0], .agg #[.int .u64 0, .int .u64 0], .int .i64 0] 8 (World.laidAll_os _ _ _)
      (World.shaped_of_ZipB (by kernel_rfl) (by kernel_rfl)) (by kernel_rfl) (by kernel_rfl) (by kernel_rfl)
      (by rw [MakeChecks.laidMetH_plain _ _ _ (by kernel_rfl)]; exact laidMet_laidAll _ (by kernel_rfl) (by kernel_rfl))) ?_
  intro W base args ds gs before hval hW _ _ _ _
  refine law_post (P := Tryz.prog) (B := 4) (fun ds h => ?_) rfl rfl (by kernel_rfl) (by kernel_rfl) progLaid hW ?_
  · match ds, h with
    | [_, _, _, _], _ => rfl
  · obtain ⟨p, q, hA, _⟩ := hW
    have hR := rdAll_of_trod (P := Tryz.prog) [arcShp, arcShp, arcShp, .i .i64] (by kernel_rfl) rfl (fun j t v h1 h2 => hval j t v (by simpa using h1) (by simpa using h2)) hA
    obtain ⟨l⟩ := args
    obtain ⟨v0, vs, rfl, h0, hR⟩ := hR
    obtain ⟨v1, vs, rfl, h1, hR⟩ := hR
    obtain ⟨v2, vs, rfl, h2, hR⟩ := hR
    obtain ⟨v3, vs, rfl, h3, hR⟩ := hR
    obtain rfl := hR
    obtain ⟨own, rfl, ho⟩ := rd_arc h0
    obtain ⟨a, rfl, ha⟩ := rd_arc h1
    obtain ⟨b, rfl, hb⟩ := rd_arc h2
    obtain ⟨kt, rfl, _⟩ := rd_int h3
    exact (once_walk ho ha hb kt _).mono fun _ _ ⟨he, hm⟩ => ⟨he, hm.below_self⟩

theorem giveOnce_over : Rows.giveOnceRow.holds Tryz.pinned (OpenSpec.ofChange Rows.giveOnceSpec) :=
  OpenClaim.holds_of_wide 5 Tryz.f5 rfl rfl rfl rfl rfl rfl rfl ⟨rfl, rfl, rfl, rfl, rfl⟩ rfl rfl rfl rfl rfl (by kernel_rfl) Tryz.func5 (by kernel_rfl)
    (of_decide_eq_true (by kernel_rfl)) (by unfold Func.isWrapper; first | (rw [if_pos (by decide +kernel)]; kernel_rfl) | (rw [if_neg (by decide +kernel)]; exact ⟨rfl, rfl⟩))
    (fun os started H enc _ => giveOnce_lifted os started H enc)

theorem giveOnce_proved : Rows.GiveOnceSaid := giveOnce_over

theorem giveOnce_card : Rows.GiveOnceCardSaid :=
  Claim7.holds_tied_plain_at .later [] [.data, .pinned] true (true, "55bc1f42cbf7f82f0173af94658014485367f3bbd8fc65ed5667143bf4673f97") false
    giveOnce_over (fun _ h => by cases h) (by kernel_rfl) (fun _ h => by cases h) giveOnce_row_tie rfl ⟨rfl, rfl⟩ (by kernel_rfl) rfl
    (fun f fn hf hfn => by
      obtain rfl : f = 5 := Option.some.inj ((show Tryz.prog.funcNamed "rosary/rosarylaw15.GiveOnce" = some 5 by kernel_rfl).symm.trans hf) |>.symm
      obtain rfl : fn = Tryz.f5 := (Option.some.inj (Tryz.func5.symm.trans hfn)).symm
      exact ⟨by kernel_rfl, fun j t ht => by
        have hall : (Tryz.f5.params.toList.all fun t => Tryz.prog.wantsStandIn t == false) = true := by kernel_rfl
        have hm := Array.mem_of_getElem? ht
        exact beq_iff_eq.1 (List.all_eq_true.1 hall t (by simpa using hm))⟩)
    (by kernel_rfl)
end Go.Proofs.YtpcmbnbdppembaaGreatDoor
