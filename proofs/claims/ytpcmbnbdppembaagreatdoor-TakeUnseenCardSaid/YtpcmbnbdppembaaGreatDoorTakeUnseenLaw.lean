/- TakeUnseen: the law and its card; for every input; no condition. -/
import Derived.Test.YtpcmbnbdppembaaGreatDoorProg
import Derived.Test.YtpcmbnbdppembaaGreatDoorChecked
import Derived.WalkKit
import Derived.ProofKit
import Derived.OpenShut
import Derived.ShutString
import Derived.ChangeOld
import Derived.Below
import Derived.Deep.Slices
import Derived.Deep.Fields
import Derived.ChangeSame
import Derived.StringKeys
import Derived.Test.YtpcmbnbdppembaaGreatDoorSeqRows
import Derived.Test.YtpcmbnbdppembaaGreatDoorArcPlain
import Derived.Test.YtpcmbnbdppembaaGreatDoorViewNone
import Derived.StillTailTactics
import Derived.Deep.WholeRow
import Derived.Test.YtpcmbnbdppembaaGreatDoorHoldOwn
import Derived.Test.YtpcmbnbdppembaaGreatDoorHoldI
import Derived.Test.YtpcmbnbdppembaaGreatDoorEpoch
import Derived.Test.YtpcmbnbdppembaaGreatDoorHoldNew
import Derived.Deep.RegionHeld3
import Derived.Deep.QuietTactic
import Derived.BigQuiet
import Derived.Test.YtpcmbnbdppembaaGreatDoorHoldArcs
import Derived.Test.YtpcmbnbdppembaaGreatDoorHoldMay
import Derived.Test.YtpcmbnbdppembaaGreatDoorViewArcsWalk
import Derived.Test.YtpcmbnbdppembaaGreatDoorHoldWin
import Derived.Test.YtpcmbnbdppembaaGreatDoorKey
import Derived.Test.YtpcmbnbdppembaaGreatDoorViewLearn
import Derived.Test.YtpcmbnbdppembaaGreatDoorViewArcs
import Derived.Test.YtpcmbnbdppembaaGreatDoorRows
import Derived.Test.YtpcmbnbdppembaaGreatDoorTie
import Derived.Test.YtpcmbnbdppembaaGreatDoorCards
import Derived.LaidMore
import Derived.Lay
import Derived.SevenTiedAt
import Derived.Stop.Joined
/- The frame of a law: from 'the call returns true and turns nothing that lay there' to the given statement; and what an argument that can be read looks like in memory, by its shape. -/
namespace Go.Proofs.YtpcmbnbdppembaaGreatDoor
set_option linter.unusedSimpArgs false
set_option linter.unusedVariables false
open Go.ChangeShapes Go.WideShapes Go.ChangeAt Go.RowKit Go.Deep

/-- the shape of a type that is plain data -/
inductive Shp where
  | i (k : IntKind)
  | b
  | s
  | sl (e : Shp)
  | st (l : List Shp)

mutual
def Shp.n : Shp → Nat
  | .i _ => 1
  | .b => 1
  | .s => 1
  | .sl _ => 1
  | .st l => Shp.ns l
def Shp.ns : List Shp → Nat
  | [] => 0
  | x :: r => x.n + Shp.ns r
end

mutual
/-- cells 'cs' are a value of the shape in world w -/
def Rd (w : World) : Shp → List Value → Prop
  | .i k, cs => ∃ n, cs = [.int k n] ∧ (Lit.int k n).wf = true
  | .b, cs => ∃ x, cs = [.bool x]
  | .s, cs => ∃ x : ByteArray, cs = [.string x] ∧ x.size ≤ maxLen
  | .sl e, cs => cs = [.slice none 0 0] ∨ ∃ a len cap, cs = [.slice (some a) len cap] ∧ len ≤ cap ∧ cap ≤ maxLen ∧
      ∀ i, i < len → ∃ cs', cs'.length = e.n ∧ (∀ j, j < e.n → w.cell? (a.add (i * e.n + j)) = cs'[j]?) ∧ Rd w e cs'
  | .st l, cs => Rds w l cs
def Rds (w : World) : List Shp → List Value → Prop
  | [], cs => cs = []
  | x :: r, cs => ∃ c1 c2, cs = c1 ++ c2 ∧ c1.length = x.n ∧ Rd w x c1 ∧ Rds w r c2
end

mutual
def fitB (P : Program) : Shp → TypeId → Bool
  | .i k, t => match P.underlying t with | some (.int k') => k' == k | _ => false
  | .b, t => match P.underlying t with | some .bool => true | _ => false
  | .s, t => match P.underlying t with | some .string => true | _ => false
  | .sl e, t => match P.underlying t with | some (.slice e') => fitB P e e' && P.cellsOf e' == e.n | _ => false
  | .st l, t => match P.underlying t with | some (.struct fs) => fitsB P l fs.toList 0 && P.cellsOf t == Shp.ns l | _ => false
def fitsB (P : Program) : List Shp → List Field → Nat → Bool
  | [], [], _ => true
  | x :: r, f :: fs, off => f.offset == off && P.cellsOf f.type == x.n && fitB P x f.type && fitsB P r fs (off + x.n)
  | _, _, _ => false
end

section
variable {H : Type} {enc : TypeId × Value → H} {P : Program} {w : World} {sp : Nat → Bool} {held : Bool}

mutual
theorem rd_of_trod (sh : Shp) {t : TypeId} (hf : fitB P sh t = true) {fuel : Nat} {cs : List Value} {x : DataW H × List MemPlace}
    (h : DataW.trod enc P w 0 sp held fuel t cs = some x) : cs.length = sh.n ∧ Rd w sh cs := by
  match sh with
  | .i k =>
    unfold fitB at hf
    split at hf
    · rename_i k' ht
      obtain rfl : k' = k := by simpa using hf
      obtain ⟨n, rfl, _, hw⟩ := DataW.trod_int ht h
      exact ⟨rfl, by unfold Rd; exact ⟨n, rfl, hw⟩⟩
    · cases hf
  | .b =>
    unfold fitB at hf
    split at hf
    · rename_i ht
      obtain ⟨n, rfl, _⟩ := DataW.trod_bool ht h
      exact ⟨rfl, by unfold Rd; exact ⟨n, rfl⟩⟩
    · cases hf
  | .s =>
    unfold fitB at hf
    split at hf
    · rename_i ht
      obtain ⟨n, rfl, _, hw⟩ := DataW.trod_string ht h
      exact ⟨rfl, by unfold Rd; exact ⟨n, rfl, hw⟩⟩
    · cases hf
  | .sl e =>
    unfold fitB at hf
    split at hf
    · rename_i e' ht
      simp only [Bool.and_eq_true, beq_iff_eq] at hf
      obtain ⟨hfe, hn⟩ := hf
      rcases open_slice ht h with ⟨rfl, _⟩ | ⟨a, len, cap, m, n, D, Pl, rfl, _, hl, hm, hmm, _, hi⟩
      · exact ⟨rfl, by unfold Rd; exact .inl rfl⟩
      · refine ⟨rfl, ?_⟩
        unfold Rd
        refine .inr ⟨a, len, cap, rfl, hl, hm, fun i hlt => ?_⟩
        obtain ⟨cs', hc, ht'⟩ := hi i (by rw [hmm]; split <;> omega)
        obtain ⟨hlen, hr⟩ := rd_of_trod e hfe ht'
        refine ⟨cs', hlen, fun j hj => ?_, hr⟩
        obtain ⟨_, hcl, hat⟩ := World.cells?_some hc
        rw [← hn, ← Go.Deep.add_add]
        exact hat j (by omega)
    · cases hf
  | .st l =>
    unfold fitB at hf
    split at hf
    · rename_i fs ht
      simp only [Bool.and_eq_true, beq_iff_eq] at hf
      obtain ⟨hfs, hn⟩ := hf
      obtain ⟨xs, n, _, _, hlen, hxs, hg⟩ := DataW.trod_struct ht h
      have hall : ∀ (i : Nat) (f : Field), fs.toList[i]? = some f → ∃ y, DataW.trod enc P w 0 sp held n f.type ((cs.drop f.offset).take (P.cellsOf f.type)) = some y := by
        intro i f hi
        have hi' : fs[i]? = some f := by simpa using hi
        have hil : i < fs.size := (Array.getElem?_eq_some_iff.1 hi').1
        exact ⟨xs[i]'(by omega), by rw [hg i f hi']; exact List.getElem?_eq_getElem (by omega)⟩
      refine ⟨by rw [hlen, hn]; rfl, ?_⟩
      unfold Rd
      have := rds_of_trod l hfs (n := n) (cs := cs) hall (by rw [hlen, hn]; simp)
      simpa using this
    · cases hf
theorem rds_of_trod (l : List Shp) {fs : List Field} {off : Nat} (hf : fitsB P l fs off = true) {n : Nat} {cs : List Value}
    (hall : ∀ (i : Nat) (f : Field), fs[i]? = some f → ∃ y, DataW.trod enc P w 0 sp held n f.type ((cs.drop f.offset).take (P.cellsOf f.type)) = some y)
    (hlen : cs.length = off + Shp.ns l) : Rds w l (cs.drop off) := by
  match l, fs with
  | [], [] =>
    unfold Rds
    unfold Shp.ns at hlen
    exact List.drop_eq_nil_of_le (by omega)
  | x :: r, f :: fs =>
    unfold fitsB at hf
    simp only [Bool.and_eq_true, beq_iff_eq] at hf
    obtain ⟨⟨⟨ho, hc⟩, hx⟩, hr⟩ := hf
    unfold Shp.ns at hlen
    obtain ⟨y, hy⟩ := hall 0 f rfl
    rw [ho, hc] at hy
    obtain ⟨hl1, h1⟩ := rd_of_trod x hx hy
    have h2 := rds_of_trod r hr (n := n) (cs := cs) (fun i f' hi => hall (i + 1) f' (by simpa using hi)) (by omega)
    unfold Rds
    refine ⟨_, _, ?_, hl1, h1, h2⟩
    rw [← List.drop_drop]
    exact (List.take_append_drop _ _).symm
  | [], _ :: _ => unfold fitsB at hf; cases hf
  | _ :: _, [] => unfold fitsB at hf; cases hf
end

/-- an argument of a shape: a struct's cells lie in the value -/
def RdV (w : World) (sh : Shp) (v : Value) : Prop :=
  match sh with
  | .st l => ∃ cs : Array Value, v = .agg cs ∧ Rds w l cs.toList
  | sh => Rd w sh [v]

/-- one after the other, the arguments -/
def RdAll (w : World) : List Shp → List Value → Prop
  | [], vs => vs = []
  | x :: r, vs => ∃ v vs', vs = v :: vs' ∧ RdV w x v ∧ RdAll w r vs'

theorem okWide_noagg {r : Reach} {b0 : Nat} {t : TypeId} {v : Value} (h : Cell.okWide P w r b0 t v) (cs : Array Value) : v ≠ .agg cs := by
  intro e
  subst e
  unfold Cell.okWide Cell.ok at h
  cases hu : P.underlying t with
  | none => rw [hu] at h; exact h
  | some d => rw [hu] at h; cases d <;> exact h

theorem rdV_of_trod {r : Reach} {b0 : Nat} (sh : Shp) {t : TypeId} {v : Value} (hf : fitB P sh t = true) (hv : Value.okWide P w r b0 t v) {fuel : Nat} {x : DataW H × List MemPlace}
    (h : DataW.trod enc P w 0 sp held fuel t v.cells.toList = some x) : RdV w sh v := by
  have h1 := (rd_of_trod sh hf h).2
  have one : (∀ l, sh ≠ .st l) → (∀ d, P.underlying t = some d → (∀ fs, d ≠ .struct fs) ∧ (∀ n e, d ≠ .array n e)) → v.cells.toList = [v] := by
    intro _ hd
    have : Cell.okWide P w r b0 t v := by
      unfold Value.okWide at hv
      split at hv
      · rename_i fs hu; exact absurd rfl ((hd _ hu).1 fs)
      · rename_i n e hu; exact absurd rfl ((hd _ hu).2 n e)
      · exact hv
    have hn := okWide_noagg this
    cases v <;> simp_all [Value.cells]
  match sh with
  | .st l =>
    unfold fitB at hf
    split at hf
    · rename_i fs hu
      unfold Value.okWide at hv
      rw [hu] at hv
      obtain ⟨cs, rfl, _⟩ := hv
      unfold RdV
      unfold Rd at h1
      exact ⟨cs, rfl, h1⟩
    · cases hf
  | .i k =>
    unfold fitB at hf
    split at hf
    · rename_i k' hu
      rw [one (by simp) (by intro d hd; rw [hu] at hd; cases hd; simp)] at h1
      exact h1
    · cases hf
  | .b =>
    unfold fitB at hf
    split at hf
    · rename_i hu
      rw [one (by simp) (by intro d hd; rw [hu] at hd; cases hd; simp)] at h1
      exact h1
    · cases hf
  | .s =>
    unfold fitB at hf
    split at hf
    · rename_i hu
      rw [one (by simp) (by intro d hd; rw [hu] at hd; cases hd; simp)] at h1
      exact h1
    · cases hf
  | .sl e =>
    unfold fitB at hf
    split at hf
    · rename_i e' hu
      rw [one (by simp) (by intro d hd; rw [hu] at hd; cases hd; simp)] at h1
      exact h1
    · cases hf

theorem rdAll_of_trod : (shs : List Shp) → {ts : List TypeId} → {vs : List Value} → {ds : List (DataW H)} → {p : List MemPlace} → {r : Reach} → {b0 : Nat} →
    (hf : (shs.zip ts).all (fun x => fitB P x.1 x.2) = true) → (hlen : shs.length = ts.length) →
    (hv : ∀ (j : Nat) t v, ts[j]? = some t → vs[j]? = some v → Value.okWide P w r b0 t v) →
    DataW.TrodAll enc P w 0 sp held ts vs ds p → RdAll w shs vs
  | [], [], vs, ds, p, _, _, _, _, _, h => by
    cases vs <;> cases ds <;> simp_all [DataW.TrodAll, RdAll]
  | x :: r, t :: ts, vs, ds, p, _, _, hf, hlen, hv, h => by
    simp only [List.zip_cons_cons, List.all_cons, Bool.and_eq_true] at hf
    match vs, ds, h with
    | v :: vs, d :: ds, ⟨p1, q1, ⟨fuel, h1⟩, h2, _⟩ =>
      unfold RdAll
      exact ⟨v, vs, rfl, rdV_of_trod x hf.1 (hv 0 t v rfl rfl) h1, rdAll_of_trod r hf.2 (by simpa using hlen) (fun j t v h1 h2 => hv (j + 1) t v (by simpa using h1) (by simpa using h2)) h2⟩

theorem trodAll_below (hl : laidOutB P = true) {W W' : World} (hb : Below W.heap.size W W') : (ts : List TypeId) → {vs : List Value} → {ds : List (DataW H)} → {p : List MemPlace} →
    (hr : ts.all (fun t => P.readableRec t && decide (t < P.types.size)) = true) →
    DataW.TrodAll enc P W 0 (fun _ => true) true ts vs ds p → (∀ x ∈ p, x.block < W.heap.size) →
    DataW.TrodAll enc P W' 0 (fun b => decide (b < W.heap.size)) true ts vs ds p
  | [], vs, ds, p, _, h, _ => by
    cases vs <;> cases ds <;> simp_all [DataW.TrodAll]
  | t :: ts, vs, ds, p, hr, h, hlt => by
    simp only [List.all_cons, Bool.and_eq_true, decide_eq_true_eq] at hr
    match vs, ds, h with
    | v :: vs, d :: ds, ⟨p1, q1, h1, h2, he⟩ =>
      subst he
      exact ⟨p1, q1, Below.trod hl hr.1.1 hr.1.2 h1 hb (fun x hx => hlt x (by simp [hx])), trodAll_below hl hb ts hr.2 h2 (fun x hx => hlt x (by simp [hx])), rfl⟩

/-- THE LAW's POST, out of 'true, and nothing that lay there has turned'. -/
theorem law_post {F : FuncId} {fn : Func} {s : ChangeSpec} {B : TypeId} {W : World} {args : Array Value} {ds gs : List (DataW H)} {before : List MemPlace}
    (hs : ∀ ds : List (DataW H), ds.length = fn.params.size → s.fn H ds = { results := [.lit (.bool true)], args := ds }) (hv : s.vars = []) (hr : fn.resultTypes = #[B]) (hB : P.underlying B = some .bool)
    (hp : fn.params.toList.all (fun t => P.readableRec t && decide (t < P.types.size)) = true) (hl : laidOutB P = true)
    (hW : DataW.Whole enc P fn.params.toList s.vars false W args.toList ds gs before)
    (h : Calls P F args W fun e W' => e = .returned (.bool true) ∧ Below W.heap.size W W') :
    Calls P F args W fun e W' => ∃ v, e = .returned v ∧ s.post enc P fn false true false false W args v W' := by
  refine h.mono fun e W' ⟨he, bel⟩ => ?_
  subst he
  have hW' := hW
  have hlt := fun x hx => hW.lt x hx
  obtain ⟨p, q, hA, hV, rfl, hfz, hnd⟩ := hW
  rw [hv] at hV
  obtain ⟨rfl, rfl⟩ := trodVars_none hV
  have hlen : ds.length = fn.params.size := by
    have : ∀ (ts : List TypeId) (vs : List Value) (ds : List (DataW H)) (p : List MemPlace), DataW.TrodAll enc P W 0 (fun _ => true) true ts vs ds p → ds.length = ts.length := by
      intro ts
      induction ts with
      | nil => intro vs ds p h; cases vs <;> cases ds <;> simp_all [DataW.TrodAll]
      | cons t ts ih =>
        intro vs ds p h
        match vs, ds, h with
        | v :: vs, d :: ds, ⟨p1, q1, h1, h2, _⟩ => simp [ih _ _ _ h2]
    simpa using this _ _ _ _ hA
  have hfn := hs ds hlen
  refine ⟨_, rfl, ds, [], p ++ [], [], p, [], hW', ?_, ?_, ?_, bel.frame _, fun h => by cases h⟩
  · rw [List.append_nil, hfn, hr]
    exact trodAll_mk1 (shut_bool hB _)
  · rw [List.append_nil, hfn]
    exact trodAll_below hl bel _ hp hA (fun x hx => hlt x (by simp [hx]))
  · rw [List.append_nil, hfn, hv]
    rfl
end

theorem rd_slice {w : World} {e : Shp} {v : Value} (h : RdV w (.sl e) v) : v = .slice none 0 0 ∨ ∃ a len cap, v = .slice (some a) len cap ∧ len ≤ cap ∧ cap ≤ maxLen ∧
      ∀ i, i < len → ∃ cs', cs'.length = e.n ∧ (∀ j, j < e.n → w.cell? (a.add (i * e.n + j)) = cs'[j]?) ∧ Rd w e cs' := by
  unfold RdV Rd at h
  rcases h with h | ⟨a, len, cap, h, r⟩
  · simp at h; exact .inl h
  · simp at h; exact .inr ⟨a, len, cap, h, r⟩

theorem rd_int {w : World} {k : IntKind} {v : Value} (h : RdV w (.i k) v) : ∃ n, v = .int k n ∧ (Lit.int k n).wf = true := by
  unfold RdV Rd at h
  simpa using h

theorem rd_str {w : World} {v : Value} (h : RdV w .s v) : ∃ s : ByteArray, v = .string s ∧ s.size ≤ maxLen := by
  unfold RdV Rd at h
  simpa using h

theorem rd_bool {w : World} {v : Value} (h : RdV w .b v) : ∃ b, v = .bool b := by
  unfold RdV Rd at h
  simpa using h

theorem add_none (b o n : Nat) : (⟨b, o, none⟩ : Addr).add n = ⟨b, o + n, none⟩ := by
  unfold Addr.add
  split
  · subst_vars; rfl
  · rfl

theorem cell_lt {w : World} {a : Addr} {v : Value} (h : w.cell? a = some v) : a.block < w.heap.size := by
  unfold World.cell? at h
  split at h
  · rename_i c e f hb
    exact (Array.getElem?_eq_some_iff.1 hb).1
  · cases h

theorem cell_spot {w : World} {a : Addr} {v : Value} (h : w.cell? a = some v) : a.spot = none := by
  unfold World.cell? at h
  split at h
  · split at h
    · cases h
    · rename_i hs
      simpa using hs
  · cases h

theorem slice_base {w : World} {e : Shp} {a : Addr} {len : Nat} (hl : 0 < len) (hn : 0 < e.n)
    (h : ∀ i, i < len → ∃ cs', cs'.length = e.n ∧ (∀ j, j < e.n → w.cell? (a.add (i * e.n + j)) = cs'[j]?) ∧ Rd w e cs') :
    ∃ b o, a = ⟨b, o, none⟩ ∧ b < w.heap.size := by
  obtain ⟨cs, hlen, hat, _⟩ := h 0 hl
  have h0 := hat 0 hn
  rw [List.getElem?_eq_getElem (by omega)] at h0
  simp only [Nat.zero_mul, Nat.add_zero, Addr.add, if_true] at h0
  obtain ⟨b, o, s⟩ := a
  exact ⟨b, o, by have := cell_spot h0; simp_all, cell_lt h0⟩

theorem exists_list {α : Type} {P : Nat → α → Prop} : (n : Nat) → (∀ i, i < n → ∃ x, P i x) → ∃ l : List α, l.length = n ∧ ∀ (i : Nat) (h : i < l.length), P i l[i]
  | 0, _ => ⟨[], rfl, fun i h => absurd h (by simp)⟩
  | n + 1, h => by
    obtain ⟨l, hl, hp⟩ := exists_list n (fun i hi => h i (by omega))
    obtain ⟨x, hx⟩ := h n (by omega)
    refine ⟨l ++ [x], by simp [hl], fun i hi => ?_⟩
    by_cases hc : i < l.length
    · rw [List.getElem_append_left hc]; exact hp i hc
    · have : i = l.length := by simp at hi; omega
      subst this
      simp [hl, hx]

theorem rds_cons {w : World} {x : Shp} {r : List Shp} {cs : List Value} (h : Rds w (x :: r) cs) : ∃ c1 c2, cs = c1 ++ c2 ∧ Rd w x c1 ∧ Rds w r c2 := by
  unfold Rds at h
  obtain ⟨c1, c2, h1, _, h2, h3⟩ := h
  exact ⟨c1, c2, h1, h2, h3⟩
theorem rds_nil {w : World} {cs : List Value} (h : Rds w [] cs) : cs = [] := by
  unfold Rds at h
  exact h
theorem rd_st {w : World} {l : List Shp} {cs : List Value} (h : Rd w (.st l) cs) : Rds w l cs := by
  unfold Rd at h
  exact h
theorem rdc_int {w : World} {k : IntKind} {cs : List Value} (h : Rd w (.i k) cs) : ∃ n, cs = [.int k n] ∧ (Lit.int k n).wf = true := by
  unfold Rd at h
  exact h
theorem rdc_str {w : World} {cs : List Value} (h : Rd w .s cs) : ∃ x : ByteArray, cs = [.string x] ∧ x.size ≤ maxLen := by
  unfold Rd at h
  exact h
theorem rdc_bool {w : World} {cs : List Value} (h : Rd w .b cs) : ∃ x, cs = [.bool x] := by
  unfold Rd at h
  exact h
theorem rdc_slice {w : World} {e : Shp} {cs : List Value} (h : Rd w (.sl e) cs) : ∃ a len cap, cs = [.slice a len cap] := by
  unfold Rd at h
  rcases h with rfl | ⟨a, len, cap, rfl, _⟩
  · exact ⟨none, 0, 0, rfl⟩
  · exact ⟨some a, len, cap, rfl⟩

theorem progOwn : ownKnob Tryz.prog.godebug = none := by kernel_rfl
theorem progLaid : laidOutB Tryz.prog = true := by kernel_rfl
end Go.Proofs.YtpcmbnbdppembaaGreatDoor

/- Put together out of: Args, ArgsHold. -/
/- What an argument of events, of asks looks like: its rows as they are read. -/
namespace Go.Proofs.YtpcmbnbdppembaaGreatDoor
open Go.RowKit

def itShp : Shp := .st [.s, .s]
def askShp : Shp := .st [.i .i64, .s, .s, .s, .i .i64]
def evShp : Shp := .st [.i .i64, .i .i64, .i .i64, .i .i64, askShp, .st [.i .i64, .s, .sl itShp, .b, .s, .i .i64]]

theorem rd_ev {w : World} {cs : List Value} (h : Rd w evShp cs) : ∃ e : Ev, cs = e.cells := by
  obtain ⟨c1, r1, rfl, h1, h⟩ := rds_cons (rd_st h)
  obtain ⟨c2, r2, rfl, h2, h⟩ := rds_cons h
  obtain ⟨c3, r3, rfl, h3, h⟩ := rds_cons h
  obtain ⟨c4, r4, rfl, h4, h⟩ := rds_cons h
  obtain ⟨c5, r5, rfl, h5, h⟩ := rds_cons h
  obtain ⟨c6, r6, rfl, h6, h⟩ := rds_cons h
  obtain rfl := rds_nil h
  obtain ⟨d1, s1, rfl, g1, h⟩ := rds_cons (rd_st h5)
  obtain ⟨d2, s2, rfl, g2, h⟩ := rds_cons h
  obtain ⟨d3, s3, rfl, g3, h⟩ := rds_cons h
  obtain ⟨d4, s4, rfl, g4, h⟩ := rds_cons h
  obtain ⟨d5, s5, rfl, g5, h⟩ := rds_cons h
  obtain rfl := rds_nil h
  obtain ⟨e1, t1, rfl, f1, h⟩ := rds_cons (rd_st h6)
  obtain ⟨e2, t2, rfl, f2, h⟩ := rds_cons h
  obtain ⟨e3, t3, rfl, f3, h⟩ := rds_cons h
  obtain ⟨e4, t4, rfl, f4, h⟩ := rds_cons h
  obtain ⟨e5, t5, rfl, f5, h⟩ := rds_cons h
  obtain ⟨e6, t6, rfl, f6, h⟩ := rds_cons h
  obtain rfl := rds_nil h
  obtain ⟨n1, rfl, _⟩ := rdc_int h1
  obtain ⟨n2, rfl, _⟩ := rdc_int h2
  obtain ⟨n3, rfl, _⟩ := rdc_int h3
  obtain ⟨n4, rfl, _⟩ := rdc_int h4
  obtain ⟨m1, rfl, _⟩ := rdc_int g1
  obtain ⟨m2, rfl, _⟩ := rdc_str g2
  obtain ⟨m3, rfl, _⟩ := rdc_str g3
  obtain ⟨m4, rfl, _⟩ := rdc_str g4
  obtain ⟨m5, rfl, _⟩ := rdc_int g5
  obtain ⟨k1, rfl, _⟩ := rdc_int f1
  obtain ⟨k2, rfl, _⟩ := rdc_str f2
  obtain ⟨ia, il, ic, rfl⟩ := rdc_slice f3
  obtain ⟨k4, rfl⟩ := rdc_bool f4
  obtain ⟨k5, rfl, _⟩ := rdc_str f5
  obtain ⟨k6, rfl, _⟩ := rdc_int f6
  exact ⟨⟨n1, n2, n3, n4, m1, m2, m3, m4, m5, k1, k2, ia, il, ic, k4, k5, k6⟩, rfl⟩

/-- a slice argument whose elements read, one by one -/
theorem slAt_of_rd {α : Type} {k : Nat} {enc : α → List Value} {w : World} {e : Shp} {v : Value} (h : RdV w (.sl e) v) (hn : e.n = k) (hk : 0 < k) (hr : ∀ cs, cs.length = k → Rd w e cs → ∃ x : α, cs = enc x) :
    ∃ l : List α, SlAt k enc w v l ∧ l.length ≤ 9223372036854775807 := by
  rcases rd_slice h with rfl | ⟨a, len, cap, rfl, hl, hm, hi⟩
  · exact ⟨[], SlAt.nil _ _ _ _ _, by simp⟩
  by_cases h0 : len = 0
  · subst h0
    exact ⟨[], SlAt.nil _ _ _ _ _, by simp⟩
  obtain ⟨b, o, rfl, hlt⟩ := slice_base (by omega) (by omega) hi
  obtain ⟨l, hlen, hc⟩ := exists_list (P := fun i (x : α) => ∀ j u, (enc x)[j]? = some u → w.cell? ⟨b, o + i * k + j, none⟩ = some u) len (fun i h => by
    obtain ⟨cs, hcn, hat, hr'⟩ := hi i h
    rw [hn] at hcn hat
    obtain ⟨x, rfl⟩ := hr cs hcn hr'
    refine ⟨x, fun j u hu => ?_⟩
    have hj : j < k := by have := (List.getElem?_eq_some_iff.1 hu).1; omega
    have := hat j hj
    rw [add_none] at this
    rw [← hu, ← this, Nat.add_assoc])
  refine ⟨l, ⟨_, cap, by rw [hlen], fun i x hx => ⟨b, o, rfl, ?_⟩⟩, by unfold maxLen at hm; omega⟩
  have hil := (List.getElem?_eq_some_iff.1 hx).1
  have := hc i hil
  rw [(List.getElem?_eq_some_iff.1 hx).2] at this
  exact this

theorem evsAt_of_rd {w : World} {v : Value} (h : RdV w (.sl evShp) v) : ∃ l : List Ev, EvsAt w v l ∧ l.length ≤ 9223372036854775807 :=
  slAt_of_rd h rfl (by decide) (fun _ _ h => rd_ev h)
end Go.Proofs.YtpcmbnbdppembaaGreatDoor

/- What an argument of items, an arc looks like. -/
namespace Go.Proofs.YtpcmbnbdppembaaGreatDoor
open Go.RowKit

abbrev arcShp : Shp := .st [.i .u64, .i .u64]
abbrev itmShp : Shp := .st [.s, .s]

theorem pt_of_wf {n : Int} (h : (Lit.int .u64 n).wf = true) : Pt64 n := by
  have h1 : IntKind.u64.min = 0 := by decide
  have h2 : IntKind.u64.max = 18446744073709551615 := by decide
  simp only [Lit.wf, h1, h2, Bool.and_eq_true, decide_eq_true_eq] at h
  unfold Pt64
  omega

theorem rd_arc {w : World} {v : Value} (h : RdV w arcShp v) : ∃ a : Arc, v = .agg #[.int .u64 a.f, .int .u64 a.t] ∧ a.ok := by
  unfold RdV at h
  obtain ⟨cs, rfl, h⟩ := h
  obtain ⟨c1, r1, e1, h1, h⟩ := rds_cons h
  obtain ⟨c2, r2, e2, h2, h⟩ := rds_cons h
  obtain rfl := rds_nil h
  obtain ⟨f, rfl, hf⟩ := rdc_int h1
  obtain ⟨t, rfl, ht⟩ := rdc_int h2
  refine ⟨⟨f, t⟩, ?_, pt_of_wf hf, pt_of_wf ht⟩
  congr 1
  apply Array.ext'
  rw [e1, e2]
  rfl

theorem rd_itm {w : World} {cs : List Value} (h : Rd w itmShp cs) : ∃ x : ByteArray × ByteArray, cs = encIt x := by
  obtain ⟨c1, r1, rfl, h1, h⟩ := rds_cons (rd_st h)
  obtain ⟨c2, r2, rfl, h2, h⟩ := rds_cons h
  obtain rfl := rds_nil h
  obtain ⟨a, rfl, _⟩ := rdc_str h1
  obtain ⟨b, rfl, _⟩ := rdc_str h2
  exact ⟨(a, b), rfl⟩

theorem itsAt_of_rd {w : World} {v : Value} (h : RdV w (.sl itmShp) v) : ∃ l : List (ByteArray × ByteArray), SlAt 2 encIt w v l ∧ l.length ≤ 9223372036854775807 :=
  slAt_of_rd h rfl (by decide) (fun _ _ h => rd_itm h)
end Go.Proofs.YtpcmbnbdppembaaGreatDoor

/- give: a Give in memory; letter, over, Step, what is left when no chunk is. -/
namespace Go.Proofs.YtpcmbnbdppembaaGreatDoor
set_option linter.unusedSimpArgs false
set_option linter.unusedVariables false
open Go.RowKit Go.Shelf
attribute [local go_sem ↓] Go.wp_at_zero Go.wp_at_succ

/-- a letter -/
structure Lx where
  kd : Int
  fr : Int
  tt : Int
  id : Int
  aop : Int
  ak : ByteArray
  av : ByteArray
  ato : ByteArray
  am : Int
  te : Int
  tv : ByteArray
  ti : Value
  tm : Bool
  tx : ByteArray
  tn : Int
  a : Arc
  ep : Int
  its : Value
  n : Int
  nd : Int
abbrev encLx (x : Lx) : Array Value := #[.int .i64 x.kd, .int .i64 x.fr, .int .i64 x.tt, .int .i64 x.id, .int .i64 x.aop, .string x.ak, .string x.av, .string x.ato, .int .i64 x.am,
  .int .i64 x.te, .string x.tv, x.ti, .bool x.tm, .string x.tx, .int .i64 x.tn, .int .u64 x.a.f, .int .u64 x.a.t, .int .i64 x.ep, x.its, .int .i64 x.n, .int .i64 x.nd]
/-- a letter of a transfer -/
abbrev ltr (kd fr tt id : Int) (a : Arc) (ep : Int) (its : Value) (n : Int) : Lx := ⟨kd, fr, tt, id, 0, ⟨#[]⟩, ⟨#[]⟩, ⟨#[]⟩, 0, 0, ⟨#[]⟩, .slice none 0 0, false, ⟨#[]⟩, 0, a, ep, its, n, 0⟩

abbrev zLx : Array Value := #[.int .i64 0, .int .i64 0, .int .i64 0, .int .i64 0, .int .i64 0, .string ⟨#[]⟩, .string ⟨#[]⟩, .string ⟨#[]⟩, .int .i64 0, .int .i64 0, .string ⟨#[]⟩, .slice none 0 0, .bool false, .string ⟨#[]⟩, .int .i64 0, .int .u64 0, .int .u64 0, .int .i64 0, .slice none 0 0, .int .i64 0, .int .i64 0]
/-- a Give -/
structure Gv where
  h : Nat
  a : Arc
  ep : Int
  me : Int
  tt : Int
  id : Int
  step : Int
  ch : Value
  went : Int
abbrev encGv (g : Gv) : Array Value := #[.pointer (some ⟨g.h, 0, none⟩), .int .u64 g.a.f, .int .u64 g.a.t, .int .i64 g.ep, .int .i64 g.me, .int .i64 g.tt, .int .i64 g.id, .int .i64 g.step, g.ch, .int .i64 g.went]
abbrev GvAt (w : World) (b : Nat) (g : Gv) : Prop := w.heap[b]? = some (.cells (encGv g) 110 (0, 0))
theorem GvAt.lt {w : World} {b : Nat} {g : Gv} (h : GvAt w b g) : b < w.heap.size := (Array.getElem?_eq_some_iff.1 h).1
theorem GvAt.mod {S : Nat → Prop} {w w' : World} {b : Nat} {g : Gv} (h : GvAt w b g) (hm : Mod S w w') (hb : ¬ S b) : GvAt w' b g := (hm.block b h.lt hb).trans h

/-- a wide value, of whose cells nothing is looked at, stored over a variable just made -/
theorem st_fresh {P : Program} (w : World) (z cs : Array Value) (t : TypeId) (hz : z.size = cs.size) (h1 : ∀ v ∈ cs.toList, v.oneCell' = true) : (storeCells ⟨w.heap.size, 0, none⟩ cs.toList 0).run P (w.alloc (.cells z t)) = .ok () (w.alloc (.cells cs t)) := by
  have hg := heap_alloc_new w (.cells z t)
  rw [run_storeCells_at P w.heap.size 0 t cs.toList 0 z (w.alloc (.cells z t)) hg (by simp; omega) h1]
  congr 1
  have e : (z.toList.take (0 + 0) ++ cs.toList ++ z.toList.drop (0 + 0 + cs.toList.length)).toArray = cs := by
    simp [List.drop_eq_nil_of_le, hz]
  rw [e, World.setRow_alloc_new]
theorem st_freshD {P : Program} (w : World) (z cs : Array Value) (t : TypeId) (hz : z.size = cs.size) (h1 : ∀ v ∈ cs.toList, v.oneCell' = true) : (storeCells ⟨w.heap.size, 0, none⟩ cs.toList 0).run P (w.alloc (.cells z t)).drew = .ok () (w.alloc (.cells cs t)).drew := by
  have := st_fresh (P := P) w.drew z cs t hz h1
  exact this
/-- .. and read again -/
theorem ld_letter {w : World} {g : Nat} {cs : Array Value} (hg : w.heap[g]? = some (.cells cs 50 (0, 0))) (hs : cs.size = 21) : (loadVar 50 ⟨g, 0, none⟩).run Tryz.prog w = .ok (.agg cs) w := by
  have h1 : (isAgg 50).run Tryz.prog w = .ok true w := by kernel_rfl
  have h2 : (sizeOf 50).run Tryz.prog w = .ok 21 w := by kernel_rfl
  have h3 := run_loadCells_list (P := Tryz.prog) w ⟨g, 0, none⟩ cs.toList (fun j v hv => by
    have hv' : cs[j]? = some v := by simpa using hv
    have : (⟨g, 0, none⟩ : Addr).add j = ⟨g, j, none⟩ := by simp [Addr.add]; exact fun h => h.symm
    rw [this]
    exact cell_of hg j hv')
  have h4 : cs.toList.length = 21 := by simpa using hs
  rw [h4] at h3
  simp only [loadVar, Sem.run_bind, h1, Result.andThen_ok, if_true, h2, h3]
  rfl
/-- a letter read as a whole; a list of one letter made -/
def ldL (v : Value) : Sem Value := Instr.loadAt 50 v
def bsL (ps : Array (Nat × Value)) : Sem Value := Instr.buildSlice 41 1 ps
theorem ldL_eq (v : Value) : Instr.loadAt 50 v = ldL v := rfl
theorem bsL_eq (ps : Array (Nat × Value)) : Instr.buildSlice 41 1 ps = bsL ps := rfl
theorem ldL_run {w : World} {g : Nat} {cs : Array Value} (hg : w.heap[g]? = some (.cells cs 50 (0, 0))) (hs : cs.size = 21) : (ldL (.pointer (some ⟨g, 0, none⟩))).run Tryz.prog w = .ok (.agg cs) w := by
  have h1 : (Instr.sureAddr (.pointer (some ⟨g, 0, none⟩))).run Tryz.prog w = .ok ⟨g, 0, none⟩ w := rfl
  unfold ldL Instr.loadAt
  simp only [Sem.run_bind, h1, Result.andThen_ok]
  exact ld_letter hg hs
theorem fold_fill (cs z : Array Value) (h : z.size = cs.size) : cs.zipIdx.foldl (fun acc (p : Value × Nat) => acc.setIfInBounds (0 + p.2) p.1) z = cs := by
  have key : ∀ (l : List (Value × Nat)) (k : Nat) (acc : Array Value), (∀ i x, l[i]? = some x → x.2 = k + i ∧ cs[k + i]? = some x.1) → acc.size = cs.size → k + l.length = cs.size → (∀ j, j < k → acc[j]? = cs[j]?) →
      l.foldl (fun acc (p : Value × Nat) => acc.setIfInBounds (0 + p.2) p.1) acc = cs := by
    intro l
    induction l with
    | nil =>
      intro k acc _ h1 h2 h3
      simp only [List.foldl_nil]
      apply Array.ext_getElem?
      intro j
      by_cases hj : j < k
      · exact h3 j hj
      · simp only [List.length_nil, Nat.add_zero] at h2
        rw [Array.getElem?_eq_none (by omega), Array.getElem?_eq_none (by omega)]
    | cons x l ih =>
      intro k acc h0 h1 h2 h3
      simp only [List.foldl_cons]
      obtain ⟨e1, e2⟩ := h0 0 x rfl
      rw [Nat.add_zero] at e1 e2
      refine ih (k + 1) _ (fun i y hy => ?_) (by simpa using h1) (by simp only [List.length_cons] at h2; omega) (fun j hj => ?_)
      · have := h0 (i + 1) y (by simpa using hy)
        rw [show k + 1 + i = k + (i + 1) by omega]
        exact this
      · rw [Array.getElem?_setIfInBounds, Nat.zero_add, e1]
        by_cases hjk : k = j
        · subst hjk
          have : k < acc.size := by simp only [List.length_cons] at h2; omega
          simp [this, e2]
        · rw [if_neg hjk]
          exact h3 j (by omega)
  have := key cs.zipIdx.toList 0 z (fun i x hx => ?_) h (by simp) (fun j hj => by omega)
  · rw [← Array.foldl_toList]; exact this
  · simp only [Array.getElem?_toList, Array.getElem?_zipIdx, Option.map_eq_some_iff] at hx
    obtain ⟨y, hy, rfl⟩ := hx
    simp [hy]
theorem bsL_run {cs : Array Value} (hs : cs.size = 21) (w : World) : (bsL #[(0, .agg cs)]).run Tryz.prog w = .ok (.slice (some ⟨w.heap.size, 0, none⟩) 1 1) (w.alloc (.cells cs 50)) := by
  have h1 : (underlying 41).run Tryz.prog w = .ok (.slice 50) w := by kernel_rfl
  have h2 : (sizeOf 50).run Tryz.prog w = .ok 21 w := by kernel_rfl
  have h3 : (zeroValue 50).run Tryz.prog w = .ok (.agg zLx) w := by kernel_rfl
  unfold bsL Instr.buildSlice
  simp only [Sem.run_bind, h1, Result.andThen_ok, h2]
  rw [if_neg (by decide), if_neg (by decide)]
  simp only [Sem.run_bind, h3, Result.andThen_ok, Sem.run_pure]
  have hsz : ((Array.range (1 * 21)).map (fun x => (Value.agg zLx).cells[x % (Value.agg zLx).cells.size]!)).size = 21 := by simp
  have hf : ∀ z : Array Value, z.size = 21 → Instr.fill (fun i => some (i * 21, 21)) z [(0, .agg cs)] = some cs := fun z hz => by
    have hff := fold_fill cs z (by omega)
    unfold Instr.fill
    have hc : (Value.agg cs).cells = cs := rfl
    simp only [hc, hs, hz]
    rw [if_neg (by decide)]
    unfold Instr.fill
    exact congrArg some hff
  rw [hf _ hsz]
  simp [go_sem]
theorem zLx_size : zLx.size = 21 := rfl

set_option maxRecDepth 100000 in
set_option maxHeartbeats 8000000 in
theorem letter_any {w : World} {b : Nat} {g : Gv} (h : GvAt w b g) (kd : Int) : Calls Tryz.prog 51 #[.pointer (some ⟨b, 0, none⟩), .int .i64 kd] w fun e w' =>
    e = .returned (.agg (encLx (ltr kd g.me g.tt g.id ⟨0, 0⟩ 0 (.slice none 0 0) 0))) ∧ Mod NoB w w' := by
  have hb := h.lt
  go_enter Tryz.func51, Tryz.ntmps51
  go_wp2_with fail
  obtain ⟨w1, hw1⟩ : ∃ w1, w1 = w.alloc (.cells zLx 50) := ⟨_, rfl⟩
  have hm1 : Mod NoB w w1 := by rw [hw1]; exact (Mod.refl _ _).alloc _
  have bL : w1.heap[w.heap.size]? = some (.cells zLx 50 (0, 0)) := by rw [hw1]; exact heap_alloc_new w _
  rw [show w.alloc (.cells #[.int .i64 0, .int .i64 0, .int .i64 0, .int .i64 0, .int .i64 0, .string ⟨#[]⟩, .string ⟨#[]⟩, .string ⟨#[]⟩, .int .i64 0, .int .i64 0, .string ⟨#[]⟩, .slice none 0 0, .bool false, .string ⟨#[]⟩, .int .i64 0, .int .u64 0, .int .u64 0, .int .i64 0, .slice none 0 0, .int .i64 0, .int .i64 0] 50) = w1 from hw1.symm]
  have c4 := hm1.cellS (cell_of h 4 (v := .int .i64 g.me) rfl)
  have c5 := hm1.cellS (cell_of h 5 (v := .int .i64 g.tt) rfl)
  have c6 := hm1.cellS (cell_of h 6 (v := .int .i64 g.id) rfl)
  have HW1 := Lib.hid hw1
  clear h hw1
  go_still_tail 14, (by kernel_rfl)
  change wpList _ _ _ _ _ w1.drew
  rw [HW1.out]
  clear HW1 c4 c5 c6 bL hm1 w1
  generalize hcs : (#[.int .i64 kd, .int .i64 g.me, .int .i64 g.tt, .int .i64 g.id, .int .i64 0, .string ⟨#[]⟩, .string ⟨#[]⟩, .string ⟨#[]⟩, .int .i64 0, .int .i64 0, .string ⟨#[]⟩, .slice none 0 0, .bool false, .string ⟨#[]⟩, .int .i64 0, .int .u64 0, .int .u64 0, .int .i64 0, .slice none 0 0, .int .i64 0, .int .i64 0] : Array Value) = cs
  have hsz : cs.size = 21 := by rw [← hcs]; rfl
  have hone : ∀ v ∈ cs.toList, v.oneCell' = true := by
    rw [← hcs]
    intro v hv
    simp only [List.mem_cons, List.not_mem_nil, or_false] at hv
    rcases hv with rfl | rfl | rfl | rfl | rfl | rfl | rfl | rfl | rfl | rfl | rfl | rfl | rfl | rfl | rfl | rfl | rfl | rfl | rfl | rfl | rfl <;> rfl
  have HCS : Hid (cs = encLx (ltr kd g.me g.tt g.id ⟨0, 0⟩ 0 (.slice none 0 0) 0)) := Lib.hid hcs.symm
  obtain ⟨z, hzz⟩ : ∃ z, z = zLx := ⟨_, rfl⟩
  rw [show (.cells zLx 50 : Obj) = .cells z 50 from by rw [hzz]]
  have hz1 : z.size = cs.size := by rw [hsz, hzz]; rfl
  have HST := st_freshD (P := Tryz.prog) w z cs 50 hz1 hone
  clear hzz hcs
  go_wp2_with fail
  have hld := ld_letter (w := (w.alloc (.cells cs 50)).drew) (g := w.heap.size) (heap_alloc_new w _) hsz
  refine bodyPost_ret (v := .agg cs) (by simp [results, Tryz.results51, asAddr, hld]) rfl ⟨by rw [HCS.out], ((Mod.refl _ _).alloc _).drew⟩

/-- of whose cells nothing is looked at -/
theorem letter_op {w : World} {b : Nat} {g : Gv} (h : GvAt w b g) (kd : Int) : Calls Tryz.prog 51 #[.pointer (some ⟨b, 0, none⟩), .int .i64 kd] w fun e w' =>
    ∃ cs : Array Value, e = .returned (.agg cs) ∧ cs.size = 21 ∧ (∀ v ∈ cs.toList, v.oneCell' = true) ∧ Hid (cs = encLx (ltr kd g.me g.tt g.id ⟨0, 0⟩ 0 (.slice none 0 0) 0)) ∧ Mod NoB w w' := by
  refine (letter_any h kd).mono ?_
  rintro e w' ⟨rfl, hm⟩
  refine ⟨_, rfl, rfl, ?_, Lib.hid rfl, hm⟩
  intro v hv
  simp only [encLx, ltr, List.mem_cons, List.not_mem_nil, or_false] at hv
  rcases hv with rfl | rfl | rfl | rfl | rfl | rfl | rfl | rfl | rfl | rfl | rfl | rfl | rfl | rfl | rfl | rfl | rfl | rfl | rfl | rfl | rfl <;> rfl

theorem gstep_any {w : World} {b : Nat} {g : Gv} (h : GvAt w b g) : Calls Tryz.prog 19 #[.pointer (some ⟨b, 0, none⟩)] w fun e w' => e = .returned (.int .i64 g.step) ∧ w' = w := by
  have c7 := cell_of h 7 (v := .int .i64 g.step) rfl
  go_enter Tryz.func19, Tryz.ntmps19
  go_wp2_with fail
  go_ret
  exact ⟨rfl, rfl⟩
theorem over_any {w : World} {b : Nat} {g : Gv} (h : GvAt w b g) : Calls Tryz.prog 63 #[.pointer (some ⟨b, 0, none⟩)] w fun e w' => e = .returned (.bool (decide (g.step = 4) || decide (g.step = 5))) ∧ w' = w := by
  have c7 := cell_of h 7 (v := .int .i64 g.step) rfl
  by_cases h4 : g.step = 4
  · have q : (g.step == 4) = true := by simpa using h4
    go_enter Tryz.func63, Tryz.ntmps63
    go_wp2_with fail
    go_ret
    exact ⟨by simp [h4], rfl⟩
  · have q : (g.step == 4) = false := by simpa using h4
    go_enter Tryz.func63, Tryz.ntmps63
    go_wp2_with fail
    go_ret
    exact ⟨by simp [h4]; rfl, rfl⟩
end Go.Proofs.YtpcmbnbdppembaaGreatDoor

/- The reference's hold, new: rosaryref10.Holds, Own of the first arc. -/
namespace Go.Proofs.YtpcmbnbdppembaaGreatDoor
set_option linter.unusedSimpArgs false
set_option linter.unusedVariables false
open Go.RowKit Go.Shelf
attribute [local go_sem ↓] Go.wp_at_zero Go.wp_at_succ

theorem shelves_any (most : Int) (w : World) (h0 : 0 ≤ most) (h1 : most ≤ 200) : Calls Tryz.prog 135 #[.int .i64 most] w fun e w' => e = .returned (.pointer (some ⟨w.heap.size, 0, none⟩)) ∧ w' = w.alloc (.cells #[.int .i64 most, .slice none 0 0] 59) := by
  have e1 : max most 0 = most := by omega
  have e2 : min most 200 = most := by omega
  go_enter Tryz.func135, Tryz.ntmps135
  go_wp2_with fail
  go_ret
  exact ⟨rfl, rfl⟩

abbrev rCs (node most : Int) (s : Nat) : Array Value := #[.int .i64 node, .int .i64 most, .int .i64 0, .slice none 0 0, .pointer (some ⟨s, 0, none⟩), .bool false, .int .u64 0, .int .u64 0, .slice none 0 0]

set_option maxRecDepth 100000 in
set_option maxHeartbeats 8000000 in
theorem holds_any (node most : Int) (w : World) (h0 : 0 ≤ most) (h1 : most ≤ 200) : Calls Tryz.prog 48 #[.int .i64 node, .int .i64 most] w fun e w' => ∃ r, e = .returned (.pointer (some ⟨r, 0, none⟩)) ∧ w.heap.size ≤ r ∧
    w'.heap[r]? = some (.cells (rCs node most w.heap.size) 38 (0, 0)) ∧ Mod NoB w w' := by
  go_enter Tryz.func48, Tryz.ntmps48
  go_wp2_with fail
  refine (shelves_any most w h0 h1).mono ?_
  rintro e w1 ⟨rfl, rfl⟩
  go_wp2_with fail
  go_ret
  refine ⟨_, rfl, by simp, ?_, ((Mod.refl _ _).alloc _).alloc _⟩
  have := heap_alloc_new (w.alloc (.cells #[.int .i64 most, .slice none 0 0] 59)) (.cells (rCs node most w.heap.size) 38)
  simpa using this

set_option maxRecDepth 100000 in
set_option maxHeartbeats 8000000 in
theorem rapart_none {w : World} {r s : Nat} {node most : Int} (h : w.heap[r]? = some (.cells (rCs node most s) 38 (0, 0))) (a : Arc) : Calls Tryz.prog 136 #[.pointer (some ⟨r, 0, none⟩), .agg #[.int .u64 a.f, .int .u64 a.t]] w fun e w' => e = .returned (.bool true) ∧ Mod NoB w w' := by
  have hr : r < w.heap.size := (Array.getElem?_eq_some_iff.1 h).1
  have c3 := cell_of h 3 (v := .slice none 0 0) rfl
  clear h
  go_enter Tryz.func136, Tryz.ntmps136
  go_wp2_with fail
  go_loopw [5] (fun i wr => i = .int .i64 0 ∧ wr = w.alloc (.cells #[.int .u64 a.f, .int .u64 a.t] 25)) (fun _ _ => 0)
  case atStart => exact ⟨rfl, rfl⟩
  case round =>
    obtain ⟨rfl, rfl⟩ := hrel
    go_wp2_with fail
    go_ret
    exact ⟨rfl, (Mod.refl _ _).alloc _⟩

set_option maxRecDepth 100000 in
set_option maxHeartbeats 16000000 in
theorem rown_none {w : World} {r s : Nat} {node most : Int} (h : w.heap[r]? = some (.cells (rCs node most s) 38 (0, 0))) (a : Arc) (ep : Int) (hep : 0 ≤ ep) :
    Calls Tryz.prog 49 #[.pointer (some ⟨r, 0, none⟩), .agg #[.int .u64 a.f, .int .u64 a.t], .int .i64 ep] w fun e w' => e = .returned (.bool true) ∧ Mod (· = r) w w' := by
  have HR := Lib.hid h
  have hr : r < w.heap.size := (Array.getElem?_eq_some_iff.1 h).1
  have hneg : ¬ ep < 0 := by omega
  clear h
  obtain ⟨i0, z0, hi, hz0, hz1, hz2, hz3⟩ := owInfo_parts
  go_enter Tryz.func49, Tryz.ntmps49
  go_wp2_with fail
  refine (rapart_none ((Below.heap_alloc _ _ _ hr).trans HR.out) a).mono ?_
  rintro e w1 ⟨rfl, hm1⟩
  have hm01 := ((Mod.refl NoB w).alloc (.cells #[.int .u64 a.f, .int .u64 a.t] 25)).trans hm1
  have h1 := (hm01.block r hr (fun x => x)).trans HR.out
  have c0 := cell_of h1 0 (v := .int .i64 node) rfl
  have c3 := cell_of h1 3 (v := .slice none 0 0) rfl
  have f3 := frozen_of h1 3
  have a0 := hm1.cellS (cell_of (heap_alloc_new w (.cells #[.int .u64 a.f, .int .u64 a.t] 25)) 0 (v := .int .u64 a.f) rfl)
  have a1 := hm1.cellS (cell_of (heap_alloc_new w (.cells #[.int .u64 a.f, .int .u64 a.t] 25)) 1 (v := .int .u64 a.t) rfl)
  have hr1 : r < w1.heap.size := (Array.getElem?_eq_some_iff.1 h1).1
  have HM1 := Lib.hid hm01
  clear hm1 hm01 h1
  go_wp2_with fail
  go_region_law ((refine step_append_lies _ (by rfl) _ _ 32 (by rfl) 0 128 i0 z0 4 i0.bytes tyOws hi hz0 hz1 rfl hz2 (by decide) (.slice none 0 0) 0 [] (by rfl) (World.ownsRow_nil _ _ _ _) ⟨w1.heap.size, 0, none⟩ 1 1 (encOw ⟨a.f, a.t, node, ep⟩) rfl (by rfl) (by intro j u hu; exact newsOw (heap_alloc_new _ _) hu) (by intro u hu; exact oneOw hu) (by decide) (by unfold maxLen; omega) (by exact Nat.le_trans (Nat.mul_le_mul (show 0 + 1 ≤ 1000000 by decide) hz3) (by decide)) (Nat.zero_le _) _ rfl ?_; intro g cap w3 hown hgrow hat hlt3; have k3 := (hgrow.cell_far ⟨r, 3, none⟩ (by simp; omega) (by simp [Value.ownBlock])).trans (Mod.cellS (w := w1) (by repeat (first | exact Mod.refl _ _ | refine Mod.alloc ?_ _ | refine Mod.drew ?_)) c3); have kf := (hgrow.frozen_far ⟨r, 3, none⟩ (by simp; omega) (by simp [Value.ownBlock])).trans ((Mod.frozen (S := NoB) (w := w1) (by repeat (first | exact Mod.refl _ _ | refine Mod.alloc ?_ _ | refine Mod.drew ?_)) hr1 (fun x => x)).trans f3); have G2 := Lib.hid hgrow; clear hown hgrow hat))
  all_goals
    have hMX : Mod NoB w1 (w1.alloc (.cells #[.int .u64 a.f, .int .u64 a.t, .int .i64 node, .int .i64 ep] 128)).drew := ((Mod.refl _ _).alloc _).drew
    have hgr := G2.out
    have hm3 : Mod NoB w1 w3 := hMX.trans ⟨hgr.os, hgr.tape, hgr.output, hgr.size, fun k hk _ => hgr.block k hk (by simp [Value.ownBlock])⟩
    have HMF := Lib.hid (Mod.setCell (S := (· = r)) ((HM1.out.trans hm3).mono (fun _ _ x => x.elim)) (p := ⟨r, 3, none⟩) (fun _ => rfl) (.slice (some ⟨g, 0, none⟩) 1 cap))
    clear hgr hm3 hMX
    go_wp2_with fail
    go_ret
    exact ⟨rfl, HMF.out⟩
end Go.Proofs.YtpcmbnbdppembaaGreatDoor

/- rosarylaw15.Loaded with nothing to put in. -/
namespace Go.Proofs.YtpcmbnbdppembaaGreatDoor
set_option linter.unusedSimpArgs false
set_option linter.unusedVariables false
open Go.RowKit Go.Shelf
attribute [local go_sem ↓] Go.wp_at_zero Go.wp_at_succ

def stL (node : Int) (a : Arc) (ep : Int) : HSt := ownSt ⟨node, 200, 0, [], false, ⟨0, 0⟩, []⟩ a ep

set_option maxRecDepth 100000 in
set_option maxHeartbeats 16000000 in
theorem loaded_nil (node : Int) (a : Arc) (ep : Int) (hep : 0 ≤ ep) (av : Option Addr) (cap : Nat) (w : World) : Calls Tryz.prog 13 #[.int .i64 node, .agg #[.int .u64 a.f, .int .u64 a.t], .int .i64 ep, .slice av 0 cap] w fun e w' =>
    ∃ h r B, e = .returned (.tuple #[.pointer (some ⟨h, 0, none⟩), .pointer (some ⟨r, 0, none⟩)]) ∧ NewI w w' h (stL node a ep) [] B := by
  go_enter Tryz.func13, Tryz.ntmps13
  go_wp2_with fail
  refine (new_any node 200 _ (by decide) (by decide)).mono ?_
  rintro e w1 ⟨h, B, rfl, q1, q2, q3⟩
  have hm1 := ((Mod.refl NoB w).alloc (.cells #[.int .u64 a.f, .int .u64 a.t] 25)).trans q2
  have bA1 := (q2.block w.heap.size (by simp) (fun x => x)).trans (heap_alloc_new w (.cells #[.int .u64 a.f, .int .u64 a.t] 25))
  have q3' : ∀ k ∈ B, w.heap.size + 1 ≤ k := fun k hk => by have := q3 k hk; simpa using this
  have hq1lt := q1.lts
  have N1 : Hid (NewI w w1 h ⟨node, 200, 0, [], false, ⟨0, 0⟩, []⟩ [] B) := Lib.hid ⟨⟨none, 0, q1, ShOK.start⟩, hm1, fun k hk => by have := q3' k hk; omega⟩
  have HBA := Lib.hid bA1; have HQ1 := Lib.hid q1; have HQ3 := Lib.hid q3'; have HLT1 := Lib.hid hq1lt
  clear q1 q2 q3 q3' hm1 bA1 hq1lt
  go_wp2_with fail
  refine (holds_any node 200 _ (by decide) (by decide)).mono ?_
  rintro e w2 ⟨r, rfl, hr1, hr2, hm2⟩
  have a0 := hm2.cellS (cell_of HBA.out 0 (v := .int .u64 a.f) rfl)
  have a1 := hm2.cellS (cell_of HBA.out 1 (v := .int .u64 a.t) rfl)
  have HR1 := Lib.hid hr1; have HR2 := Lib.hid hr2; have HM2 := Lib.hid hm2
  have N2 : Hid (NewI w w2 h ⟨node, 200, 0, [], false, ⟨0, 0⟩, []⟩ [] B) := Lib.hid (N1.out.quiet hm2)
  have HQ2 := Lib.hid (HQ1.out.mod hm2 (fun _ _ x => x))
  clear hr1 hr2 hm2
  go_wp2_with fail
  refine (own_any HQ2.out a ep (by simp)).mono ?_
  rintro e w3 ⟨rfl, B3, hh3, ht3⟩
  rw [may_none hep rfl] at hh3 ⊢
  rw [if_pos rfl] at hh3
  have N3 : Hid (NewI w w3 h (stL node a ep) [] B3) := Lib.hid (N2.out.turn ⟨none, 0, hh3, ShOK.start⟩ ht3)
  have hrB : r ∉ B := fun hb => by have := HLT1.out r hb; have := HR1.out; omega
  have hrl : r < w2.heap.size := (Array.getElem?_eq_some_iff.1 HR2.out).1
  have hr3 := (ht3.1.block r hrl hrB).trans HR2.out
  have hAB : w.heap.size ∉ B := fun hb => by have := HQ3.out _ hb; omega
  have bA3 := (ht3.1.block w.heap.size (by have := cell_lt' a0; exact this) hAB).trans ((HM2.out.block w.heap.size (Array.getElem?_eq_some_iff.1 HBA.out).1 (fun x => x)).trans HBA.out)
  have a0 := cell_of bA3 0 (v := .int .u64 a.f) rfl
  have a1 := cell_of bA3 1 (v := .int .u64 a.t) rfl
  have hrB3 : r ∉ B3 := fun hb => (ht3.2 r hb).elim hrB (fun h => by omega)
  have HR3 := Lib.hid hr3; have HRB3 := Lib.hid hrB3; have HRL : Hid (w.heap.size ≤ r) := Lib.hid (Nat.le_trans N1.out.2.1.size HR1.out)
  clear hh3 ht3 hr3 hrB hrl hAB bA3 hrB3
  go_wp2_with fail
  refine (rown_none HR3.out a ep hep).mono ?_
  rintro e w4 ⟨rfl, hm4⟩
  have N4 : Hid (NewI w w4 h (stL node a ep) [] B3) := Lib.hid ⟨N3.out.1.mod hm4 (fun k hk e => HRB3.out (by have e2 : k = r := e; rw [← e2]; exact hk)), N3.out.2.1.then hm4 (fun k hk e => by have e2 : k = r := e; have := HRL.out; omega), N3.out.2.2⟩
  clear hm4 a0 a1
  go_wp2_with fail
  go_loopw [12] (fun i wr => i = .int .i64 0 ∧ wr = w4) (fun _ _ => 0)
  case atStart => exact ⟨rfl, rfl⟩
  case round =>
    obtain ⟨rfl, rfl⟩ := hrel
    go_wp2_with fail
    refine bodyPost_ret (v := .tuple #[.pointer (some ⟨h, 0, none⟩), .pointer (some ⟨r, 0, none⟩)]) (by simp [results, Tryz.results13, go_sem]) rfl ?_
    exact ⟨h, r, B3, rfl, N4.out⟩
end Go.Proofs.YtpcmbnbdppembaaGreatDoor

/- take: a Take in memory; tell, Step. -/
namespace Go.Proofs.YtpcmbnbdppembaaGreatDoor
set_option linter.unusedSimpArgs false
set_option linter.unusedVariables false
open Go.RowKit Go.Shelf
attribute [local go_sem ↓] Go.wp_at_zero Go.wp_at_succ
attribute [local go_sem ↓] ldL_eq bsL_eq

/-- a Take -/
structure Tv where
  h : Nat
  a : Arc
  ep : Int
  n : Int
  me : Int
  fr : Int
  id : Int
  step : Int
  chs : Int
  l : Value
abbrev encTv (t : Tv) : Array Value := #[.pointer (some ⟨t.h, 0, none⟩), .int .u64 t.a.f, .int .u64 t.a.t, .int .i64 t.ep, .int .i64 t.n, .int .i64 t.me, .int .i64 t.fr, .int .i64 t.id, .int .i64 t.step, .int .i64 t.chs, t.l]
abbrev TvAt (w : World) (b : Nat) (t : Tv) : Prop := w.heap[b]? = some (.cells (encTv t) 137 (0, 0))
theorem TvAt.lt {w : World} {b : Nat} {t : Tv} (h : TvAt w b t) : b < w.heap.size := (Array.getElem?_eq_some_iff.1 h).1
theorem TvAt.mod {S : Nat → Prop} {w w' : World} {b : Nat} {t : Tv} (h : TvAt w b t) (hm : Mod S w w') (hb : ¬ S b) : TvAt w' b t := (hm.block b h.lt hb).trans h

set_option maxRecDepth 100000 in
set_option maxHeartbeats 8000000 in
theorem tell_any {w : World} {b : Nat} {t : Tv} (h : TvAt w b t) (kd n : Int) : Calls Tryz.prog 74 #[.pointer (some ⟨b, 0, none⟩), .int .i64 kd, .int .i64 n] w fun e w' =>
    ∃ N, e = .returned (.slice (some ⟨N, 0, none⟩) 1 1) ∧ w.heap.size ≤ N ∧ w'.heap[N]? = some (.cells (encLx (ltr kd t.me t.fr t.id ⟨0, 0⟩ 0 (.slice none 0 0) n)) 50 (0, 0)) ∧ Mod NoB w w' := by
  have c5 := cell_of h 5 (v := .int .i64 t.me) rfl
  have c6 := cell_of h 6 (v := .int .i64 t.fr) rfl
  have c7 := cell_of h 7 (v := .int .i64 t.id) rfl
  have hb := h.lt
  have hbs := bsL_run (cs := encLx (ltr kd t.me t.fr t.id ⟨0, 0⟩ 0 (.slice none 0 0) n)) rfl
  dsimp only [encLx, ltr] at hbs
  have KEEP : Hid (∀ X, Mod NoB w X → (X.cell? ⟨b, 5, none⟩ = some (.int .i64 t.me) ∧ X.cell? ⟨b, 6, none⟩ = some (.int .i64 t.fr) ∧ X.cell? ⟨b, 7, none⟩ = some (.int .i64 t.id))) := Lib.hid (fun X hm => ⟨hm.cellS c5, hm.cellS c6, hm.cellS c7⟩)
  clear h c5 c6 c7
  go_enter Tryz.func74, Tryz.ntmps74
  go_wp2_with fail
  go_region_held3 (fun X => X.cell? ⟨b, 5, none⟩ = some (.int .i64 t.me) ∧ X.cell? ⟨b, 6, none⟩ = some (.int .i64 t.fr) ∧ X.cell? ⟨b, 7, none⟩ = some (.int .i64 t.id)) (exact KEEP.out _ (by repeat (first | exact Mod.refl _ _ | refine Mod.alloc ?_ _ | refine Mod.drew ?_))) ((first | fail))
  all_goals
    go_wp2_with fail
    go_ret
    exact ⟨w.heap.size, rfl, Nat.le_refl _, heap_alloc_new w _, by repeat (first | exact Mod.refl _ _ | refine Mod.alloc ?_ _ | refine Mod.drew ?_)⟩

theorem tstep_any {w : World} {b : Nat} {t : Tv} (h : TvAt w b t) : Calls Tryz.prog 30 #[.pointer (some ⟨b, 0, none⟩)] w fun e w' => e = .returned (.int .i64 t.step) ∧ w' = w := by
  have c7 := cell_of h 8 (v := .int .i64 t.step) rfl
  go_enter Tryz.func30, Tryz.ntmps30
  go_wp2_with fail
  go_ret
  exact ⟨rfl, rfl⟩
end Go.Proofs.YtpcmbnbdppembaaGreatDoor

/- take.Offered: what meets. -/
namespace Go.Proofs.YtpcmbnbdppembaaGreatDoor
set_option linter.unusedSimpArgs false
set_option linter.unusedVariables false
open Go.RowKit Go.Shelf
attribute [local go_sem ↓] Go.wp_at_zero Go.wp_at_succ

theorem predOff (a : Arc) (B : Nat) (w : World) (hB : B < w.heap.size) (h0 : w.cell? ⟨B, 15, none⟩ = some (.int .u64 a.f)) (h1 : w.cell? ⟨B, 16, none⟩ = some (.int .u64 a.t)) :
    PredBelow Tryz.prog 72 #[.pointer (some ⟨B, 0, none⟩)] (fun o => .agg (encOw o).toArray) (fun o => !apartA o.arc a) w := fun W o hb => by
  have c0 : W.cell? ⟨B, 15, none⟩ = some (.int .u64 a.f) := (hb.cell (p := ⟨B, 15, none⟩) hB).trans h0
  have c1 : W.cell? ⟨B, 16, none⟩ = some (.int .u64 a.t) := (hb.cell (p := ⟨B, 16, none⟩) hB).trans h1
  have hBW : B < W.heap.size := Nat.lt_of_lt_of_le hB hb.size
  have hne : B ≠ W.heap.size := by omega
  show Calls Tryz.prog 72 #[.agg #[.int .u64 o.f, .int .u64 o.t, .int .i64 o.node, .int .i64 o.ep], .pointer (some ⟨B, 0, none⟩)] W _
  have HBL := Lib.hid hb
  clear hb h0 h1
  go_enter Tryz.func72, Tryz.ntmps72
  go_wp2_with (go_at_call 73; refine (apart_any o.arc a _).mono ?_; rintro e w' ⟨rfl, hm⟩; have HM := Lib.hid hm; clear hm)
  go_ret
  exact ⟨by first | rfl | simp, HBL.out.trans ((((Mod.refl NoB W).alloc _).trans HM.out).toBelow HBL.out.size)⟩

/-- does one of a row's arcs meet? -/
theorem meets_any {w : World} {base : Nat} {u : Value} {l : List Ow} (h : w.ownsRow base 128 4 u l.length (l.flatMap encOw)) (a : Arc) (B : Nat) (hB : B < w.heap.size) (h0 : w.cell? ⟨B, 15, none⟩ = some (.int .u64 a.f)) (h1 : w.cell? ⟨B, 16, none⟩ = some (.int .u64 a.t)) :
    Calls Tryz.prog 71 #[u, .func (.func 72) #[] #[.pointer (some ⟨B, 0, none⟩)]] w fun e w' => e = .returned (.bool (l.any fun o => !apartA o.arc a)) ∧ Mod NoB w w' := by
  have eg : ∀ args w, (callFunc 72 args).run Tryz.prog w = .ok (.enter 72 args) w := enters_of Tryz.func72 (by kernel_rfl) rfl
  rcases own_row (k := 4) (enc := encOw) (fun _ => rfl) h with ⟨rfl, hl⟩ | ⟨g, cap, rfl, hg, hcap, hcm, hrow⟩
  · refine (cfOw_empty _ _ _ _).mono ?_
    rintro e w' ⟨rfl, rfl⟩
    rw [hl]
    exact ⟨rfl, Mod.refl _ _⟩
  · have hcon := AnyQ.slices_ContainsFunc Tryz.cfOw 4 Tryz.isAgg128 Tryz.sizeOf128 encOw (fun _ => rfl) (fun o => !apartA o.arc a) 72 #[.pointer (some ⟨B, 0, none⟩)] eg g 0 l.length cap l w
      (predOff a B w hB h0 h1) (Nat.le_refl _) (Nat.le_trans hcap (by unfold maxLen at hcm; omega)) (by omega) (fun j hj i u hu => hrow j hj i u hu)
    change Calls Tryz.prog 71 _ _ _ at hcon
    refine hcon.mono ?_
    rintro e w' ⟨rfl, hb⟩
    exact ⟨by rw [List.take_length], Mod.ofBelow hb⟩
end Go.Proofs.YtpcmbnbdppembaaGreatDoor

/- take.Offered. -/
namespace Go.Proofs.YtpcmbnbdppembaaGreatDoor
set_option linter.unusedSimpArgs false
set_option linter.unusedVariables false
open Go.RowKit Go.Shelf
attribute [local go_sem ↓] Go.wp_at_zero Go.wp_at_succ

/-- what Arcs tells, of which one meets an arc or none does -/
def ArcsMeet (h : Nat) (a : Arc) (m : Bool) (w : World) : Prop := ∀ w1, Mod NoB w w1 → Calls Tryz.prog 34 #[.pointer (some ⟨h, 0, none⟩)] w1 fun e w' =>
  ∃ u, e = .returned u ∧ ∃ l : List Ow, w'.ownsRow w1.heap.size 128 4 u l.length (l.flatMap encOw) ∧ (l.any fun o => !apartA o.arc a) = m ∧ Mod NoB w1 w'

def OffPost (w : World) (h : Nat) (st : HSt) (xs : List Itm) (B : List Nat) (a : Arc) (me fr id ep n : Int) (may m : Bool) (e : Ending) (w' : World) : Prop :=
  ∃ N, w.heap.size ≤ N ∧ Turn B w w' B ∧ ((may = true ∧ m = false ∧ 0 ≤ n ∧ n ≤ st.most - xs.length - st.kept ∧ ∃ b, e = .returned (.tuple #[.pointer (some ⟨b, 0, none⟩), .slice (some ⟨N, 0, none⟩) 1 1]) ∧ w.heap.size ≤ b ∧ b ∉ B ∧ TvAt w' b ⟨h, a, ep, n, me, fr, id, 1, 0, .slice none 0 0⟩ ∧
          w'.heap[N]? = some (.cells (encLx (ltr 11 me fr id ⟨0, 0⟩ 0 (.slice none 0 0) 1)) 50 (0, 0)) ∧ HoldI w' h { st with kept := st.kept + n } xs B) ∨
        (¬ (may = true ∧ m = false ∧ 0 ≤ n ∧ n ≤ st.most - xs.length - st.kept) ∧ e = .returned (.tuple #[.pointer none, .slice (some ⟨N, 0, none⟩) 1 1]) ∧ w'.heap[N]? = some (.cells (encLx (ltr 11 me fr id ⟨0, 0⟩ 0 (.slice none 0 0) 0)) 50 (0, 0)) ∧ HoldI w' h st xs B))

set_option maxRecDepth 100000 in
set_option maxHeartbeats 16000000 in
theorem offered_any {w : World} {h : Nat} {st : HSt} {xs : List Itm} {B : List Nat} (hh : HoldI w h st xs B) {a : Arc} {m : Bool} (hA : ArcsMeet h a m w) {me fr id ep n : Int} (hep : 0 ≤ ep) (hn : -1000000 ≤ n ∧ n ≤ 1000000) (hk : 0 ≤ st.kept ∧ st.kept ≤ 1000000) (hmo : 0 ≤ st.most ∧ st.most ≤ 1000000) (hx : xs.length ≤ 1000000) (may : Bool)
    {cx : Array Value} (x0 : cx[0]? = some (.int .i64 10)) (x1 : cx[1]? = some (.int .i64 fr)) (x2 : cx[2]? = some (.int .i64 me)) (x3 : cx[3]? = some (.int .i64 id)) (x15 : cx[15]? = some (.int .u64 a.f)) (x16 : cx[16]? = some (.int .u64 a.t)) (x17 : cx[17]? = some (.int .i64 ep)) (x19 : cx[19]? = some (.int .i64 n)) :
    Calls Tryz.prog 26 #[.pointer (some ⟨h, 0, none⟩), .agg cx, .bool may] w fun e w' =>
      OffPost w h st xs B a me fr id ep n may m e w' := by
  have HH := Lib.hid hh; have HA := Lib.hid hA
  have HLT := Lib.hid hh.lts
  clear hh hA
  have hepn : ¬ ep < 0 := by omega
  go_enter Tryz.func26, Tryz.ntmps26
  go_wp2_with fail
  obtain ⟨N0, hN0⟩ : ∃ N0, N0 = w.heap.size := ⟨_, rfl⟩
  obtain ⟨w0, hw0⟩ : ∃ w0, w0 = (w.alloc (.cells cx 50)).alloc (.cells #[.pointer (some ⟨h, 0, none⟩), .int .u64 a.f, .int .u64 a.t, .int .i64 ep, .int .i64 n, .int .i64 me, .int .i64 fr, .int .i64 id, .int .i64 1, .int .i64 0, .slice none 0 0] 137) := ⟨_, rfl⟩
  have hm0 : Mod NoB w w0 := by rw [hw0]; exact ((Mod.refl _ _).alloc _).alloc _
  have bX : w0.heap[N0]? = some (.cells cx 50 (0, 0)) := by rw [hw0, hN0, Below.heap_alloc _ _ _ (by simp)]; exact heap_alloc_new w _
  have bT : TvAt w0 (N0 + 1) ⟨h, a, ep, n, me, fr, id, 1, 0, .slice none 0 0⟩ := by rw [hw0, hN0]; exact heap_two _ _ _
  rw [← hw0, ← hN0]
  have HM0 := Lib.hid hm0; have HBX := Lib.hid bX; have HBT := Lib.hid bT; have HN0 := Lib.hid hN0
  clear hw0 hN0 hm0 bX bT
  refine (HA.out _ HM0.out).mono ?_
  rintro e w1 ⟨u, rfl, l, hrow, hany, hm1⟩
  have bX1 := (hm1.block N0 (Array.getElem?_eq_some_iff.1 HBX.out).1 (fun x => x)).trans HBX.out
  have HBX1 := Lib.hid bX1; have HROW := Lib.hid hrow; have HANY := Lib.hid hany; have HM1 := Lib.hid hm1
  have hN0l : N0 < w1.heap.size := (Array.getElem?_eq_some_iff.1 bX1).1
  clear bX1 hrow hany hm1
  go_wp2_with fail
  refine (meets_any HROW.out a N0 hN0l (cell_of HBX1.out 15 x15) (cell_of HBX1.out 16 x16)).mono ?_
  rintro e w2 ⟨rfl, hm2⟩
  rw [HANY.out]
  have hm02 := HM1.out.trans hm2
  have bX2 := (hm2.block N0 hN0l (fun x => x)).trans HBX1.out
  have y17 := cell_of bX2 17 x17; have y19 := cell_of bX2 19 x19
  have HT := Lib.hid (HBT.out.mod hm02 (fun x => x)); have HW2 := Lib.hid (HM0.out.trans hm02); have HBX2 := Lib.hid bX2
  have HH2 := Lib.hid (HH.out.mod (HM0.out.trans hm02) (fun _ _ x => x))
  clear hm2 hm02 bX2 x0 x1 x2 x3 x15 x16
  cases may with
  | false =>
    go_wp2_with fail
    refine (tell_any HT.out 11 0).mono ?_
    rintro e w5 ⟨N, rfl, hN1, hN2, hm5⟩
    have HN1 := Lib.hid hN1; have HN2 := Lib.hid hN2; have HM5 := Lib.hid hm5
    clear hN1 hN2 hm5
    go_wp2_with fail
    refine bodyPost_ret (v := .tuple #[.pointer none, .slice (some ⟨N, 0, none⟩) 1 1]) (by simp [results, Tryz.results26, go_sem]) rfl ?_
    unfold OffPost
    exact ⟨N, Nat.le_trans HW2.out.size HN1.out, (Turn.of_no (A := B) HW2.out).trans (Turn.of_no HM5.out), .inr ⟨fun hx => Bool.noConfusion hx.1, rfl, HN2.out, (HH2.out).mod HM5.out (fun _ _ x => x)⟩⟩
  | true =>
    cases m with
    | true =>
      go_wp2_with fail
      refine (tell_any HT.out 11 0).mono ?_
      rintro e w5 ⟨N, rfl, hN1, hN2, hm5⟩
      have HN1 := Lib.hid hN1; have HN2 := Lib.hid hN2; have HM5 := Lib.hid hm5
      clear hN1 hN2 hm5
      go_wp2_with fail
      refine bodyPost_ret (v := .tuple #[.pointer none, .slice (some ⟨N, 0, none⟩) 1 1]) (by simp [results, Tryz.results26, go_sem]) rfl ?_
      unfold OffPost
      exact ⟨N, Nat.le_trans HW2.out.size HN1.out, (Turn.of_no (A := B) HW2.out).trans (Turn.of_no HM5.out), .inr ⟨fun hx => Bool.noConfusion hx.2.1, rfl, HN2.out, (HH2.out).mod HM5.out (fun _ _ x => x)⟩⟩
    | false =>
      go_wp2_with fail
      refine (keep_any HH2.out n hn hk hmo hx).mono ?_
      rintro e w3 ⟨rfl, hh3, ht3⟩
      have hNB : N0 ∉ B := fun hb => by have := HLT.out _ hb; have := HN0.out; omega
      have hTB : N0 + 1 ∉ B := fun hb => by have := HLT.out _ hb; have := HN0.out; omega
      have HT3 := Lib.hid (HT.out.mod ht3.1 hTB)
      have HH3 := Lib.hid hh3; have HTU := Lib.hid ((Turn.of_no (A := B) HW2.out).trans ht3)
      clear hh3 ht3
      by_cases hok : 0 ≤ n ∧ n ≤ st.most - xs.length - st.kept
      · rw [decide_eq_true hok]
        go_wp2_with fail
        refine (tell_any HT3.out 11 1).mono ?_
        rintro e w5 ⟨N, rfl, hN1, hN2, hm5⟩
        have HN1 := Lib.hid hN1; have HN2 := Lib.hid hN2; have HM5 := Lib.hid hm5
        clear hN1 hN2 hm5
        go_wp2_with fail
        refine bodyPost_ret (v := .tuple #[.pointer (some ⟨N0 + 1, 0, none⟩), .slice (some ⟨N, 0, none⟩) 1 1]) (by simp [results, Tryz.results26, go_sem]) rfl ?_
        have hh := HH3.out
        rw [if_pos hok] at hh
        unfold OffPost
        exact ⟨N, Nat.le_trans HTU.out.1.size HN1.out, HTU.out.trans (Turn.of_no HM5.out), .inl ⟨rfl, rfl, hok.1, hok.2, N0 + 1, rfl, by have := HN0.out; omega, hTB, HT3.out.mod HM5.out (fun x => x), HN2.out, hh.mod HM5.out (fun _ _ x => x)⟩⟩
      · rw [decide_eq_false hok]
        have hh := HH3.out
        rw [if_neg hok] at hh
        have HHN := Lib.hid hh
        clear hh
        go_wp2_with fail
        refine (tell_any HT3.out 11 0).mono ?_
        rintro e w5 ⟨N, rfl, hN1, hN2, hm5⟩
        have HN1 := Lib.hid hN1; have HN2 := Lib.hid hN2; have HM5 := Lib.hid hm5
        clear hN1 hN2 hm5
        go_wp2_with fail
        refine bodyPost_ret (v := .tuple #[.pointer none, .slice (some ⟨N, 0, none⟩) 1 1]) (by simp [results, Tryz.results26, go_sem]) rfl ?_
        unfold OffPost
        exact ⟨N, Nat.le_trans HTU.out.1.size HN1.out, HTU.out.trans (Turn.of_no HM5.out), .inr ⟨fun hx => hok hx.2.2, rfl, HN2.out, (HHN.out).mod HM5.out (fun _ _ x => x)⟩⟩
end Go.Proofs.YtpcmbnbdppembaaGreatDoor

/- take.Got: the commit, the drop. -/
namespace Go.Proofs.YtpcmbnbdppembaaGreatDoor
set_option linter.unusedSimpArgs false
set_option linter.unusedVariables false
open Go.RowKit Go.Shelf
attribute [local go_sem ↓] Go.wp_at_zero Go.wp_at_succ
attribute [local go_sem] Oper.semAt_some

set_option maxRecDepth 100000 in
set_option maxHeartbeats 16000000 in
theorem got_drop {w : World} {b : Nat} {t : Tv} (h : TvAt w b t) (hst : t.step = 1) {st : HSt} {xs : List Itm} {B : List Nat} (hh : HoldI w t.h st xs B) (hbB : b ∉ B) (h0 : 0 ≤ t.n) (hn : t.n ≤ 1000000) (hk : 0 ≤ st.kept ∧ st.kept ≤ 1000000)
    {cx : Array Value} (x0 : cx[0]? = some (.int .i64 16)) (x1 : cx[1]? = some (.int .i64 t.fr)) (x3 : cx[3]? = some (.int .i64 t.id)) :
    Calls Tryz.prog 29 #[.pointer (some ⟨b, 0, none⟩), .agg cx] w fun e w' => e = .returned (.tuple #[.slice none 0 0, .bool true]) ∧ TvAt w' b { t with step := 3 } ∧ HoldI w' t.h { st with kept := max (st.kept - t.n) 0 } xs B ∧ Turn (b :: B) w w' (b :: B) := by
  have HG := Lib.hid h
  have HH := Lib.hid hh
  have hb := h.lt
  clear h hh
  go_enter Tryz.func29, Tryz.ntmps29
  go_wp2_with fail
  obtain ⟨B0, hB0⟩ : ∃ B0, B0 = w.heap.size := ⟨_, rfl⟩
  obtain ⟨w1, hw1⟩ : ∃ w1, w1 = w.alloc (.cells cx 50) := ⟨_, rfl⟩
  have hm1 : Mod NoB w w1 := by rw [hw1]; exact (Mod.refl _ _).alloc _
  have bX : w1.heap[B0]? = some (.cells cx 50 (0, 0)) := by rw [hw1, hB0]; exact heap_alloc_new w _
  have G1 : TvAt w1 b t := HG.out.mod hm1 (fun x => x)
  rw [← hw1, ← hB0]
  have HX := Lib.hid bX; have HM1 := Lib.hid hm1; have HG1 := Lib.hid G1; have HB0 := Lib.hid hB0
  have y0 := cell_of bX 0 x0; have y1 := cell_of bX 1 x1; have y3 := cell_of bX 3 x3
  have g0 := cell_of G1 0 (v := .pointer (some ⟨t.h, 0, none⟩)) rfl
  have g4 := cell_of G1 4 (v := .int .i64 t.n) rfl
  have g6 := cell_of G1 6 (v := .int .i64 t.fr) rfl
  have g7 := cell_of G1 7 (v := .int .i64 t.id) rfl
  have g8 : w1.cell? ⟨b, 8, none⟩ = some (.int .i64 1) := cell_of G1 8 (by simp [hst])
  clear hw1 hB0 bX hm1 G1 HG x0 x1 x3
  go_quiet (fail)
  go_wp2_with fail
  go_quiet (fail)
  go_wp2_with fail
  go_quiet (fail)
  go_wp2_with fail
  have hH1 : HoldI w1 t.h st xs B := HH.out.mod HM1.out (fun _ _ x => x)
  have KEEP : Hid (∀ X, Mod (· ∈ B) w1 X → (X.cell? ⟨b, 0, none⟩ = some (.pointer (some ⟨t.h, 0, none⟩)) ∧ X.cell? ⟨b, 4, none⟩ = some (.int .i64 t.n))) := Lib.hid (fun X hm => by
    have gx : TvAt X b t := HG1.out.mod hm hbB
    exact ⟨cell_of gx 0 rfl, cell_of gx 4 rfl⟩)
  have HH1 := Lib.hid hH1
  clear hH1 g0 g4 g6 g7 g8 y0 y1 y3
  go_region_held3 (fun X => X.cell? ⟨b, 0, none⟩ = some (.pointer (some ⟨t.h, 0, none⟩)) ∧ X.cell? ⟨b, 4, none⟩ = some (.int .i64 t.n)) (first | exact KEEP.out _ M6.out | exact KEEP.out _ (Mod.mono (S := NoB) (by repeat (first | exact Mod.refl _ _ | refine Mod.alloc ?_ _ | refine Mod.drew ?_ | refine Mod.drewN ?_ _)) (fun _ _ x => x.elim))) ((first | (go_simp; go_at_call 78; go_loud (refine (release_any (HH1.out.mod (S := NoB) (by repeat (first | exact Mod.refl _ _ | refine Mod.alloc ?_ _ | refine Mod.drew ?_ | refine Mod.drewN ?_ _)) (fun _ _ x => x)) t.n h0 hn hk).mono ?_; rintro e w5 ⟨⟨vv, rfl⟩, hh5, ht5⟩; have hm6 := Mod.trans (S := (· ∈ B)) (a := w1) (Mod.mono (S := NoB) (by repeat (first | exact Mod.refl _ _ | refine Mod.alloc ?_ _ | refine Mod.drew ?_ | refine Mod.drewN ?_ _)) (fun _ _ x => x.elim)) ht5.1; obtain ⟨k0, k1⟩ := KEEP.out _ hm6; have M6 := Lib.hid hm6; have HH5 := Lib.hid hh5; clear hh5 ht5 hm6))))
  have G5 : TvAt w5 b t := HG1.out.mod M6.out hbB
  have f8 := frozen_of G5 8
  have c8 := cell_of G5 8 (v := .int .i64 t.step) rfl
  have HG5 := Lib.hid G5
  clear G5 k0 k1
  go_wp2_with fail
  have hg6 : TvAt (w5.setCell ⟨b, 8, none⟩ (.int .i64 3)) b { t with step := 3 } := heap_set HG5.out 8 _
  have hmS : Mod (· = b) w5 (w5.setCell ⟨b, 8, none⟩ (.int .i64 3)) := Mod.setCell (S := (· = b)) (Mod.refl _ _) (p := ⟨b, 8, none⟩) (fun _ => rfl) _
  have g8' := cell_of hg6 8 (v := .int .i64 3) rfl
  have HG6 := Lib.hid hg6; have HMS := Lib.hid hmS
  clear hg6 hmS f8 c8
  go_quiet (fail)
  go_wp2_with fail
  refine bodyPost_ret (v := .tuple #[.slice none 0 0, .bool true]) (by simp [results, Tryz.results29, go_sem]) rfl ?_
  have hmq : ∀ q, Mod NoB (w5.setCell ⟨b, 8, none⟩ (.int .i64 3)) ((w5.setCell ⟨b, 8, none⟩ (.int .i64 3)).drewN q) := fun q => (Mod.refl _ _).drewN q
  refine ⟨rfl, HG6.out.mod (hmq _) (fun x => x), (HH5.out.mod HMS.out (fun k hk e => hbB (by have e2 : k = b := e; rw [← e2]; exact hk))).mod (hmq _) (fun _ _ x => x), ?_, fun k hk => .inl hk⟩
  exact (((HM1.out.mono (fun _ _ x => x.elim)).trans (M6.out.mono (fun k _ hk => List.mem_cons_of_mem _ hk))).trans (HMS.out.mono (fun k _ hk => by have e : k = b := hk; subst e; exact List.mem_cons_self))).trans ((hmq _).mono (fun _ _ x => x.elim))
end Go.Proofs.YtpcmbnbdppembaaGreatDoor

/- take.Got: the commit. -/
namespace Go.Proofs.YtpcmbnbdppembaaGreatDoor
set_option linter.unusedSimpArgs false
set_option linter.unusedVariables false
open Go.RowKit Go.Shelf
attribute [local go_sem ↓] Go.wp_at_zero Go.wp_at_succ
attribute [local go_sem] Oper.semAt_some

set_option maxRecDepth 100000 in
set_option maxHeartbeats 16000000 in
theorem got_commit2 {w : World} {b : Nat} {t : Tv} (h : TvAt w b t) (hst : t.step = 1) {st : HSt} {xs its : List Itm} {B : List Nat} (hh : HoldI w t.h st xs B) (hbB : b ∉ B) (hr : Beside w t.l its B) (hln : (its.length : Int) = t.n)
    {st2 : HSt} {ys : List Itm} (hW : ∀ w1, HoldI w1 t.h st xs B → Beside w1 t.l its B → Calls Tryz.prog 77 #[.pointer (some ⟨t.h, 0, none⟩), .agg #[.int .u64 t.a.f, .int .u64 t.a.t], .int .i64 t.ep, t.l] w1 fun e w' => e = .returned (.int .i64 0) ∧ ∃ B', HoldI w' t.h st2 ys B' ∧ Turn B w1 w' B')
    {cx : Array Value} (x0 : cx[0]? = some (.int .i64 14)) (x1 : cx[1]? = some (.int .i64 t.fr)) (x3 : cx[3]? = some (.int .i64 t.id)) :
    Calls Tryz.prog 29 #[.pointer (some ⟨b, 0, none⟩), .agg cx] w fun e w' => ∃ N B', e = .returned (.tuple #[.slice (some ⟨N, 0, none⟩) 1 1, .bool true]) ∧ w.heap.size ≤ N ∧ w'.heap[N]? = some (.cells (encLx (ltr 15 t.me t.fr t.id ⟨0, 0⟩ 0 (.slice none 0 0) 0)) 50 (0, 0)) ∧
      TvAt w' b { t with step := 2 } ∧ HoldI w' t.h st2 ys B' ∧ Turn (b :: B) w w' (b :: B') ∧ b ∉ B' := by
  obtain ⟨av, lcap, hlv, _⟩ := id hr.sl
  have HW := Lib.hid hW; have HR := Lib.hid hr
  have HG := Lib.hid h
  have HH := Lib.hid hh
  have hb := h.lt
  clear h hh hW hr
  go_enter Tryz.func29, Tryz.ntmps29
  go_wp2_with fail
  obtain ⟨B0, hB0⟩ : ∃ B0, B0 = w.heap.size := ⟨_, rfl⟩
  obtain ⟨w1, hw1⟩ : ∃ w1, w1 = w.alloc (.cells cx 50) := ⟨_, rfl⟩
  have hm1 : Mod NoB w w1 := by rw [hw1]; exact (Mod.refl _ _).alloc _
  have bX : w1.heap[B0]? = some (.cells cx 50 (0, 0)) := by rw [hw1, hB0]; exact heap_alloc_new w _
  have G1 : TvAt w1 b t := HG.out.mod hm1 (fun x => x)
  rw [← hw1, ← hB0]
  have HX := Lib.hid bX; have HM1 := Lib.hid hm1; have HG1 := Lib.hid G1; have HB0 := Lib.hid hB0
  have y0 := cell_of bX 0 x0; have y1 := cell_of bX 1 x1; have y3 := cell_of bX 3 x3
  have g0 := cell_of G1 0 (v := .pointer (some ⟨t.h, 0, none⟩)) rfl
  have g4 : w1.cell? ⟨b, 4, none⟩ = some (.int .i64 its.length) := cell_of G1 4 (by simp [hln])
  have g10 : w1.cell? ⟨b, 10, none⟩ = some (.slice av its.length lcap) := cell_of G1 10 (by simp [hlv])
  have g6 := cell_of G1 6 (v := .int .i64 t.fr) rfl
  have g7 := cell_of G1 7 (v := .int .i64 t.id) rfl
  have g8 : w1.cell? ⟨b, 8, none⟩ = some (.int .i64 1) := cell_of G1 8 (by simp [hst])
  clear hw1 hB0 bX hm1 G1 HG x0 x1 x3
  go_quiet (fail)
  go_wp2_with fail
  go_quiet (fail)
  go_wp2_with fail
  go_quiet (fail)
  go_wp2_with fail
  have hH1 : HoldI w1 t.h st xs B := HH.out.mod HM1.out (fun _ _ x => x)
  have KEEP : Hid (∀ X, Mod (· ∈ B) w1 X → (X.cell? ⟨b, 0, none⟩ = some (.pointer (some ⟨t.h, 0, none⟩)) ∧ X.cell? ⟨b, 1, none⟩ = some (.int .u64 t.a.f) ∧ X.cell? ⟨b, 2, none⟩ = some (.int .u64 t.a.t) ∧ X.cell? ⟨b, 3, none⟩ = some (.int .i64 t.ep) ∧ X.cell? ⟨b, 10, none⟩ = some (.slice av its.length lcap))) := Lib.hid (fun X hm => by
    have gx : TvAt X b t := HG1.out.mod hm hbB
    exact ⟨cell_of gx 0 rfl, cell_of gx 1 rfl, cell_of gx 2 rfl, cell_of gx 3 rfl, cell_of gx 10 (by simp [hlv])⟩)
  have HH1 := Lib.hid hH1
  have HR1 := Lib.hid (HR.out.quiet HM1.out)
  have HWW : Hid (∀ W, HoldI W t.h st xs B → Beside W t.l its B → Calls Tryz.prog 77 #[.pointer (some ⟨t.h, 0, none⟩), .agg #[.int .u64 t.a.f, .int .u64 t.a.t], .int .i64 t.ep, .slice av its.length lcap] W fun e w' => e = .returned (.int .i64 0) ∧ ∃ B', HoldI w' t.h st2 ys B' ∧ Turn B W w' B') := Lib.hid (fun W a1 a2 => by have := HW.out W a1 a2; rw [hlv] at this; exact this)
  clear hH1 g0 g4 g6 g7 g8 g10 y0 y1 y3 hlv
  go_region_held3 (fun X => X.cell? ⟨b, 0, none⟩ = some (.pointer (some ⟨t.h, 0, none⟩)) ∧ X.cell? ⟨b, 1, none⟩ = some (.int .u64 t.a.f) ∧ X.cell? ⟨b, 2, none⟩ = some (.int .u64 t.a.t) ∧ X.cell? ⟨b, 3, none⟩ = some (.int .i64 t.ep) ∧ X.cell? ⟨b, 10, none⟩ = some (.slice av its.length lcap)) (first | exact KEEP.out _ M6.out | exact KEEP.out _ (Mod.mono (S := NoB) (by repeat (first | exact Mod.refl _ _ | refine Mod.alloc ?_ _ | refine Mod.drew ?_ | refine Mod.drewN ?_ _)) (fun _ _ x => x.elim))) ((first | (go_simp; go_at_call 77; go_loud (refine (HWW.out _ (HH1.out.mod (S := NoB) (by repeat (first | exact Mod.refl _ _ | refine Mod.alloc ?_ _ | refine Mod.drew ?_ | refine Mod.drewN ?_ _)) (fun _ _ x => x)) (HR1.out.quiet (by repeat (first | exact Mod.refl _ _ | refine Mod.alloc ?_ _ | refine Mod.drew ?_ | refine Mod.drewN ?_ _)))).mono ?_; rintro e w5 ⟨rfl, B5, hh5, ht5⟩; have hm6 := Mod.trans (S := (· ∈ B)) (a := w1) (Mod.mono (S := NoB) (by repeat (first | exact Mod.refl _ _ | refine Mod.alloc ?_ _ | refine Mod.drew ?_ | refine Mod.drewN ?_ _)) (fun _ _ x => x.elim)) ht5.1; obtain ⟨k0, k1, k2, k3, k4⟩ := KEEP.out _ hm6; have M6 := Lib.hid hm6; have HH5 := Lib.hid hh5; have HT5 := Lib.hid ht5.2; clear hh5 ht5 hm6))))
  have G5 : TvAt w5 b t := HG1.out.mod M6.out hbB
  have f8 := frozen_of G5 8
  have c8 := cell_of G5 8 (v := .int .i64 t.step) rfl
  have HG5 := Lib.hid G5
  clear G5 k0 k1 k2 k3 k4
  go_wp2_with fail
  have hg6 : TvAt (w5.setCell ⟨b, 8, none⟩ (.int .i64 2)) b { t with step := 2 } := heap_set HG5.out 8 _
  have hmS : Mod (· = b) w5 (w5.setCell ⟨b, 8, none⟩ (.int .i64 2)) := Mod.setCell (S := (· = b)) (Mod.refl _ _) (p := ⟨b, 8, none⟩) (fun _ => rfl) _
  have HG6 := Lib.hid hg6; have HMS := Lib.hid hmS
  clear hg6 hmS f8 c8
  refine (tell_any HG6.out 15 0).mono ?_
  rintro e w7 ⟨N, rfl, hN1, hN2, hm7⟩
  have hg7 := HG6.out.mod hm7 (fun x => x)
  have g8' := cell_of hg7 8 (v := .int .i64 2) rfl
  have HG7 := Lib.hid hg7; have HN1 := Lib.hid hN1; have HN2 := Lib.hid hN2; have HM7 := Lib.hid hm7
  clear hg7 hN1 hN2 hm7
  go_wp2_with fail
  go_quiet (fail)
  go_wp2_with fail
  refine bodyPost_ret (v := .tuple #[.slice (some ⟨N, 0, none⟩) 1 1, .bool true]) (by simp [results, Tryz.results29, go_sem]) rfl ?_
  have hsz1 : w.heap.size ≤ w1.heap.size := HM1.out.size
  have hB5 : ∀ k ∈ B5, k ∈ B ∨ w.heap.size ≤ k := fun k hk => (HT5.out k hk).elim .inl (fun h => .inr (by simp at h; omega))
  have hbB5 : ∀ k ∈ B5, ¬ k = b := fun k hk e => (hB5 k hk).elim (fun h => hbB (e ▸ h)) (fun h => by omega)
  have hmq : ∀ q, Mod NoB w7 (w7.drewN q) := fun q => (Mod.refl _ _).drewN q
  refine ⟨N, B5, rfl, ?_, (((hmq _).block N (Array.getElem?_eq_some_iff.1 HN2.out).1 (fun x => x)).trans HN2.out), HG7.out.mod (hmq _) (fun x => x), ((HH5.out.mod HMS.out hbB5).mod HM7.out (fun _ _ x => x)).mod (hmq _) (fun _ _ x => x), ⟨?_, ?_⟩, fun hb2 => hbB5 b hb2 rfl⟩
  · have h1 := HN1.out; have h2 := M6.out.size; have h3 := HMS.out.size; omega
  · exact ((((HM1.out.mono (fun _ _ x => x.elim)).trans (M6.out.mono (fun k _ hk => List.mem_cons_of_mem _ hk))).trans (HMS.out.mono (fun k _ hk => by have e : k = b := hk; subst e; exact List.mem_cons_self))).trans (HM7.out.mono (fun _ _ x => x.elim))).trans ((hmq _).mono (fun _ _ x => x.elim))
  · intro k hk
    rcases List.mem_cons.1 hk with rfl | hk
    · exact .inl List.mem_cons_self
    · exact (hB5 k hk).imp (fun h => List.mem_cons_of_mem _ h) id
theorem got_commit {w : World} {b : Nat} {t : Tv} (h : TvAt w b t) (hst : t.step = 1) {st : HSt} {xs its : List Itm} {B : List Nat} (hh : HoldI w t.h st xs B) (hbB : b ∉ B) (hr : Beside w t.l its B) (hln : (its.length : Int) = t.n)
    {st2 : HSt} {ys : List Itm} (hW : ∀ w1, HoldI w1 t.h st xs B → Beside w1 t.l its B → Calls Tryz.prog 77 #[.pointer (some ⟨t.h, 0, none⟩), .agg #[.int .u64 t.a.f, .int .u64 t.a.t], .int .i64 t.ep, t.l] w1 fun e w' => e = .returned (.int .i64 0) ∧ ∃ B', HoldI w' t.h st2 ys B' ∧ Turn B w1 w' B')
    {cx : Array Value} (x0 : cx[0]? = some (.int .i64 14)) (x1 : cx[1]? = some (.int .i64 t.fr)) (x3 : cx[3]? = some (.int .i64 t.id)) :
    Calls Tryz.prog 29 #[.pointer (some ⟨b, 0, none⟩), .agg cx] w fun e w' => ∃ N B', e = .returned (.tuple #[.slice (some ⟨N, 0, none⟩) 1 1, .bool true]) ∧ w.heap.size ≤ N ∧ w'.heap[N]? = some (.cells (encLx (ltr 15 t.me t.fr t.id ⟨0, 0⟩ 0 (.slice none 0 0) 0)) 50 (0, 0)) ∧
      TvAt w' b { t with step := 2 } ∧ HoldI w' t.h st2 ys B' ∧ Turn (b :: B) w w' (b :: B') := by
  refine (got_commit2 h hst hh hbB hr hln hW x0 x1 x3).mono ?_
  rintro e w' ⟨N, B', h1, h2, h3, h4, h5, h6, _⟩
  exact ⟨N, B', h1, h2, h3, h4, h5, h6⟩
end Go.Proofs.YtpcmbnbdppembaaGreatDoor

/- take.lie: do all items lie in the arc? -/
namespace Go.Proofs.YtpcmbnbdppembaaGreatDoor
set_option linter.unusedSimpArgs false
set_option linter.unusedVariables false
open Go.RowKit Go.Shelf
attribute [local go_sem ↓] Go.wp_at_zero Go.wp_at_succ

set_option maxRecDepth 100000 in
set_option maxHeartbeats 16000000 in
theorem lie_any {w : World} {b : Nat} {t : Tv} (h : TvAt w b t) {v : Value} {its : List Itm} (hr : SlAt 2 encIt w v its) (hl : its.length ≤ 1000000) :
    Calls Tryz.prog 76 #[.pointer (some ⟨b, 0, none⟩), v] w fun e w' => e = .returned (.bool (its.all fun x => inA t.a (addr x.1))) ∧ Mod NoB w w' := by
  obtain ⟨av, cap, rfl, _⟩ := id hr
  have HT := Lib.hid h; have HR := Lib.hid hr
  clear h hr
  go_enter Tryz.func76, Tryz.ntmps76
  go_wp2_with fail
  go_step3
  go_wp2_with fail
  go_step3
  go_wp2_with fail
  go_loopw [5, 10] (fun al i wr => ∃ k : Nat, k ≤ its.length ∧ al = .bool true ∧ i = .int .i64 k ∧ ((its.take k).all fun x => inA t.a (addr x.1)) = true ∧ Mod NoB w wr) (fun _ i _ => its.length - (intOf i).toNat)
  case atStart => exact ⟨0, Nat.zero_le _, rfl, rfl, rfl, Mod.refl _ _⟩
  case round =>
    obtain ⟨k, hk, rfl, rfl, hall, hm⟩ := hrel
    have HM := Lib.hid hm; have HALL := Lib.hid hall
    clear hall hm
    by_cases hlt : k < its.length
    · have he : its[k]? = some its[k] := List.getElem?_eq_getElem hlt
      have HST : Hid (((its.take (k + 1)).all fun x => inA t.a (addr x.1)) = inA t.a (addr its[k].1)) := Lib.hid (by rw [List.take_add_one, he, List.all_append, HALL.out]; simp)
      have HNO : Hid (inA t.a (addr its[k].1) = false → (its.all fun x => inA t.a (addr x.1)) = false) := Lib.hid (fun hf => by
        rw [Bool.eq_false_iff]
        intro hx
        have := List.all_eq_true.1 hx its[k] (List.getElem_mem hlt)
        rw [hf] at this
        cases this)
      generalize its[k] = it at *
      obtain ⟨b', o', cap', hv, hb', r0, r1⟩ := at2 (HR.out.mod HM.out) he
      simp only [Value.slice.injEq] at hv
      obtain ⟨rfl, _, rfl⟩ := hv
      have ht := HT.out.mod HM.out (fun x => x)
      have g1 := cell_of ht 1 (v := .int .u64 t.a.f) rfl
      have g2 := cell_of ht 2 (v := .int .u64 t.a.t) rfl
      have hbl := ht.lt
      obtain ⟨Wr, rfl⟩ : ∃ Wr : World, Wr = wr := ⟨_, rfl⟩
      have KEEP : Hid (∀ X, Mod NoB (Wr.alloc (.cells #[.string it.1, .string it.2] 73)) X → (X.cell? ⟨b, 1, none⟩ = some (.int .u64 t.a.f) ∧ X.cell? ⟨b, 2, none⟩ = some (.int .u64 t.a.t) ∧ X.cell? ⟨Wr.heap.size, 0, none⟩ = some (.string it.1))) := Lib.hid (fun X hx =>
        ⟨(((Mod.refl NoB Wr).alloc _).trans hx).cellS g1, (((Mod.refl NoB Wr).alloc _).trans hx).cellS g2, hx.cellS (cell_of (heap_alloc_new Wr _) 0 rfl)⟩)
      clear he ht
      go_wp2_with fail
      go_region_held3 (fun X => X.cell? ⟨b, 1, none⟩ = some (.int .u64 t.a.f) ∧ X.cell? ⟨b, 2, none⟩ = some (.int .u64 t.a.t) ∧ X.cell? ⟨Wr.heap.size, 0, none⟩ = some (.string it.1)) (first | exact KEEP.out _ M6.out | exact KEEP.out _ (by repeat (first | exact Mod.refl _ _ | refine Mod.alloc ?_ _ | refine Mod.drew ?_ | refine Mod.drewN ?_ _))) ((first
        | (go_simp; go_at_call 53; go_loud (refine (addr_any it.1 _).mono ?_; rintro e w' ⟨rfl, rfl⟩))
        | (go_simp; go_at_call 139; go_loud (refine (in_any t.a (addr it.1) _).mono ?_; rintro e w5 ⟨rfl, hm5⟩; have hm6 := Mod.trans (S := NoB) (a := Wr.alloc (.cells #[.string it.1, .string it.2] 73)) (by repeat (first | exact Mod.refl _ _ | refine Mod.alloc ?_ _ | refine Mod.drew ?_ | refine Mod.drewN ?_ _)) hm5; obtain ⟨k0, k1, k2⟩ := KEEP.out _ hm6; have M6 := Lib.hid hm6; clear hm5 hm6))))
      have HM6 : Hid (Mod NoB Wr w5) := Lib.hid (((Mod.refl NoB Wr).alloc _).trans M6.out)
      cases hin : inA t.a (addr it.1)
      · have HF := Lib.hid (HNO.out hin)
        go_wp2_with fail
        simp (config := { zetaDelta := true }) only [Exit.inBlock, Exit.then, Exit.noGoto]
        refine bodyPost_ret (v := .bool false) (by simp [results, Tryz.results76, go_sem]) rfl ?_
        exact ⟨by rw [HF.out], HM.out.trans HM6.out⟩
      · rw [hin] at HST
        go_wp2_with fail
        refine ⟨⟨k + 1, hlt, rfl, by go_num, HST.out, HM.out.trans HM6.out⟩, by simp [intOf]; omega⟩
    · obtain rfl : k = its.length := by omega
      rw [List.take_length] at HALL
      go_wp2_with fail
      simp (config := { zetaDelta := true }) only [Exit.inBlock, Exit.then, Exit.noGoto]
      go_wp2_with fail
      go_ret
      exact ⟨by rw [HALL.out]; rfl, HM.out⟩
end Go.Proofs.YtpcmbnbdppembaaGreatDoor

/- take.Got: a chunk that is taken. -/
namespace Go.Proofs.YtpcmbnbdppembaaGreatDoor
set_option linter.unusedSimpArgs false
set_option linter.unusedVariables false
open Go.RowKit Go.Shelf
attribute [local go_sem ↓] Go.wp_at_zero Go.wp_at_succ
attribute [local go_sem] Oper.semAt_some

theorem row_slice {w : World} {k n : Nat} {e : TypeId} {v : Value} {cs : List Value} (h : w.ownsRow 0 e k v n cs) : ∃ av cap, v = .slice av n cap := by
  rcases ownsRow_form h with ⟨e1, e2⟩ | ⟨g, cap, e1⟩
  · exact ⟨none, 0, by rw [e1, e2]⟩
  · exact ⟨_, _, e1⟩

/-- what reads as a row reads cell by cell -/
theorem SlAt.read {w : World} {y : Value} {l : List Itm} (h : SlAt 2 encIt w y l) (hy : y = .slice none 0 0 ∨ ∃ a n c, y = .slice (some a) n c) : Read w y l.length (l.flatMap encIt) := by
  obtain ⟨av, cap, rfl, hx⟩ := h
  rcases hy with hy | ⟨a, n, c, hy⟩
  · simp only [Value.slice.injEq] at hy
    have h0 : l = [] := by
      cases l with
      | nil => rfl
      | cons x l => exact absurd hy.2.1 (by simp)
    subst h0
    exact .inl ⟨by rw [hy.1, hy.2.2]; rfl, rfl, rfl⟩
  · simp only [Value.slice.injEq] at hy
    refine .inr ⟨a, cap, by rw [hy.1], fun j u hu => ?_⟩
    have hj : j < l.length * 2 := by
      have := (List.getElem?_eq_some_iff.1 hu).1
      rwa [flat_length (k := 2) (enc := encIt) (fun _ => rfl)] at this
    have hk : j / 2 < l.length := by omega
    obtain ⟨b, o, hb, hc⟩ := hx (j / 2) l[j / 2] (List.getElem?_eq_getElem hk)
    rw [hy.1] at hb
    simp only [Option.some.injEq] at hb
    subst hb
    have hu2 : (encIt l[j / 2])[j % 2]? = some u := by
      rw [← hu]
      have h1 := flat_drop (k := 2) (enc := encIt) (fun _ => rfl) l (j / 2)
      rw [List.drop_eq_getElem_cons hk, List.flatMap_cons] at h1
      have h2 : (l.flatMap encIt)[j]? = ((l.flatMap encIt).drop (j / 2 * 2))[j % 2]? := by rw [List.getElem?_drop]; congr 1; omega
      rw [h2, h1, List.getElem?_append_left (by show j % 2 < 2; omega)]
    have h3 := hc (j % 2) u hu2
    rw [addr_lit]
    rw [show o + j / 2 * 2 + j % 2 = o + j by omega] at h3
    exact h3

def GotPost (w : World) (b : Nat) (t : Tv) (its news : List Itm) (n : Int) (e : Ending) (w' : World) : Prop :=
  ∃ N v', e = .returned (.tuple #[.slice (some ⟨N, 0, none⟩) 1 1, .bool false]) ∧ w.heap.size ≤ N ∧ w'.heap[N]? = some (.cells (encLx (ltr 13 t.me t.fr t.id ⟨0, 0⟩ 0 (.slice none 0 0) n)) 50 (0, 0)) ∧
    TvAt w' b { t with chs := n, l := v' } ∧ RowIt w' v' (its.length + news.length) (its.flatMap encIt ++ news.flatMap encIt) ∧ (∀ g ∈ ownL v', g ∈ ownL t.l ∨ w.heap.size ≤ g) ∧ Mod (fun k => k = b ∨ k ∈ ownL t.l) w w'

set_option maxRecDepth 100000 in
set_option maxHeartbeats 16000000 in
theorem got_chunk {w : World} {b : Nat} {t : Tv} (h : TvAt w b t) (hst : t.step = 1) {its news : List Itm} (hv : RowIt w t.l its.length (its.flatMap encIt)) (hbv : b ∉ ownL t.l) {y : Value} (hy : SlAt 2 encIt w y news) (hyf : y = .slice none 0 0 ∨ ∃ a n c, y = .slice (some a) n c) (hby : news = [] ∨ b ∉ ownL y) (hlen : its.length + news.length ≤ 1000000)
    (hlie : (news.all fun x => inA t.a (addr x.1)) = true) {n : Int} (hn : IntKind.i64.wrap (t.chs + 1) = n)
    {cx : Array Value} (x0 : cx[0]? = some (.int .i64 12)) (x1 : cx[1]? = some (.int .i64 t.fr)) (x3 : cx[3]? = some (.int .i64 t.id)) (x18 : cx[18]? = some y) (x19 : cx[19]? = some (.int .i64 n)) :
    Calls Tryz.prog 29 #[.pointer (some ⟨b, 0, none⟩), .agg cx] w fun e w' => GotPost w b t its news n e w' := by
  have HRD := Lib.hid (hy.read hyf)
  obtain ⟨ay, ycap, rfl, _⟩ := id hy
  obtain ⟨av, lcap, hlv⟩ := row_slice hv
  obtain ⟨i0, z0, hi, hz0, hz1, hz2, hz3⟩ := itInfo_parts
  have HI := Lib.hid hi; have HZ0 := Lib.hid hz0; have HZ1 := Lib.hid hz1; have HZ2 := Lib.hid hz2; have HZ3 := Lib.hid hz3
  have HY := Lib.hid hy; have HV := Lib.hid hv; have HLIE := Lib.hid hlie
  have HBV := Lib.hid hbv; have HBY := Lib.hid hby; have HHN := Lib.hid hn
  have HLT := Lib.hid (own_lt hv)
  have HG := Lib.hid h
  have hb := h.lt
  clear h hy hv hlie hbv hby hi hz0 hz1 hz2 hz3
  go_enter Tryz.func29, Tryz.ntmps29
  go_wp2_with fail
  obtain ⟨B0, hB0⟩ : ∃ B0, B0 = w.heap.size := ⟨_, rfl⟩
  obtain ⟨w1, hw1⟩ : ∃ w1, w1 = w.alloc (.cells cx 50) := ⟨_, rfl⟩
  have hm1 : Mod NoB w w1 := by rw [hw1]; exact (Mod.refl _ _).alloc _
  have bX : w1.heap[B0]? = some (.cells cx 50 (0, 0)) := by rw [hw1, hB0]; exact heap_alloc_new w _
  have G1 : TvAt w1 b t := HG.out.mod hm1 (fun x => x)
  rw [← hw1, ← hB0]
  have HX := Lib.hid bX; have HM1 := Lib.hid hm1; have HG1 := Lib.hid G1; have HB0 := Lib.hid hB0
  have y0 := cell_of bX 0 x0; have y1 := cell_of bX 1 x1; have y3 := cell_of bX 3 x3; have y18 := cell_of bX 18 x18; have y19 := cell_of bX 19 x19
  have g6 := cell_of G1 6 (v := .int .i64 t.fr) rfl
  have g7 := cell_of G1 7 (v := .int .i64 t.id) rfl
  have g8 : w1.cell? ⟨b, 8, none⟩ = some (.int .i64 1) := cell_of G1 8 (by simp [hst])
  have g9 := cell_of G1 9 (v := .int .i64 t.chs) rfl
  have KEEP : Hid (∀ X, Mod NoB w1 X → (X.cell? ⟨B0, 0, none⟩ = some (.int .i64 12) ∧ X.cell? ⟨B0, 18, none⟩ = some (.slice ay news.length ycap) ∧ X.cell? ⟨B0, 19, none⟩ = some (.int .i64 n) ∧ X.cell? ⟨b, 8, none⟩ = some (.int .i64 1) ∧ X.cell? ⟨b, 9, none⟩ = some (.int .i64 t.chs))) := Lib.hid (fun X hm => ⟨hm.cellS y0, hm.cellS y18, hm.cellS y19, hm.cellS g8, hm.cellS g9⟩)
  have HYW : Hid (∀ X, Mod NoB w1 X → SlAt 2 encIt X (.slice ay news.length ycap) news) := Lib.hid (fun X hm => HY.out.mod (HM1.out.trans hm))
  have HX18 := Lib.hid x18; have HX19 := Lib.hid x19
  clear hw1 hB0 bX hm1 G1 HG x0 x1 x3 x18 x19
  go_quiet (fail)
  go_wp2_with fail
  go_region_held3 (fun X => X.cell? ⟨B0, 0, none⟩ = some (.int .i64 12) ∧ X.cell? ⟨B0, 18, none⟩ = some (.slice ay news.length ycap) ∧ X.cell? ⟨B0, 19, none⟩ = some (.int .i64 n) ∧ X.cell? ⟨b, 8, none⟩ = some (.int .i64 1) ∧ X.cell? ⟨b, 9, none⟩ = some (.int .i64 t.chs)) (first | exact KEEP.out _ M6.out | exact KEEP.out _ (by repeat (first | exact Mod.refl _ _ | refine Mod.alloc ?_ _ | refine Mod.drew ?_ | refine Mod.drewN ?_ _))) ((first | (go_simp; go_at_call 76; go_loud (refine (lie_any (HG1.out.mod (S := NoB) (by repeat (first | exact Mod.refl _ _ | refine Mod.alloc ?_ _ | refine Mod.drew ?_ | refine Mod.drewN ?_ _)) (fun x => x)) (HYW.out _ (by repeat (first | exact Mod.refl _ _ | refine Mod.alloc ?_ _ | refine Mod.drew ?_ | refine Mod.drewN ?_ _))) (by omega)).mono ?_; rintro e w5 ⟨rfl, hm5⟩; rw [HLIE.out]; have hm6 := Mod.trans (S := NoB) (a := w1) (by repeat (first | exact Mod.refl _ _ | refine Mod.alloc ?_ _ | refine Mod.drew ?_ | refine Mod.drewN ?_ _)) hm5; obtain ⟨k0, k1, k2, k3, k4⟩ := KEEP.out _ hm6; have M6 := Lib.hid hm6; clear hm5 hm6))))
  have G5 : TvAt w5 b t := HG1.out.mod M6.out (fun x => x)
  have f9 := frozen_of G5 9
  have HG5 := Lib.hid G5
  clear G5 y0 y1 y3 y18 y19 g6 g7 g8 g9
  go_wp2_with fail
  have hg6 : TvAt (w5.setCell ⟨b, 9, none⟩ (.int .i64 n)) b { t with chs := n } := heap_set HG5.out 9 _
  have hmS : Mod (· = b) w5 (w5.setCell ⟨b, 9, none⟩ (.int .i64 n)) := Mod.setCell (S := (· = b)) (Mod.refl _ _) (p := ⟨b, 9, none⟩) (fun _ => rfl) _
  have HM5 : Hid (Mod NoB w w5) := Lib.hid (HM1.out.trans M6.out)
  have hne : B0 ≠ b := by have := HB0.out; omega
  have HX5 : Hid ((w5.setCell ⟨b, 9, none⟩ (.int .i64 n)).heap[B0]? = some (.cells cx 50 (0, 0))) := Lib.hid (((hmS.block B0 (by have := (Array.getElem?_eq_some_iff.1 HX.out).1; have := M6.out.size; omega) hne).trans (M6.out.block B0 (Array.getElem?_eq_some_iff.1 HX.out).1 (fun x => x))).trans HX.out)
  have HROW : Hid (RowIt (w5.setCell ⟨b, 9, none⟩ (.int .i64 n)) (.slice av its.length lcap) its.length (its.flatMap encIt)) := Lib.hid (by
    have := own_mod' (own_mod' HV.out HM5.out (fun _ _ x => x)) hmS (fun k hk e => HBV.out (by have e2 : k = b := e; rw [← e2]; exact hk))
    rw [hlv] at this; exact this)
  have HRD6 : Hid (Read (w5.setCell ⟨b, 9, none⟩ (.int .i64 n)) (.slice ay news.length ycap) news.length (news.flatMap encIt)) := Lib.hid (by
    have h5 := HRD.out.mod HM5.out (fun _ _ x => x)
    rcases HBY.out with h0 | h0
    · subst h0
      exact h5.elim (fun h => .inl h) (fun ⟨a, c, e, _⟩ => .inr ⟨a, c, e, fun j u hu => by simp at hu⟩)
    · exact h5.mod hmS (fun k hk e => h0 (by have e2 : k = b := e; rw [← e2]; exact hk)))
  have HG6 := Lib.hid hg6; have HMS := Lib.hid hmS
  have hb6 : b < (w5.setCell ⟨b, 9, none⟩ (.int .i64 n)).heap.size := hg6.lt
  have g10 : (w5.setCell ⟨b, 9, none⟩ (.int .i64 n)).cell? ⟨b, 10, none⟩ = some (.slice av its.length lcap) := cell_of hg6 10 (by simp [hlv])
  have y18 : (w5.setCell ⟨b, 9, none⟩ (.int .i64 n)).cell? ⟨B0, 18, none⟩ = some (.slice ay news.length ycap) := cell_of HX5.out 18 HX18.out
  clear hg6 hmS f9 k0 k1 k2 k3 k4
  have HBL : Hid (∀ k ∈ ownL (.slice av its.length lcap), k ≠ b ∧ k < w.heap.size) := Lib.hid (fun k hk => by rw [← hlv] at hk; exact ⟨fun e => HBV.out (e ▸ hk), HLT.out k hk⟩)
  have HNB : Hid (¬ (b ∈ ownL (.slice av its.length lcap))) := Lib.hid (fun hk => (HBL.out b hk).1 rfl)
  have HNX : Hid (¬ (B0 ∈ ownL (.slice av its.length lcap))) := Lib.hid (fun hk => by have := (HBL.out B0 hk).2; have := HB0.out; omega)
  have HN : Hid (IntKind.i64.wrap (t.chs + 1) = n) := Lib.hid hn
  clear hn
  have HFL : Hid ((news.flatMap encIt).length = news.length * 2) := Lib.hid (flat_length (k := 2) (enc := encIt) (fun _ => rfl) news)
  have HONE : Hid (∀ u ∈ news.flatMap encIt, u.oneCell' = true) := Lib.hid (flat_one (fun _ _ hu => oneIt hu))
  obtain ⟨W6, hW6⟩ : ∃ W6, W6 = w5.setCell ⟨b, 9, none⟩ (.int .i64 n) := ⟨_, rfl⟩
  rw [← hW6] at HX5 HROW HRD6 HG6 HMS hb6 g10 y18 ⊢
  clear hW6
  go_region_law ((first | (go_loud (refine step_appended (by rfl) (.tmp 65) (.tmp 67) 22 (by rfl) 73 i0 z0 2 tySIt HI.out HZ0.out HZ1.out HZ2.out HZ3.out (by decide) (.slice av its.length lcap) its.length (its.flatMap encIt) (by simp [Act.eval, Act.put]) (own_mod' (S := NoB) HROW.out (by repeat (first | exact Mod.refl _ _ | refine Mod.alloc ?_ _ | refine Mod.drew ?_ | refine Mod.drewN ?_ _)) (fun _ _ x => x)) (.slice ay news.length ycap) news.length (news.flatMap encIt) (by simp [Act.eval, Act.put]) (HRD6.out.mod (S := NoB) (by repeat (first | exact Mod.refl _ _ | refine Mod.alloc ?_ _ | refine Mod.drew ?_ | refine Mod.drewN ?_ _)) (fun _ _ x => x)) HFL.out HONE.out hlen ?_); intro u9 w9 hA; obtain ⟨a9, cap9, rfl⟩ := row_slice hA.own; have hk9 := heap_keep2 HG6.out hA.mod (by repeat (first | exact Mod.refl _ _ | refine Mod.alloc ?_ _ | refine Mod.drew ?_ | refine Mod.drewN ?_ _)) HNB.out; have e9 : w9.cell? ⟨b, 10, none⟩ = some (.slice av its.length lcap) := cell_of hk9 10 (by simp [hlv]); have ef9 := frozen_of hk9 10; have HM9 := Lib.hid (then2 (Mod.refl NoB W6) hA.mod (by repeat (first | exact Mod.refl _ _ | refine Mod.alloc ?_ _ | refine Mod.drew ?_ | refine Mod.drewN ?_ _))); have HR9 := Lib.hid hA.own; have HN9 := Lib.hid (fun k hk => c_new (w3 := W6) (hA.new k hk) (by repeat (first | exact Mod.refl _ _ | refine Mod.alloc ?_ _ | refine Mod.drew ?_ | refine Mod.drewN ?_ _))); have HK9 := Lib.hid hk9; clear hA hk9)))
  all_goals
    obtain ⟨vn, hvn⟩ : ∃ vn, vn = Value.slice a9 (its.length + news.length) cap9 := ⟨_, rfl⟩
    rw [← hvn] at HR9 HN9 ⊢
    have hgT : TvAt (w9.setCell ⟨b, 10, none⟩ vn) b { t with chs := n, l := vn } := heap_set HK9.out 10 _
    have hmT : Mod (· = b) w9 (w9.setCell ⟨b, 10, none⟩ vn) := Mod.setCell (S := (· = b)) (Mod.refl _ _) (p := ⟨b, 10, none⟩) (fun _ => rfl) _
    have hx9 := (HM9.out.block B0 (Array.getElem?_eq_some_iff.1 HX5.out).1 HNX.out).trans HX5.out
    have hxT := (hmT.block B0 (Array.getElem?_eq_some_iff.1 hx9).1 hne).trans hx9
    have y19 := cell_of hxT 19 HX19.out
    have HGT := Lib.hid hgT; have HMT := Lib.hid hmT
    obtain ⟨WT, hWT⟩ : ∃ WT, WT = w9.setCell ⟨b, 10, none⟩ vn := ⟨_, rfl⟩
    rw [← hWT] at HGT HMT y19 ⊢
    clear hWT hgT hmT hx9 hxT e9 ef9 hvn
    go_wp2_with fail
    refine (tell_any HGT.out 13 n).mono ?_
    rintro e w7 ⟨N, rfl, hN1, hN2, hm7⟩
    have hg7 := HGT.out.mod hm7 (fun x => x)
    have g8' : w7.cell? ⟨b, 8, none⟩ = some (.int .i64 1) := cell_of hg7 8 (by simp [hst])
    have HG7 := Lib.hid hg7; have HN1 := Lib.hid hN1; have HN2 := Lib.hid hN2; have HM7 := Lib.hid hm7
    clear hg7 hN1 hN2 hm7 y19
    go_wp2_with fail
    go_quiet (fail)
    go_wp2_with fail
    refine bodyPost_ret (v := .tuple #[.slice (some ⟨N, 0, none⟩) 1 1, .bool false]) (by simp [results, Tryz.results29, go_sem]) rfl ?_
    have hmq : ∀ q, Mod NoB w7 (w7.drewN q) := fun q => (Mod.refl _ _).drewN q
    have hwW6 : Mod (fun k => k = b ∨ k ∈ ownL t.l) w W6 := (HM5.out.mono (fun _ _ x => x.elim)).trans (HMS.out.mono (fun _ _ x => .inl x))
    have hw7 : Mod (fun k => k = b ∨ k ∈ ownL t.l) w w7 := ((hwW6.trans (HM9.out.mono (fun k _ hk => .inr (by rw [hlv]; exact hk)))).trans (HMT.out.mono (fun _ _ x => .inl x))).trans (HM7.out.mono (fun _ _ x => x.elim))
    have hvb : ∀ k ∈ ownL vn, ¬ k = b := fun k hk e => by
      rcases HN9.out k hk with h | h
      · exact (HBL.out k h).1 e
      · rw [e] at h; omega
    unfold GotPost
    refine ⟨N, vn, rfl, ?_, (((hmq _).block N (Array.getElem?_eq_some_iff.1 HN2.out).1 (fun x => x)).trans HN2.out), HG7.out.mod (hmq _) (fun x => x), own_mod' (own_mod' (own_mod' HR9.out HMT.out hvb) HM7.out (fun _ _ x => x)) (hmq _) (fun _ _ x => x), ?_, hw7.trans ((hmq _).mono (fun _ _ x => x.elim))⟩
    · have h1 := HN1.out; have h2 := hwW6.size; have h3 := HM9.out.size; have h4 := HMT.out.size; omega
    · intro k hk
      rcases HN9.out k hk with h | h
      · exact .inl (by rw [hlv]; exact h)
      · exact .inr (Nat.le_trans hwW6.size h)
end Go.Proofs.YtpcmbnbdppembaaGreatDoor

/- take.Got: what changes nothing: items that do not lie in the arc, a commit too early, a commit once more. -/
namespace Go.Proofs.YtpcmbnbdppembaaGreatDoor
set_option linter.unusedSimpArgs false
set_option linter.unusedVariables false
open Go.RowKit Go.Shelf
attribute [local go_sem ↓] Go.wp_at_zero Go.wp_at_succ
attribute [local go_sem] Oper.semAt_some

set_option maxRecDepth 100000 in
set_option maxHeartbeats 16000000 in
/-- a commit once more -/
theorem got_again {w : World} {b : Nat} {t : Tv} (h : TvAt w b t) (hst : t.step = 2) {cx : Array Value} (x0 : cx[0]? = some (.int .i64 14)) (x1 : cx[1]? = some (.int .i64 t.fr)) (x3 : cx[3]? = some (.int .i64 t.id)) :
    Calls Tryz.prog 29 #[.pointer (some ⟨b, 0, none⟩), .agg cx] w fun e w' => ∃ N, e = .returned (.tuple #[.slice (some ⟨N, 0, none⟩) 1 1, .bool true]) ∧ w.heap.size ≤ N ∧ w'.heap[N]? = some (.cells (encLx (ltr 15 t.me t.fr t.id ⟨0, 0⟩ 0 (.slice none 0 0) 0)) 50 (0, 0)) ∧ Mod NoB w w' := by
  have HG := Lib.hid h
  have hb := h.lt
  clear h
  go_enter Tryz.func29, Tryz.ntmps29
  go_wp2_with fail
  obtain ⟨B0, hB0⟩ : ∃ B0, B0 = w.heap.size := ⟨_, rfl⟩
  obtain ⟨w1, hw1⟩ : ∃ w1, w1 = w.alloc (.cells cx 50) := ⟨_, rfl⟩
  have hm1 : Mod NoB w w1 := by rw [hw1]; exact (Mod.refl _ _).alloc _
  have bX : w1.heap[B0]? = some (.cells cx 50 (0, 0)) := by rw [hw1, hB0]; exact heap_alloc_new w _
  have G1 : TvAt w1 b t := HG.out.mod hm1 (fun x => x)
  rw [← hw1, ← hB0]
  have HX := Lib.hid bX; have HM1 := Lib.hid hm1; have HG1 := Lib.hid G1
  have y0 := cell_of bX 0 x0; have y1 := cell_of bX 1 x1; have y3 := cell_of bX 3 x3
  have g6 := cell_of G1 6 (v := .int .i64 t.fr) rfl
  have g7 := cell_of G1 7 (v := .int .i64 t.id) rfl
  have g8 : w1.cell? ⟨b, 8, none⟩ = some (.int .i64 2) := cell_of G1 8 (by simp [hst])
  clear hw1 hB0 bX hm1 G1 HG x0 x1 x3
  go_quiet (fail)
  go_wp2_with fail
  go_quiet (fail)
  go_wp2_with fail
  go_quiet (fail)
  go_wp2_with fail
  refine (tell_any (HG1.out.mod (S := NoB) (by repeat (first | exact Mod.refl _ _ | refine Mod.alloc ?_ _ | refine Mod.drew ?_ | refine Mod.drewN ?_ _)) (fun x => x)) 15 0).mono ?_
  rintro e w7 ⟨N, rfl, hN1, hN2, hm7⟩
  have hm17 : Mod NoB w1 w7 := Mod.trans (S := NoB) (a := w1) (by repeat (first | exact Mod.refl _ _ | refine Mod.alloc ?_ _ | refine Mod.drew ?_ | refine Mod.drewN ?_ _)) hm7
  have g8' : w7.cell? ⟨b, 8, none⟩ = some (.int .i64 2) := hm17.cellS g8
  have HN1 := Lib.hid hN1; have HN2 := Lib.hid hN2; have HM17 := Lib.hid hm17
  clear hN1 hN2 hm7 hm17 g6 g7 g8 y0 y1 y3
  go_wp2_with fail
  go_quiet (fail)
  go_wp2_with fail
  refine bodyPost_ret (v := .tuple #[.slice (some ⟨N, 0, none⟩) 1 1, .bool true]) (by simp [results, Tryz.results29, go_sem]) rfl ?_
  have hmq : ∀ q, Mod NoB w7 (w7.drewN q) := fun q => (Mod.refl _ _).drewN q
  exact ⟨N, rfl, Nat.le_trans HM1.out.size HN1.out, (((hmq _).block N (Array.getElem?_eq_some_iff.1 HN2.out).1 (fun x => x)).trans HN2.out), (HM1.out.trans HM17.out).trans (hmq _)⟩

set_option maxRecDepth 100000 in
set_option maxHeartbeats 16000000 in
/-- a commit too early -/
theorem got_early {w : World} {b : Nat} {t : Tv} (h : TvAt w b t) (hst : t.step = 1) {av : Option Addr} {m cap : Nat} (hl : t.l = .slice av m cap) (hm : ((m : Int) == t.n) = false) {cx : Array Value} (x0 : cx[0]? = some (.int .i64 14)) (x1 : cx[1]? = some (.int .i64 t.fr)) (x3 : cx[3]? = some (.int .i64 t.id)) :
    Calls Tryz.prog 29 #[.pointer (some ⟨b, 0, none⟩), .agg cx] w fun e w' => e = .returned (.tuple #[.slice none 0 0, .bool false]) ∧ Mod NoB w w' := by
  have HG := Lib.hid h
  have hb := h.lt
  clear h
  go_enter Tryz.func29, Tryz.ntmps29
  go_wp2_with fail
  obtain ⟨B0, hB0⟩ : ∃ B0, B0 = w.heap.size := ⟨_, rfl⟩
  obtain ⟨w1, hw1⟩ : ∃ w1, w1 = w.alloc (.cells cx 50) := ⟨_, rfl⟩
  have hm1 : Mod NoB w w1 := by rw [hw1]; exact (Mod.refl _ _).alloc _
  have bX : w1.heap[B0]? = some (.cells cx 50 (0, 0)) := by rw [hw1, hB0]; exact heap_alloc_new w _
  have G1 : TvAt w1 b t := HG.out.mod hm1 (fun x => x)
  rw [← hw1, ← hB0]
  have HX := Lib.hid bX; have HM1 := Lib.hid hm1; have HG1 := Lib.hid G1
  have y0 := cell_of bX 0 x0; have y1 := cell_of bX 1 x1; have y3 := cell_of bX 3 x3
  have g6 := cell_of G1 6 (v := .int .i64 t.fr) rfl
  have g7 := cell_of G1 7 (v := .int .i64 t.id) rfl
  have g8 : w1.cell? ⟨b, 8, none⟩ = some (.int .i64 1) := cell_of G1 8 (by simp [hst])
  have g4 := cell_of G1 4 (v := .int .i64 t.n) rfl
  have g10 : w1.cell? ⟨b, 10, none⟩ = some (.slice av m cap) := cell_of G1 10 (by simp [hl])
  clear hw1 hB0 bX hm1 G1 HG x0 x1 x3 hl
  go_quiet (fail)
  go_wp2_with fail
  go_quiet (fail)
  go_wp2_with fail
  go_quiet (fail)
  go_wp2_with fail
  go_quiet (fail)
  go_wp2_with fail
  refine bodyPost_ret (v := .tuple #[.slice none 0 0, .bool false]) (by simp [results, Tryz.results29, go_sem]) rfl ?_
  exact ⟨rfl, HM1.out.trans (by repeat (first | exact Mod.refl _ _ | refine Mod.alloc ?_ _ | refine Mod.drew ?_ | refine Mod.drewN ?_ _))⟩

set_option maxRecDepth 100000 in
set_option maxHeartbeats 16000000 in
/-- items that do not lie in the arc -/
theorem got_no {w : World} {b : Nat} {t : Tv} (h : TvAt w b t) (hst : t.step = 1) {news : List Itm} {y : Value} (hy : SlAt 2 encIt w y news) (hlen : news.length ≤ 1000000)
    (hlie : (news.all fun x => inA t.a (addr x.1)) = false) {n : Int} (hn : IntKind.i64.wrap (t.chs + 1) = n)
    {cx : Array Value} (x0 : cx[0]? = some (.int .i64 12)) (x1 : cx[1]? = some (.int .i64 t.fr)) (x3 : cx[3]? = some (.int .i64 t.id)) (x18 : cx[18]? = some y) (x19 : cx[19]? = some (.int .i64 n)) :
    Calls Tryz.prog 29 #[.pointer (some ⟨b, 0, none⟩), .agg cx] w fun e w' => e = .returned (.tuple #[.slice none 0 0, .bool false]) ∧ Mod NoB w w' := by
  obtain ⟨ay, ycap, rfl, _⟩ := id hy
  have HY := Lib.hid hy; have HLIE := Lib.hid hlie
  clear hy hlie
  have HG := Lib.hid h
  have hb := h.lt
  clear h
  go_enter Tryz.func29, Tryz.ntmps29
  go_wp2_with fail
  obtain ⟨B0, hB0⟩ : ∃ B0, B0 = w.heap.size := ⟨_, rfl⟩
  obtain ⟨w1, hw1⟩ : ∃ w1, w1 = w.alloc (.cells cx 50) := ⟨_, rfl⟩
  have hm1 : Mod NoB w w1 := by rw [hw1]; exact (Mod.refl _ _).alloc _
  have bX : w1.heap[B0]? = some (.cells cx 50 (0, 0)) := by rw [hw1, hB0]; exact heap_alloc_new w _
  have G1 : TvAt w1 b t := HG.out.mod hm1 (fun x => x)
  rw [← hw1, ← hB0]
  have HX := Lib.hid bX; have HM1 := Lib.hid hm1; have HG1 := Lib.hid G1
  have y0 := cell_of bX 0 x0; have y1 := cell_of bX 1 x1; have y3 := cell_of bX 3 x3
  have y18 := cell_of bX 18 x18; have y19 := cell_of bX 19 x19
  have g6 := cell_of G1 6 (v := .int .i64 t.fr) rfl
  have g7 := cell_of G1 7 (v := .int .i64 t.id) rfl
  have g8 : w1.cell? ⟨b, 8, none⟩ = some (.int .i64 1) := cell_of G1 8 (by simp [hst])
  have g9 := cell_of G1 9 (v := .int .i64 t.chs) rfl
  have KEEP : Hid (∀ X, Mod NoB w1 X → (X.cell? ⟨B0, 0, none⟩ = some (.int .i64 12) ∧ X.cell? ⟨B0, 18, none⟩ = some (.slice ay news.length ycap) ∧ X.cell? ⟨B0, 19, none⟩ = some (.int .i64 n) ∧ X.cell? ⟨b, 8, none⟩ = some (.int .i64 1) ∧ X.cell? ⟨b, 9, none⟩ = some (.int .i64 t.chs))) := Lib.hid (fun X hm => ⟨hm.cellS y0, hm.cellS y18, hm.cellS y19, hm.cellS g8, hm.cellS g9⟩)
  have HYW : Hid (∀ X, Mod NoB w1 X → SlAt 2 encIt X (.slice ay news.length ycap) news) := Lib.hid (fun X hm => HY.out.mod (HM1.out.trans hm))
  clear hw1 hB0 bX hm1 G1 HG x0 x1 x3 x18 x19
  go_quiet (fail)
  go_wp2_with fail
  go_region_held3 (fun X => X.cell? ⟨B0, 0, none⟩ = some (.int .i64 12) ∧ X.cell? ⟨B0, 18, none⟩ = some (.slice ay news.length ycap) ∧ X.cell? ⟨B0, 19, none⟩ = some (.int .i64 n) ∧ X.cell? ⟨b, 8, none⟩ = some (.int .i64 1) ∧ X.cell? ⟨b, 9, none⟩ = some (.int .i64 t.chs)) (first | exact KEEP.out _ M6.out | exact KEEP.out _ (by repeat (first | exact Mod.refl _ _ | refine Mod.alloc ?_ _ | refine Mod.drew ?_ | refine Mod.drewN ?_ _))) ((first | (go_simp; go_at_call 76; go_loud (refine (lie_any (HG1.out.mod (S := NoB) (by repeat (first | exact Mod.refl _ _ | refine Mod.alloc ?_ _ | refine Mod.drew ?_ | refine Mod.drewN ?_ _)) (fun x => x)) (HYW.out _ (by repeat (first | exact Mod.refl _ _ | refine Mod.alloc ?_ _ | refine Mod.drew ?_ | refine Mod.drewN ?_ _))) (by omega)).mono ?_; rintro e w5 ⟨rfl, hm5⟩; rw [HLIE.out]; have hm6 := Mod.trans (S := NoB) (a := w1) (by repeat (first | exact Mod.refl _ _ | refine Mod.alloc ?_ _ | refine Mod.drew ?_ | refine Mod.drewN ?_ _)) hm5; obtain ⟨k0, k1, k2, k3, k4⟩ := KEEP.out _ hm6; have M6 := Lib.hid hm6; clear hm5 hm6))))
  clear y0 y1 y3 y18 y19 g6 g7 g8 g9 hn
  go_wp2_with fail
  go_quiet (fail)
  go_wp2_with fail
  go_quiet (fail)
  go_wp2_with fail
  refine bodyPost_ret (v := .tuple #[.slice none 0 0, .bool false]) (by simp [results, Tryz.results29, go_sem]) rfl ?_
  exact ⟨rfl, (HM1.out.trans M6.out).trans (by repeat (first | exact Mod.refl _ _ | refine Mod.alloc ?_ _ | refine Mod.drew ?_ | refine Mod.drewN ?_ _))⟩

end Go.Proofs.YtpcmbnbdppembaaGreatDoor

/- What Arcs and Pieces tell of arcs that lie side by side: plain. -/
namespace Go.Proofs.YtpcmbnbdppembaaGreatDoor
set_option linter.unusedSimpArgs false
set_option linter.unusedVariables false

/-! ### cut at what lies behind all, and at the last part -/
theorem place_last (l : List Pt) (p : Pt) (x : Int) (h : p.f ≤ x) : placeP (l ++ [p]) x = l.length := by
  unfold placeP
  rw [List.length_append, List.length_singleton]
  unfold placeK
  rw [List.getElem?_append_right (Nat.le_refl _), Nat.sub_self]
  simp [h]
theorem cut_last (l : List Pt) (p : Pt) : cutP (l ++ [p]) p.f = l ++ [p] := by
  unfold cutP
  rw [if_neg (by simp)]
  unfold cutP0
  rw [place_last l p p.f (Int.le_refl _), List.getElem?_append_right (Nat.le_refl _), Nat.sub_self]
  simp
theorem cut_behind (l : List Pt) (p : Pt) (x : Int) (h : p.f < x) : cutP (l ++ [p]) x = l ++ [p, ⟨x, p.n, p.e⟩] := by
  unfold cutP
  rw [if_neg (by simp)]
  unfold cutP0
  rw [place_last l p x (by omega), List.getElem?_append_right (Nat.le_refl _), Nat.sub_self]
  have : ¬ p.f = x := by omega
  simp only [List.getElem?_cons_zero, this, if_false]
  rw [List.take_of_length_le (by simp), List.drop_eq_nil_of_le (by simp)]
  simp
/-- what is learnt of an arc behind all -/
theorem learn_behind (o : Ow) (l : List Pt) (e : Int) (hl : ∀ p ∈ l, p.f < o.f) (hft : o.f < o.t) (h0 : 0 ≤ o.f) (h1 : 0 ≤ o.ep) (h2 : 0 ≤ o.node) (h3 : o.node ≤ 255) :
    learnP (l ++ [⟨o.f, -1, e⟩]) o = l ++ [⟨o.f, o.node, o.ep⟩, ⟨o.t, -1, e⟩] := by
  unfold learnP
  rw [if_neg (by omega)]
  have hv : vpieces o.arc = [o.arc] := by
    unfold vpieces
    rw [if_pos (.inr hft)]
  rw [hv]
  simp only [List.foldl_cons, List.foldl_nil]
  unfold learn1 cuts2
  have ht : 0 < o.arc.t := show (0 : Int) < o.t by omega
  rw [if_pos ht, show cutP (l ++ [⟨o.f, -1, e⟩]) o.arc.f = l ++ [⟨o.f, -1, e⟩] from cut_last l ⟨o.f, -1, e⟩, cut_behind l ⟨o.f, -1, e⟩ o.arc.t hft, List.map_append]
  have hm : l.map (learnQ o o.arc) = l := by
    conv => rhs; rw [← List.map_id l]
    refine List.map_congr_left fun p hp => ?_
    have := hl p hp
    unfold learnQ
    rw [if_pos (.inl this)]
    rfl
  rw [hm]
  congr 1
  have n1 : ¬ skipQ o o.arc ⟨o.f, -1, e⟩ := by unfold skipQ; simp only; omega
  have n2 : skipQ o o.arc ⟨o.arc.t, -1, e⟩ := .inr (.inl ⟨ht, Int.le_refl _⟩)
  simp only [List.map_cons, List.map_nil]
  unfold learnQ
  rw [if_neg n1, if_pos n2]
/-- the first one -/
theorem learn_first (o : Ow) (hft : o.f < o.t) (h0 : 0 ≤ o.f) (h1 : 0 ≤ o.ep) (h2 : 0 ≤ o.node) (h3 : o.node ≤ 255) :
    learnP [] o = (if o.f = 0 then [] else [⟨0, -1, 0⟩]) ++ [⟨o.f, o.node, o.ep⟩, ⟨o.t, -1, 0⟩] := by
  have hc : cutP [] o.f = (if o.f = 0 then [] else [⟨0, -1, 0⟩]) ++ [⟨o.f, -1, 0⟩] := by
    have hp : placeP [⟨0, -1, 0⟩] o.f = 0 := by simpa using place_last [] ⟨0, -1, 0⟩ o.f h0
    unfold cutP
    rw [if_pos rfl]
    unfold cutP0
    rw [hp]
    simp only [List.getElem?_cons_zero]
    by_cases hz : o.f = 0
    · rw [if_pos hz.symm, if_pos hz, hz]; rfl
    · rw [if_neg (fun h => hz h.symm), if_neg hz]; rfl
  have hb := learn_behind o (if o.f = 0 then [] else [⟨0, -1, 0⟩]) 0 (by
    intro p hp
    split at hp
    · simp at hp
    · simp at hp; subst hp; simp only; omega) hft h0 h1 h2 h3
  rw [← hb]
  unfold learnP
  rw [if_neg (by omega), if_neg (by omega)]
  have hv : vpieces o.arc = [o.arc] := by
    unfold vpieces
    rw [if_pos (.inr hft)]
  rw [hv]
  simp only [List.foldl_cons, List.foldl_nil]
  unfold learn1 cuts2
  have ht : 0 < o.arc.t := show (0 : Int) < o.t by omega
  rw [if_pos ht, if_pos ht, show cutP [] o.arc.f = _ from hc, show cutP (_ ++ [_]) o.arc.f = _ ++ [_] from cut_last _ ⟨o.f, -1, 0⟩]

/-- arcs side by side: where each begins, and its epoch; where the last one ends -/
def sideP (z : List (Int × Int)) (t : Int) : List Pt := z.map (fun c => ⟨c.1, 0, c.2⟩) ++ [⟨t, -1, 0⟩]
def preP (f : Int) : List Pt := if f = 0 then [] else [⟨0, -1, 0⟩]
theorem preP_lt {f : Int} (h0 : 0 ≤ f) : ∀ p ∈ preP f, p.f < f := by
  intro p hp
  unfold preP at hp
  split at hp
  · simp at hp
  · simp at hp; subst hp; simp only; omega

/-- alike neighbours of two that are put together, one behind the other -/
theorem comp_snoc (l : List Pt) (p : Pt) : compP (l ++ [p]) = compA (compP l) p := by
  unfold compP
  rw [List.foldl_append]
  rfl
def cntN (l : List Pt) : Nat := (l.filter (fun p => decide (0 ≤ p.n))).length
theorem cntN_snoc (l : List Pt) (p : Pt) : cntN (l ++ [p]) = cntN l + (if 0 ≤ p.n then 1 else 0) := by
  unfold cntN
  rw [List.filter_append, List.length_append]
  by_cases h : 0 ≤ p.n
  · simp [h]
  · simp [h]
theorem arcK_cnt (c : List Pt) (k : Nat) (hk : k ≤ c.length) : (arcK c k).length = cntN (c.take k) := by
  induction k with
  | zero => rfl
  | succ k ih =>
    have he : c[k]? = some c[k] := List.getElem?_eq_getElem (by omega)
    rw [List.take_add_one, he, Option.toList_some, cntN_snoc, ← ih (by omega)]
    conv => lhs; unfold arcK; rw [he]
    simp only [List.length_append]
    split <;> simp
theorem arcK_all (c : List Pt) : (arcK c c.length).length = cntN c := by
  rw [arcK_cnt c _ (Nat.le_refl _), List.take_length]
/-- arcs side by side, each where the one ahead of it ends -/
def chainOw (z : List (Int × Int)) (t : Int) : List Ow :=
  match z with
  | [] => []
  | [c] => [⟨c.1, t, 0, c.2⟩]
  | c :: d :: r => ⟨c.1, d.1, 0, c.2⟩ :: chainOw (d :: r) t

/-- the parts when the first k arcs were learnt; cuts f, epochs g -/
def partsK (f g : Nat → Int) : Nat → List Pt
  | 0 => preP (f 0)
  | k + 1 => partsK f g k ++ [⟨f k, 0, g k⟩]
def arcsK (f g : Nat → Int) : Nat → List Ow
  | 0 => []
  | k + 1 => arcsK f g k ++ [⟨f k, f (k + 1), 0, g k⟩]
theorem partsK_lt (f g : Nat → Int) (m : Nat) (h0 : 0 ≤ f 0) (hf : ∀ i, i < m → f i < f (i + 1)) : ∀ k, k ≤ m → 0 ≤ f k ∧ ∀ p ∈ partsK f g k, p.f < f k := by
  intro k
  induction k with
  | zero => exact fun _ => ⟨h0, preP_lt h0⟩
  | succ k ih =>
    intro hk
    obtain ⟨h1, h2⟩ := ih (by omega)
    have := hf k (by omega)
    refine ⟨by omega, fun p hp => ?_⟩
    unfold partsK at hp
    rcases List.mem_append.1 hp with hp | hp
    · have := h2 p hp; omega
    · simp only [List.mem_singleton] at hp; subst hp; exact hf k (by omega)
theorem learn_chain (f g : Nat → Int) (m : Nat) (h0 : 0 ≤ f 0) (hf : ∀ i, i < m → f i < f (i + 1)) (hg : ∀ i, 0 ≤ g i) : ∀ k, k < m →
    (arcsK f g (k + 1)).foldl learnP [] = partsK f g (k + 1) ++ [⟨f (k + 1), -1, 0⟩] := by
  intro k
  induction k with
  | zero =>
    intro hk
    have := learn_first ⟨f 0, f 1, 0, g 0⟩ (hf 0 hk) h0 (hg 0) (Int.le_refl _) (by simp)
    simp only [arcsK, partsK, List.nil_append, List.foldl_cons, List.foldl_nil]
    rw [this]
    simp [preP]
  | succ k ih =>
    intro hk
    obtain ⟨h1, h2⟩ := partsK_lt f g m h0 hf (k + 1) (by omega)
    have := learn_behind ⟨f (k + 1), f (k + 2), 0, g (k + 1)⟩ (partsK f g (k + 1)) 0 h2 (hf (k + 1) hk) h1 (hg _) (Int.le_refl _) (by simp)
    show (arcsK f g (k + 1) ++ [(⟨f (k + 1), f (k + 1 + 1), 0, g (k + 1)⟩ : Ow)]).foldl learnP [] = _
    rw [List.foldl_append, ih (by omega)]
    simp only [List.foldl_cons, List.foldl_nil]
    refine this.trans ?_
    simp [partsK]
/-- how many arcs there are, when alike neighbours are one -/
def cntK (g : Nat → Int) : Nat → Nat
  | 0 => 0
  | k + 1 => cntK g k + (if k = 0 ∨ g k ≠ g (k - 1) then 1 else 0)
theorem comp_chain (f g : Nat → Int) : ∀ k, cntN (compP (partsK f g k)) = cntK g k ∧
    (∀ q, (compP (partsK f g k)).getLast? = some q → if k = 0 then q.n = -1 else q.n = 0 ∧ q.e = g (k - 1)) := by
  intro k
  induction k with
  | zero =>
    unfold partsK preP
    split
    · exact ⟨rfl, fun q hq => by cases hq⟩
    · refine ⟨rfl, fun q hq => ?_⟩
      simp [compP, compA] at hq
      subst hq
      simp
  | succ k ih =>
    obtain ⟨h1, h2⟩ := ih
    have hs : compP (partsK f g (k + 1)) = compA (compP (partsK f g k)) ⟨f k, 0, g k⟩ := comp_snoc _ _
    rw [hs]
    unfold compA
    unfold cntK
    cases hl : (compP (partsK f g k)).getLast? with
    | none =>
      simp only [cntN_snoc, h1]
      have hn : compP (partsK f g k) = [] := List.getLast?_eq_none_iff.1 hl
      rw [hn] at h1
      have hk0 : k = 0 := by
        rcases Nat.eq_zero_or_pos k with h | h
        · exact h
        · obtain ⟨j, rfl⟩ : ∃ j, k = j + 1 := ⟨k - 1, by omega⟩
          have e1 : compP (partsK f g (j + 1)) = compA (compP (partsK f g j)) ⟨f j, 0, g j⟩ := comp_snoc _ _
          rw [e1] at hn
          unfold compA at hn
          split at hn
          · rename_i hx
            split at hn
            · rw [hn] at hx; cases hx
            · simp at hn
          · simp at hn
      subst hk0
      refine ⟨by simp, fun q hq => ?_⟩
      simp at hq
      subst hq
      simp
    | some q =>
      have h3 := h2 q hl
      simp only
      by_cases ha : alikeP q ⟨f k, 0, g k⟩ = true
      · rw [if_pos ha]
        simp only [alikeP, Bool.and_eq_true, decide_eq_true_eq] at ha
        have hk0 : k ≠ 0 := by
          intro h0
          rw [if_pos h0] at h3
          omega
        rw [if_neg hk0] at h3
        have hc : ¬ (k = 0 ∨ g k ≠ g (k - 1)) := by
          intro h
          rcases h with h | h
          · exact hk0 h
          · exact h (ha.2.symm.trans h3.2)
        refine ⟨by rw [if_neg hc, h1]; rfl, fun q' hq' => ?_⟩
        obtain rfl : q = q' := Option.some.inj (hl.symm.trans hq')
        rw [if_neg (by omega), Nat.add_sub_cancel]
        exact ⟨ha.1, ha.2⟩
      · rw [if_neg ha]
        simp only [alikeP, Bool.and_eq_true, decide_eq_true_eq] at ha
        have hc : k = 0 ∨ g k ≠ g (k - 1) := by
          rcases Nat.eq_zero_or_pos k with h | h
          · exact .inl h
          · rw [if_neg (by omega)] at h3
            exact .inr fun h => ha ⟨h3.1, h3.2.trans h.symm⟩
        refine ⟨by rw [if_pos hc, cntN_snoc, h1]; simp, fun q' hq' => ?_⟩
        simp at hq'
        subst hq'
        simp
theorem comp_end (f g : Nat → Int) (k : Nat) (x : Int) : cntN (compP (partsK f g k ++ [⟨x, -1, 0⟩])) = cntK g k ∧ (1 ≤ k → compP (partsK f g k ++ [⟨x, -1, 0⟩]) = compP (partsK f g k) ++ [⟨x, -1, 0⟩]) := by
  obtain ⟨h1, h2⟩ := comp_chain f g k
  rw [comp_snoc]
  unfold compA
  cases hl : (compP (partsK f g k)).getLast? with
  | none => exact ⟨by simp [cntN_snoc, h1], fun _ => rfl⟩
  | some q =>
    have h3 := h2 q hl
    simp only
    by_cases ha : alikeP q ⟨x, -1, 0⟩ = true
    · rw [if_pos ha]
      simp only [alikeP, Bool.and_eq_true, decide_eq_true_eq] at ha
      refine ⟨h1, fun hk => ?_⟩
      rw [if_neg (by omega)] at h3
      omega
    · rw [if_neg ha]
      exact ⟨by rw [cntN_snoc, h1]; simp, fun _ => rfl⟩
theorem not_over (c : List Pt) (x e : Int) : ¬ overEnd (c ++ [⟨x, -1, e⟩]) := by
  rintro ⟨a, b, h1, h2, h3, h4, h5⟩
  rw [List.length_append, List.length_singleton, Nat.add_sub_cancel, List.getElem?_append_right (Nat.le_refl _), Nat.sub_self] at h2
  simp at h2
  subst h2
  simp only [alikeP, Bool.and_eq_true, decide_eq_true_eq] at h5
  omega
/-- of one epoch all is one -/
theorem comp_one (f : Nat → Int) (k : Nat) : compP (partsK f (fun _ => 0) (k + 1)) = preP (f 0) ++ [⟨f 0, 0, 0⟩] := by
  induction k with
  | zero =>
    have hs : compP (partsK f (fun _ => 0) 1) = compA (compP (preP (f 0))) ⟨f 0, 0, 0⟩ := comp_snoc _ _
    rw [hs]
    unfold preP
    split
    · rfl
    · rfl
  | succ k ih =>
    have hs : compP (partsK f (fun _ => 0) (k + 2)) = compA (compP (partsK f (fun _ => 0) (k + 1))) ⟨f (k + 1), 0, 0⟩ := comp_snoc _ _
    rw [hs, ih]
    unfold compA
    simp [alikeP]
theorem arcK_one (a x : Int) : arcK (preP a ++ [⟨a, 0, 0⟩] ++ [⟨x, -1, 0⟩]) (preP a ++ [(⟨a, 0, 0⟩ : Pt)] ++ [(⟨x, -1, 0⟩ : Pt)]).length = [⟨a, x, 0, 0⟩] := by
  unfold preP
  split
  · rfl
  · rfl
/-- what Arcs tells: as many as there are runs of alike epochs -/
theorem arcs_cnt (f g : Nat → Int) (m : Nat) (h0 : 0 ≤ f 0) (hf : ∀ i, i < m → f i < f (i + 1)) (hg : ∀ i, 0 ≤ g i) (hm : 1 ≤ m) :
    ¬ overEnd (compP ((arcsK f g m).foldl learnP [])) ∧ (arcK (compP ((arcsK f g m).foldl learnP [])) (compP ((arcsK f g m).foldl learnP [])).length).length = cntK g m := by
  obtain ⟨k, rfl⟩ : ∃ k, m = k + 1 := ⟨m - 1, by omega⟩
  rw [learn_chain f g (k + 1) h0 hf hg k (by omega), arcK_all]
  obtain ⟨h1, h2⟩ := comp_end f g (k + 1) (f (k + 1))
  exact ⟨by rw [h2 (by omega)]; exact not_over _ _ _, h1⟩
/-- what Pieces puts together: one arc -/
theorem pieces_one (f : Nat → Int) (m : Nat) (h0 : 0 ≤ f 0) (hf : ∀ i, i < m → f i < f (i + 1)) (hm : 1 ≤ m) :
    ¬ overEnd (compP ((arcsK f (fun _ => 0) m).foldl learnP [])) ∧ arcK (compP ((arcsK f (fun _ => 0) m).foldl learnP [])) (compP ((arcsK f (fun _ => 0) m).foldl learnP [])).length = [⟨f 0, f m, 0, 0⟩] := by
  obtain ⟨k, rfl⟩ : ∃ k, m = k + 1 := ⟨m - 1, by omega⟩
  rw [learn_chain f (fun _ => 0) (k + 1) h0 hf (fun _ => Int.le_refl _) k (by omega)]
  obtain ⟨h1, h2⟩ := comp_end f (fun _ => 0) (k + 1) (f (k + 1))
  refine ⟨by rw [h2 (by omega)]; exact not_over _ _ _, ?_⟩
  rw [h2 (by omega), comp_one]
  exact arcK_one _ _
end Go.Proofs.YtpcmbnbdppembaaGreatDoor

/- What Arcs tells of one arc that is owned: one arc, with the same points. -/
namespace Go.Proofs.YtpcmbnbdppembaaGreatDoor
set_option linter.unusedSimpArgs false
set_option linter.unusedVariables false

def piecesO (own : Arc) (node ep : Int) : List Ow := (piecesA own).map (fun p => ⟨p.f, p.t, node, ep⟩)

theorem view_low {f t : Int} (node ep : Int) (h0 : 0 ≤ f) (hft : f < t) (hep : 0 ≤ ep) : viewOf [⟨f, t, node, ep⟩] = preP f ++ [⟨f, 0, ep⟩, ⟨t, -1, 0⟩] := by
  have := learn_first ⟨f, t, 0, ep⟩ hft h0 hep (Int.le_refl 0) (by simp)
  simpa [viewOf, preP] using this
theorem cutP_first (f : Int) (h0 : 0 ≤ f) : cutP [] f = preP f ++ [⟨f, -1, 0⟩] := by
  have hp : placeP [⟨0, -1, 0⟩] f = 0 := by simpa using place_last [] ⟨0, -1, 0⟩ f h0
  unfold cutP
  rw [if_pos rfl]
  unfold cutP0 preP
  rw [hp]
  simp only [List.getElem?_cons_zero]
  by_cases hz : f = 0
  · rw [if_pos hz.symm, if_pos hz, hz]; rfl
  · rw [if_neg (fun h => hz h.symm), if_neg hz]; rfl
theorem view_end {f : Int} (node ep : Int) (h0 : 0 ≤ f) (hep : 0 ≤ ep) : viewOf [⟨f, 0, node, ep⟩] = preP f ++ [⟨f, 0, ep⟩] := by
  unfold viewOf learnP
  simp only [List.map_cons, List.map_nil, List.foldl_cons, List.foldl_nil]
  rw [if_neg (by omega)]
  have hv : vpieces (⟨f, 0⟩ : Arc) = [⟨f, 0⟩] := by unfold vpieces; rw [if_pos (.inl rfl)]
  rw [hv]
  simp only [List.foldl_cons, List.foldl_nil]
  unfold learn1 cuts2
  rw [if_neg (by simp), cutP_first f h0, List.map_append]
  congr 1
  · unfold preP
    split
    · rfl
    · simp only [List.map_cons, List.map_nil]
      unfold learnQ
      rw [if_pos (.inl (by simp only; omega))]
  · simp only [List.map_cons, List.map_nil]
    unfold learnQ
    rw [if_neg (by unfold skipQ; simp only; omega)]
theorem view_over {f t : Int} (node ep : Int) (ht : 0 < t) (htf : t ≤ f) (hep : 0 ≤ ep) : viewOf [⟨f, 0, node, ep⟩, ⟨0, t, node, ep⟩] = if t = f then [⟨0, 0, ep⟩, ⟨f, 0, ep⟩] else [⟨0, 0, ep⟩, ⟨t, -1, 0⟩, ⟨f, 0, ep⟩] := by
  have h1 : viewOf [⟨f, 0, node, ep⟩, ⟨0, t, node, ep⟩] = learnP (viewOf [⟨f, 0, node, ep⟩]) ⟨0, t, 0, ep⟩ := rfl
  rw [h1, view_end node ep (by omega) hep]
  unfold preP
  rw [if_neg (by omega)]
  unfold learnP
  rw [if_neg (by simp only; omega)]
  have hv : vpieces (⟨0, t⟩ : Arc) = [⟨0, t⟩] := by unfold vpieces; rw [if_pos (.inr ht)]
  rw [show (⟨0, t, 0, ep⟩ : Ow).arc = (⟨0, t⟩ : Arc) from rfl, hv]
  simp only [List.foldl_cons, List.foldl_nil]
  unfold learn1 cuts2
  rw [if_pos (by simpa using ht)]
  have hc0 : cutP ([⟨0, -1, 0⟩] ++ [⟨f, 0, ep⟩]) 0 = [⟨0, -1, 0⟩, ⟨f, 0, ep⟩] := by
    have hn : ¬ f ≤ 0 := by omega
    simp [cutP, cutP0, placeP, placeK, hn]
  rw [show (⟨0, t⟩ : Arc).f = 0 from rfl, show (⟨0, t⟩ : Arc).t = t from rfl, hc0]
  by_cases he : t = f
  · subst he
    have hc1 : cutP [⟨0, -1, 0⟩, ⟨t, 0, ep⟩] t = [⟨0, -1, 0⟩, ⟨t, 0, ep⟩] := by simp [cutP, cutP0, placeP, placeK]
    rw [if_pos rfl, hc1]
    simp only [List.map_cons, List.map_nil]
    unfold learnQ
    rw [if_neg (by unfold skipQ; simp only; omega), if_pos (.inr (.inl ⟨ht, Int.le_refl _⟩))]
  · have hn : ¬ f ≤ t := by omega
    have ht0 : ¬ (0 : Int) = t := by omega
    have ht1 : (0 : Int) ≤ t := by omega
    have hc1 : cutP [⟨0, -1, 0⟩, ⟨f, 0, ep⟩] t = [⟨0, -1, 0⟩, ⟨t, -1, 0⟩, ⟨f, 0, ep⟩] := by simp [cutP, cutP0, placeP, placeK, hn, ht0, ht1]
    rw [if_neg he, hc1]
    simp only [List.map_cons, List.map_nil]
    unfold learnQ
    rw [if_neg (by unfold skipQ; simp only; omega), if_pos (.inr (.inl ⟨ht, Int.le_refl _⟩)), if_pos (.inr (.inl ⟨ht, htf⟩))]

/-- one arc is told as one -/
theorem arcs_one {own : Arc} (ho : own.ok) (node : Int) {ep : Int} (hep : 0 ≤ ep) : ∃ o : Ow, arcsV (viewOf (piecesO own node ep)) = [o] ∧ o.arc.ok ∧ ∀ x, Pt64 x → inA o.arc x = inA own x := by
  obtain ⟨f, t⟩ := own
  obtain ⟨⟨h1, h2⟩, ⟨h3, h4⟩⟩ := id ho
  simp only at h1 h2 h3 h4
  unfold piecesO piecesA
  simp only
  by_cases hc : t = 0 ∨ f < t
  · rw [if_pos hc]
    simp only [List.map_cons, List.map_nil]
    rcases hc with rfl | hft
    · rw [view_end node ep h1 hep]
      by_cases hf : f = 0
      · subst hf
        refine ⟨⟨0, 0, 0, ep⟩, ?_, ho, fun _ _ => rfl⟩
        simp [preP, arcsV, compP, compA, overB, arcK, nextF]
      · refine ⟨⟨f, 0, 0, ep⟩, ?_, ho, fun _ _ => rfl⟩
        simp [preP, hf, arcsV, compP, compA, overB, arcK, nextF, alikeP]
    · rw [view_low node ep h1 hft hep]
      refine ⟨⟨f, t, 0, ep⟩, ?_, ho, fun _ _ => rfl⟩
      by_cases hf : f = 0
      · subst hf
        simp [preP, arcsV, compP, compA, overB, arcK, nextF, alikeP]
      · simp [preP, hf, arcsV, compP, compA, overB, arcK, nextF, alikeP]
  · rw [if_neg hc]
    simp only [List.map_cons, List.map_nil]
    rw [view_over node ep (by omega) (by omega) hep]
    by_cases he : t = f
    · subst he
      rw [if_pos rfl]
      refine ⟨⟨0, 0, 0, ep⟩, ?_, (show (⟨0, 0⟩ : Arc).ok from ⟨⟨by decide, by decide⟩, ⟨by decide, by decide⟩⟩), fun x hx => ?_⟩
      · simp [arcsV, compP, compA, overB, arcK, nextF, alikeP]
      · simp [inA]
    · rw [if_neg he]
      refine ⟨⟨f, t, 0, ep⟩, ?_, ho, fun _ _ => rfl⟩
      simp [arcsV, compP, compA, overB, arcK, nextF, alikeP, closeE]

theorem apart_same {o own a : Arc} (h1 : o.ok) (h2 : own.ok) (ha : a.ok) (h : ∀ x, Pt64 x → inA o x = inA own x) : apartA o a = apartA own a := by
  rw [Bool.eq_iff_iff, apart_iff h1 ha, apart_iff h2 ha]
  constructor
  · intro k x hx hh
    exact k x hx ⟨by rw [h x hx]; exact hh.1, hh.2⟩
  · intro k x hx hh
    exact k x hx ⟨by rw [← h x hx]; exact hh.1, hh.2⟩

/-- does an arc meet the one that is owned? -/
theorem meet_one {w : World} {h : Nat} {st : HSt} {xs : List Itm} {B : List Nat} (hh : HoldI w h st xs B) {own a : Arc} (ho : own.ok) (ha : a.ok) {ep : Int} (hep : 0 ≤ ep) (hst : st.own = piecesO own st.node ep) : ArcsMeet h a (!apartA own a) w := by
  intro w1 hm1
  obtain ⟨o, h1, h2, h3⟩ := arcs_one ho st.node hep
  obtain ⟨tr, n, h4, _⟩ := hh
  have hlen : st.own.length ≤ 2 := by rw [hst]; unfold piecesO piecesA; split <;> simp
  refine (harcs_any (h4.mod hm1 (fun _ _ x => x)) (fun p hp => ?_) (by omega) (xs := [o]) (by simp) (fun W v B' hv => ?_)).mono ?_
  · rw [hst] at hp
    unfold piecesO at hp
    obtain ⟨q, _, rfl⟩ := List.mem_map.1 hp
    exact hep
  · intro W' hm
    have := varcs_any (hv.mod hm (fun _ _ x => x)) (by have := viewOf_len st.own; omega)
    rw [hst, h1] at this
    exact this
  · rintro e w' ⟨u, rfl, hr, hm⟩
    refine ⟨u, rfl, [ndOw st.node o], hr, ?_, hm⟩
    have : apartA (ndOw st.node o).arc a = apartA own a := apart_same h2 ho ha h3
    simp [this]
end Go.Proofs.YtpcmbnbdppembaaGreatDoor

/- rosarylaw16.alive. -/
namespace Go.Proofs.YtpcmbnbdppembaaGreatDoor
set_option linter.unusedSimpArgs false
set_option linter.unusedVariables false
open Go.RowKit Go.Shelf
attribute [local go_sem ↓] Go.wp_at_zero Go.wp_at_succ

def st16 : HSt := { stL 2 ⟨5, 6⟩ 0 with kept := (stL 2 ⟨5, 6⟩ 0).kept + 0 }
def st16w : HSt := { ownSt st16 ⟨6, 9⟩ 3 with kept := max (st16.kept - (([] : List Itm).length : Int)) 0 }

set_option maxRecDepth 100000 in
set_option maxHeartbeats 16000000 in
theorem alive16 (w : World) : Calls Tryz.prog 23 #[] w fun e w' => e = .returned (.bool true) ∧ Mod NoB w w' := by
  have ok5 : (⟨5, 6⟩ : Arc).ok := ⟨⟨by decide, by decide⟩, ⟨by decide, by decide⟩⟩
  have ok6 : (⟨6, 9⟩ : Arc).ok := ⟨⟨by decide, by decide⟩, ⟨by decide, by decide⟩⟩
  have hap : (!apartA ⟨5, 6⟩ ⟨6, 9⟩) = false := by decide
  have hmay : st16.may ⟨6, 9⟩ 3 = true := by decide
  have hat : (st16w.at 7).isSome = true := by decide
  have hep : epochTo st16w.own = 3 := by decide
  have OK5 := Lib.hid ok5; have OK6 := Lib.hid ok6; have HAP := Lib.hid hap; have HMAY := Lib.hid hmay; have HAT := Lib.hid hat; have HEP := Lib.hid hep
  clear ok5 ok6 hap hmay hat hep
  go_enter Tryz.func23, Tryz.ntmps23
  go_wp2_with fail
  refine (loaded_nil 2 ⟨5, 6⟩ 0 (Int.le_refl 0) none 0 _).mono ?_
  rintro e w1 ⟨h, r, B, rfl, hn1⟩
  have N1 := Lib.hid hn1
  clear hn1
  have hmeet := meet_one N1.out.1 OK5.out OK6.out (Int.le_refl 0) (show (stL 2 ⟨5, 6⟩ 0).own = piecesO ⟨5, 6⟩ 2 0 from rfl)
  rw [HAP.out] at hmeet
  have HMEET := Lib.hid hmeet
  clear hmeet
  go_wp2_with fail
  refine (offered_any (cx := encLx (ltr 10 1 2 7 ⟨6, 9⟩ 3 (.slice none 0 0) 0)) N1.out.1 HMEET.out (me := 2) (fr := 1) (id := 7) (ep := 3) (n := 0) (by decide) (by decide) (by decide) (by decide) (by simp) true rfl rfl rfl rfl rfl rfl rfl rfl).mono ?_
  rintro e w2 ⟨N, hN, ht2, (⟨_, _, _, _, b, rfl, hb1, hbB, htv, hl, hh⟩ | ⟨hno, _⟩)⟩
  case inr => exact absurd ⟨rfl, rfl, Int.le_refl 0, by decide⟩ hno
  have N2 : Hid (NewI w w2 h st16 [] B) := Lib.hid (N1.out.turn hh ht2)
  have y0 := cell_of hl 0 (v := .int .i64 11) rfl
  have y19 := cell_of hl 19 (v := .int .i64 1) rfl
  have HTV := Lib.hid htv; have HBB := Lib.hid hbB; have HB1 := Lib.hid (Nat.le_trans N1.out.2.1.size hb1)
  clear hN ht2 hb1 hbB htv hl hh HMEET
  go_wp2_with fail
  refine (got_commit (cx := encLx (ltr 14 1 2 7 ⟨0, 0⟩ 0 (.slice none 0 0) 0)) HTV.out rfl N2.out.1 HBB.out (its := []) ⟨World.ownsRow_nil _ _ _ _, by simp [ownL, Value.ownBlock]⟩ rfl (st2 := st16w) (ys := [])
    (fun w1 a1 a2 => win_ok a1 a2 HMAY.out (by simp) (by simp) (by decide) (by decide) (by decide) (by simp) (by simp)) rfl rfl rfl).mono ?_
  rintro e w3 ⟨N', B3, rfl, hN3, hl3, htv3, hh3, ht3⟩
  have z0 := cell_of hl3 0 (v := .int .i64 15) rfl
  have HTV3 := Lib.hid htv3; have HH3 := Lib.hid hh3
  have M3 : Hid (Mod NoB w w3) := Lib.hid (N2.out.2.1.then ht3.1 (fun k hk hb => by
    rcases List.mem_cons.1 hb with e | hb
    · have := HB1.out; omega
    · have := N2.out.2.2 k hb; omega))
  clear hN3 hl3 htv3 hh3 ht3 y0 y19
  go_wp2_with fail
  refine (tstep_any HTV3.out).mono ?_
  rintro e w4 ⟨rfl, rfl⟩
  obtain ⟨tr, n, hh4, _⟩ := HH3.out
  have HH4 := Lib.hid hh4
  clear hh4
  go_wp2_with fail
  refine (hasH_any HH4.out 7).mono ?_
  rintro e w5 ⟨rfl, hm5⟩
  rw [HAT.out]
  have HH5 := Lib.hid (HH4.out.mod hm5 (fun _ _ x => x)); have M5 := Lib.hid (M3.out.trans hm5)
  clear hm5
  go_wp2_with fail
  refine (epoch_any HH5.out (by decide)).mono ?_
  rintro e w6 ⟨rfl, hm6⟩
  rw [HEP.out]
  have M6 := Lib.hid (M5.out.trans hm6)
  clear hm6
  go_wp2_with fail
  go_ret
  exact ⟨rfl, M6.out⟩
end Go.Proofs.YtpcmbnbdppembaaGreatDoor

/- rosaryref1.In, Apart. -/
namespace Go.Proofs.YtpcmbnbdppembaaGreatDoor
set_option linter.unusedSimpArgs false
set_option linter.unusedVariables false
open Go.RowKit Go.Shelf
attribute [local go_sem ↓] Go.wp_at_zero Go.wp_at_succ

set_option maxRecDepth 100000 in
set_option maxHeartbeats 8000000 in
theorem rin_any (a : Arc) (x : Int) (w : World) : Calls Tryz.prog 31 #[.agg #[.int .u64 a.f, .int .u64 a.t], .int .u64 x] w fun e w' => e = .returned (.bool (inA a x)) ∧ Mod NoB w w' := by
  by_cases h : a.f = a.t
  · have HB := Lib.hid (show inA a x = true by simp [inA, h])
    have hq : (a.f == a.t) = true := by simpa using h
    clear h
    go_enter Tryz.func31, Tryz.ntmps31
    go_wp2_with fail
    go_ret
    exact ⟨by rw [HB.out]; rfl, by repeat (first | exact Mod.refl _ _ | refine Mod.alloc ?_ _ | refine Mod.drew ?_)⟩
  · have hq : (a.f == a.t) = false := by simpa using h
    obtain ⟨X, hX⟩ : ∃ X, X = IntKind.u64.wrap (x - a.f) := ⟨_, rfl⟩
    obtain ⟨Y, hY⟩ : ∃ Y, Y = IntKind.u64.wrap (a.t - a.f) := ⟨_, rfl⟩
    have HB := Lib.hid (show inA a x = decide (X < Y) by rw [hX, hY, IntKind.wrap_u64, IntKind.wrap_u64]; simp [inA, h])
    have rX := hX.symm; have rY := hY.symm
    clear h hX hY
    go_enter Tryz.func31, Tryz.ntmps31
    go_wp2_with fail
    go_ret
    exact ⟨by rw [HB.out]; rfl, by repeat (first | exact Mod.refl _ _ | refine Mod.alloc ?_ _ | refine Mod.drew ?_)⟩

set_option maxRecDepth 100000 in
set_option maxHeartbeats 8000000 in
theorem rapart_any (a b : Arc) (w : World) : Calls Tryz.prog 27 #[.agg #[.int .u64 a.f, .int .u64 a.t], .agg #[.int .u64 b.f, .int .u64 b.t]] w fun e w' => e = .returned (.bool (apartA a b)) ∧ Mod NoB w w' := by
  have bA := (Below.heap_alloc (w.alloc (.cells #[.int .u64 a.f, .int .u64 a.t] 25)) (.cells #[.int .u64 b.f, .int .u64 b.t] 25) w.heap.size (by simp)).trans (heap_alloc_new w (.cells #[.int .u64 a.f, .int .u64 a.t] 25))
  have bB := heap_two w (.cells #[.int .u64 a.f, .int .u64 a.t] 25) (.cells #[.int .u64 b.f, .int .u64 b.t] 25)
  have HA := Lib.hid bA; have HB := Lib.hid bB
  clear bA bB
  go_enter Tryz.func27, Tryz.ntmps27
  go_wp2_with fail
  refine (rin_any a b.f _).mono ?_
  rintro e w1 ⟨rfl, hm1⟩
  have a0 := hm1.cellS (cell_of HA.out 0 (v := .int .u64 a.f) rfl)
  have b0 := hm1.cellS (cell_of HB.out 0 (v := .int .u64 b.f) rfl)
  have b1 := hm1.cellS (cell_of HB.out 1 (v := .int .u64 b.t) rfl)
  have HM1 := Lib.hid ((((Mod.refl NoB w).alloc (.cells #[.int .u64 a.f, .int .u64 a.t] 25)).alloc (.cells #[.int .u64 b.f, .int .u64 b.t] 25)).trans hm1)
  clear hm1
  cases h1 : inA a b.f with
  | true =>
    go_wp2_with fail
    go_ret
    exact ⟨by unfold apartA; rw [h1]; rfl, HM1.out⟩
  | false =>
    go_wp2_with fail
    refine (rin_any b a.f _).mono ?_
    rintro e w2 ⟨rfl, hm2⟩
    have HM2 := Lib.hid (HM1.out.trans hm2)
    clear hm2
    cases h2 : inA b a.f with
    | true =>
      go_wp2_with fail
      go_ret
      exact ⟨by unfold apartA; rw [h1, h2]; rfl, HM2.out⟩
    | false =>
      go_wp2_with fail
      go_ret
      exact ⟨by unfold apartA; rw [h1, h2]; rfl, HM2.out⟩
end Go.Proofs.YtpcmbnbdppembaaGreatDoor

/- A take that goes on, new since a world: its calls. -/
namespace Go.Proofs.YtpcmbnbdppembaaGreatDoor
set_option linter.unusedSimpArgs false
set_option linter.unusedVariables false
open Go.RowKit Go.Shelf

theorem arcsMeet_none {w : World} {h : Nat} {st : HSt} {xs : List Itm} {B : List Nat} (hh : HoldI w h st xs B) (ho : st.own = []) (a : Arc) : ArcsMeet h a false w := fun w1 hm => by
  obtain ⟨tr, n, h1, _⟩ := hh.mod hm (fun _ _ x => x)
  refine (harcs_none h1 ho).mono ?_
  rintro e w2 ⟨rfl, hm2⟩
  exact ⟨_, rfl, [], World.ownsRow_nil _ _ _ _, rfl, hm2⟩

theorem inA_from {a : Arc} (ha : a.ok) : inA a a.f = true := by
  obtain ⟨⟨h1, h2⟩, h3, h4⟩ := ha
  unfold inA
  rcases Decidable.em (a.f = a.t) with e | e
  · simp [e]
  · have : 0 < (a.t - a.f) % 18446744073709551616 := by omega
    simp [e, this]

theorem slAt_one {W : World} {M : Nat} {k v : ByteArray} {t : TypeId} (h : W.heap[M]? = some (.cells #[.string k, .string v] t (0, 0))) : SlAt 2 encIt W (.slice (some ⟨M, 0, none⟩) 1 1) [(k, v)] := by
  refine ⟨_, _, rfl, fun i x hi => ?_⟩
  have h0 : i = 0 := by
    have := (List.getElem?_eq_some_iff.1 hi).1
    simp at this
    exact this
  subst h0
  simp only [List.getElem?_cons_zero, Option.some.injEq] at hi
  subst hi
  refine ⟨M, 0, rfl, fun j u hu => ?_⟩
  have := cell_of h j (v := u) (by simpa using hu)
  simpa using this

theorem at_from {st : HSt} {a : Arc} (ha : a.ok) {ep : Int} : ((ownSt st a ep).at a.f).isSome = true := by
  have hx := at_own (st := st) ha (ep := ep) (x := a.f) ⟨ha.1.1, ha.1.2⟩
  rw [hx, inA_from ha]
  simp

theorem hlenJ {w : World} {h : Nat} {st : HSt} {xs : List Itm} {B : List Nat} (hh : HoldI w h st xs B) : Calls Tryz.prog 33 #[.pointer (some ⟨h, 0, none⟩)] w fun e w' => e = .returned (.int .i64 (xs.length : Int)) ∧ w' = w := by
  obtain ⟨tr, n, h1, h2⟩ := hh
  have e : n = xs.length := h2.1
  rw [← e]
  exact hlen_any h1

/-- a take that goes on, all of whose blocks are new since w -/
def TkI (w W : World) (h b : Nat) (t : Tv) (st : HSt) (xs its : List Itm) (B : List Nat) : Prop :=
  NewI w W h st xs B ∧ (TvAt W b t ∧ w.heap.size ≤ b ∧ b ∉ B) ∧ Beside W t.l its B ∧ b ∉ ownL t.l ∧ (∀ g ∈ ownL t.l, w.heap.size ≤ g) ∧ t.h = h

theorem TkI.quiet {w W W' : World} {h b : Nat} {t : Tv} {st : HSt} {xs its : List Itm} {B : List Nat} (hk : TkI w W h b t st xs its B) (hm : Mod NoB W W') : TkI w W' h b t st xs its B :=
  ⟨hk.1.quiet hm, ⟨hk.2.1.1.mod hm (fun x => x), hk.2.1.2⟩, hk.2.2.1.quiet hm, hk.2.2.2⟩
theorem TkI.turn {w W W' : World} {h b : Nat} {t : Tv} {st st' : HSt} {xs xs' its : List Itm} {B B' : List Nat} (hk : TkI w W h b t st xs its B) (hh : HoldI W' h st' xs' B') (ht : Turn B W W' B') : TkI w W' h b t st' xs' its B' := by
  refine ⟨hk.1.turn hh ht, ⟨hk.2.1.1.mod ht.1 hk.2.1.2.2, hk.2.1.2.1, fun hb => (ht.2 b hb).elim hk.2.1.2.2 (fun h => ?_)⟩, hk.2.2.1.turn ht, hk.2.2.2⟩
  have := hk.2.1.1.lt
  omega

theorem tk_chunk {w W : World} {h b : Nat} {t : Tv} {st : HSt} {xs its : List Itm} {B : List Nat} (hk : TkI w W h b t st xs its B) (hst : t.step = 1) {news : List Itm} {y : Value} (hy : SlAt 2 encIt W y news) (hyf : y = .slice none 0 0 ∨ ∃ a n c, y = .slice (some a) n c) (hby : news = [] ∨ b ∉ ownL y) (hlen : its.length + news.length ≤ 1000000)
    (hlie : (news.all fun x => inA t.a (addr x.1)) = true) {n : Int} (hn : IntKind.i64.wrap (t.chs + 1) = n)
    {cx : Array Value} (x0 : cx[0]? = some (.int .i64 12)) (x1 : cx[1]? = some (.int .i64 t.fr)) (x3 : cx[3]? = some (.int .i64 t.id)) (x18 : cx[18]? = some y) (x19 : cx[19]? = some (.int .i64 n)) :
    Calls Tryz.prog 29 #[.pointer (some ⟨b, 0, none⟩), .agg cx] W fun e W' => ∃ N v', e = .returned (.tuple #[.slice (some ⟨N, 0, none⟩) 1 1, .bool false]) ∧ W.heap.size ≤ N ∧ W'.heap[N]? = some (.cells (encLx (ltr 13 t.me t.fr t.id ⟨0, 0⟩ 0 (.slice none 0 0) n)) 50 (0, 0)) ∧
      TkI w W' h b { t with chs := n, l := v' } st xs (its ++ news) B := by
  obtain ⟨hN, ⟨hT, hb1, hb2⟩, hB, hbl, hln, hth⟩ := hk
  refine (got_chunk hT hst hB.1 hbl hy hyf hby hlen hlie hn x0 x1 x3 x18 x19).mono ?_
  rintro e W' ⟨N, v', rfl, hN1, hN2, hT', hrow, hnew, hm⟩
  have hm2 : Turn (b :: ownL t.l) W W' (b :: ownL t.l) := ⟨hm.mono (fun k _ hk => hk.elim (fun h => h ▸ List.mem_cons_self) (fun h => List.mem_cons_of_mem _ h)), fun k hk => .inl hk⟩
  have hlow : ∀ k, k < w.heap.size → ¬ (k = b ∨ k ∈ ownL t.l) := fun k hk hx => hx.elim (fun h => by omega) (fun h => by have := hln k h; omega)
  have hBm : ∀ k ∈ B, ¬ (k = b ∨ k ∈ ownL t.l) := fun k hk hx => hx.elim (fun h => hb2 (h ▸ hk)) (fun h => hB.2 k h hk)
  have hlt := hN.1.lts
  refine ⟨N, v', rfl, hN1, hN2, ⟨hN.1.mod hm hBm, hN.2.1.then hm (fun k hk hx => hlow k hk hx), hN.2.2⟩, ⟨hT', hb1, hb2⟩, ⟨?_, fun g hg hgB => ?_⟩, fun hg => ?_, fun g hg => ?_, hth⟩
  · have e1 : (its ++ news).length = its.length + news.length := List.length_append
    have e2 : (its ++ news).flatMap encIt = its.flatMap encIt ++ news.flatMap encIt := List.flatMap_append
    rw [e1, e2]
    exact hrow
  · rcases hnew g hg with h1 | h1
    · exact hB.2 g h1 hgB
    · have := hlt g hgB; omega
  · rcases hnew b hg with h1 | h1
    · exact hbl h1
    · have := hT.lt; omega
  · rcases hnew g hg with h1 | h1
    · exact hln g h1
    · exact Nat.le_trans hN.2.1.size h1

theorem tk_commit {w W : World} {h b : Nat} {t : Tv} {st : HSt} {xs its : List Itm} {B : List Nat} (hk : TkI w W h b t st xs its B) (hst : t.step = 1) (hmay : st.may t.a t.ep = true) (hin : ∀ it ∈ its, inA t.a (addr it.1) = true) (hln : (its.length : Int) = t.n)
    (hlen : its.length ≤ 1000000) (hmost : st.most ≤ 1000000) (hk0 : 0 ≤ st.kept ∧ st.kept ≤ 1000000) (ho : st.own.length ≤ 1000000) (hsz : ∀ it ∈ its, it.1.size ≤ 1000000 ∧ it.2.size ≤ 1000000)
    (hfit : ∀ (j : Nat) (it : Itm), its[j]? = some it → putErr st.most it.1 it.2 (putAll st.most xs (its.take j)) = 0)
    {cx : Array Value} (x0 : cx[0]? = some (.int .i64 14)) (x1 : cx[1]? = some (.int .i64 t.fr)) (x3 : cx[3]? = some (.int .i64 t.id)) :
    Calls Tryz.prog 29 #[.pointer (some ⟨b, 0, none⟩), .agg cx] W fun e W' => ∃ N B', e = .returned (.tuple #[.slice (some ⟨N, 0, none⟩) 1 1, .bool true]) ∧ W.heap.size ≤ N ∧ W'.heap[N]? = some (.cells (encLx (ltr 15 t.me t.fr t.id ⟨0, 0⟩ 0 (.slice none 0 0) 0)) 50 (0, 0)) ∧
      TvAt W' b { t with step := 2 } ∧ b ∉ B' ∧ NewI w W' h { ownSt st t.a t.ep with kept := max (st.kept - its.length) 0 } (putAll st.most xs its) B' := by
  obtain ⟨hN, ⟨hT, hb1, hb2⟩, hB, hbl, hnn, rfl⟩ := hk
  refine (got_commit2 hT hst hN.1 hb2 hB hln (fun w1 a1 a2 => win_ok a1 a2 hmay hin hlen hmost hk0 ho hsz hfit) x0 x1 x3).mono ?_
  rintro e W' ⟨N, B', rfl, hN1, hN2, hT', hh', ht, hbn⟩
  refine ⟨N, B', rfl, hN1, hN2, hT', hbn, hh', ?_, fun k hk => ?_⟩
  · exact hN.2.1.then ht.1 (fun k hk hx => by
      rcases List.mem_cons.1 hx with e | e
      · omega
      · have := hN.2.2 k e; omega)
  · rcases ht.2 k (List.mem_cons_of_mem _ hk) with h | h
    · rcases List.mem_cons.1 h with e | e
      · omega
      · exact hN.2.2 k e
    · exact Nat.le_trans hN.2.1.size h
end Go.Proofs.YtpcmbnbdppembaaGreatDoor

/- TakeUnseen: the walk. -/
namespace Go.Proofs.YtpcmbnbdppembaaGreatDoor
set_option linter.unusedSimpArgs false
set_option linter.unusedVariables false
open Go.RowKit Go.Shelf
attribute [local go_sem ↓] Go.wp_at_zero Go.wp_at_succ

theorem told_g0 (e v i m x n : Value) (W : World) : (Instr.field 48 (.agg #[e, v, i, m, x, n]) 0).run Tryz.prog W = .ok e W := by kernel_rfl

/-- a list of lists of items, as it lies in memory -/
def ChsAt (w : World) (v : Value) (cs : List (Value × List Itm)) : Prop := SlAt 1 (fun x : Value × List Itm => [x.1]) w v cs ∧ ∀ x ∈ cs, SlAt 2 encIt w x.1 x.2 ∧ (x.1 = .slice none 0 0 ∨ ∃ a n c, x.1 = .slice (some a) n c) ∧ x.2.length ≤ 1000000000000000

theorem at1c {w : World} {v : Value} {cs : List (Value × List Itm)} (h : SlAt 1 (fun x : Value × List Itm => [x.1]) w v cs) {i : Nat} {x : Value × List Itm} (hi : cs[i]? = some x) :
    ∃ b o cap, v = .slice (some ⟨b, o, none⟩) cs.length cap ∧ b < w.heap.size ∧ w.cell? ⟨b, o + i, none⟩ = some x.1 := by
  obtain ⟨a, cap, hv, hx⟩ := h
  obtain ⟨b, o, rfl, hj⟩ := hx i x hi
  have := hj 0 _ rfl
  rw [Nat.mul_one, Nat.add_zero] at this
  exact ⟨b, o, cap, hv, cell_lt' this, this⟩
theorem ChsAt.mod {w w' : World} {v : Value} {cs : List (Value × List Itm)} (h : ChsAt w v cs) (hm : Mod NoB w w') : ChsAt w' v cs :=
  ⟨h.1.mod hm, fun x hx => ⟨(h.2 x hx).1.mod hm, (h.2 x hx).2.1, (h.2 x hx).2.2⟩⟩

/-- items that may be taken -/
def OkIts (a : Arc) (l : List Itm) : Prop := ∀ it ∈ l, 1 ≤ it.1.size ∧ it.1.size ≤ 16 ∧ it.2.size ≤ 16 ∧ inA a (addr it.1) = true
def tot (cs : List (Value × List Itm)) : Nat := (cs.flatMap (·.2)).length
theorem tot_le {cs : List (Value × List Itm)} (h : ∀ x ∈ cs, x.2.length ≤ 1000000000000000) : tot cs ≤ cs.length * 1000000000000000 := by
  unfold tot
  induction cs with
  | nil => simp
  | cons x cs ih =>
    have h1 := ih (fun y hy => h y (List.mem_cons_of_mem _ hy))
    have h2 := h x List.mem_cons_self
    simp only [List.flatMap_cons, List.length_append, List.length_cons]
    omega
theorem tot_succ {cs : List (Value × List Itm)} {j : Nat} {x : Value × List Itm} (h : cs[j]? = some x) : tot (cs.take (j + 1)) = tot (cs.take j) + x.2.length := by
  unfold tot
  rw [List.take_add_one, h]
  simp
theorem fm_succ {cs : List (Value × List Itm)} {j : Nat} {x : Value × List Itm} (h : cs[j]? = some x) : (cs.take (j + 1)).flatMap (·.2) = (cs.take j).flatMap (·.2) ++ x.2 := by
  rw [List.take_add_one, h, List.flatMap_append]
  simp
theorem tot_le2 {cs : List (Value × List Itm)} (h : ∀ x ∈ cs, x.2.length ≤ 1000000000000000) (hc : cs.length ≤ 10) (j : Nat) : tot (cs.take j) ≤ 10000000000000000 := by
  have h1 := tot_le (cs := cs.take j) (fun x hx => h x (List.mem_of_mem_take hx))
  have h2 : (cs.take j).length ≤ 10 := by rw [List.length_take]; omega
  have h3 := Nat.mul_le_mul_right 1000000000000000 h2
  omega
theorem tot_mono (cs : List (Value × List Itm)) (j : Nat) : tot (cs.take j) ≤ tot cs := by
  have h : tot cs = tot (cs.take j) + tot (cs.drop j) := by
    unfold tot
    rw [← List.length_append, ← List.flatMap_append, List.take_append_drop]
  omega
theorem filt_len (k : ByteArray) (l : List Itm) : (l.filter (fun y => keyLt y.1 k)).length + (l.filter (fun y => keyLt k y.1)).length ≤ l.length := by
  induction l with
  | nil => simp
  | cons y l ih =>
    simp only [List.filter_cons, List.length_cons]
    by_cases h1 : keyLt y.1 k = true
    · have h2 : ¬ keyLt k y.1 = true := by rw [keyLt_asymm h1]; simp
      rw [if_pos h1, if_neg h2, List.length_cons]
      omega
    · rw [if_neg h1]
      split
      · rw [List.length_cons]; omega
      · omega
theorem insS_len (it : Itm) (l : List Itm) : (insS it l).length ≤ l.length + 1 := by
  have := filt_len it.1 l
  unfold insS
  simp only [List.length_append, List.length_cons]
  omega
theorem putAll_len (most : Int) (l : List Itm) : ∀ xs : List Itm, (putAll most xs l).length ≤ xs.length + l.length := by
  induction l with
  | nil => intro xs; simp [putAll]
  | cons it l ih =>
    intro xs
    have h1 := ih (putIts most it.1 it.2 xs)
    have h2 : (putIts most it.1 it.2 xs).length ≤ xs.length + 1 := by
      unfold putIts
      split
      · omega
      · split
        · omega
        · split
          · have : (setS it.1 it.2 xs).length = xs.length := by simp [setS]
            omega
          · split
            · omega
            · have := insS_len it xs
              omega
    have h3 : putAll most xs (it :: l) = putAll most (putIts most it.1 it.2 xs) l := rfl
    rw [h3, List.length_cons]
    omega
theorem fit_ok {a : Arc} {its : List Itm} (h : OkIts a its) {most : Int} (hm : (its.length : Int) ≤ most) (j : Nat) (it : Itm) (hj : its[j]? = some it) : putErr most it.1 it.2 (putAll most [] (its.take j)) = 0 := by
  obtain ⟨hj1, hj2⟩ := List.getElem?_eq_some_iff.1 hj
  obtain ⟨g1, g2, g3, _⟩ := h it (hj2 ▸ List.getElem_mem hj1)
  have hl := putAll_len most (its.take j) []
  have hl2 : (its.take j).length ≤ j := by rw [List.length_take]; omega
  unfold putErr
  rw [if_neg (fun e => e ⟨g1, g2⟩), if_neg (fun e => e g3)]
  split
  · rfl
  · rw [if_neg (by simp at hl; omega)]
def UnRel (a : Arc) (cs : List (Value × List Itm)) (w : World) (i n : Value) (wr : World) : Prop :=
  ∃ j : Nat, j ≤ cs.length ∧ i = .int .i64 j ∧ n = .int .i64 (tot (cs.take j)) ∧ OkIts a ((cs.take j).flatMap (·.2)) ∧ Mod NoB w wr

set_option maxRecDepth 100000 in
set_option maxHeartbeats 16000000 in
theorem unseen_walk {v : Value} {cs : List (Value × List Itm)} {w : World} (hcs : ChsAt w v cs) (hcl : cs.length ≤ 9223372036854775807) {a : Arc} (ha : a.ok) {k : ByteArray} :
    Calls Tryz.prog 7 #[v, .agg #[.int .u64 a.f, .int .u64 a.t], .string k] w fun e w' => e = .returned (.bool true) ∧ Mod NoB w w' := by
  obtain ⟨av, cap, rfl, _⟩ := id hcs.1
  have HCS := Lib.hid hcs
  clear hcs
  by_cases hg : cs.length ≤ 10 ∧ 1 ≤ k.size ∧ k.size ≤ 16
  case neg =>
    have hcc : 10 < (cs.length : Int) ∨ (¬ 10 < (cs.length : Int) ∧ 16 < (k.size : Int)) ∨ (¬ 10 < (cs.length : Int) ∧ ¬ 16 < (k.size : Int) ∧ (k.size : Int) < 1) := by omega
    clear hg
    rcases hcc with h1 | ⟨h1, h2⟩ | ⟨h1, h2, h3⟩
    all_goals
      go_enter Tryz.func7, Tryz.ntmps7
      go_wp2_with fail
      refine (alive16 _).mono ?_
      rintro e w1 ⟨rfl, hm1⟩
      have M1 := Lib.hid hm1
      clear hm1
      go_wp2_with fail
      go_ret
      exact ⟨rfl, Mod.trans (by repeat (first | exact Mod.refl _ _ | refine Mod.alloc ?_ _ | refine Mod.drew ?_)) M1.out⟩
  obtain ⟨m0, m1, m2⟩ := hg
  have n0 : ¬ 10 < (cs.length : Int) := by omega
  have n1 : ¬ (k.size : Int) < 1 := by omega
  have n2 : ¬ 16 < (k.size : Int) := by omega
  have HA := Lib.hid ha
  clear ha
  go_enter Tryz.func7, Tryz.ntmps7
  go_wp2_with fail
  obtain ⟨N0, hN0⟩ : ∃ N0, N0 = w.heap.size := ⟨_, rfl⟩
  obtain ⟨w0, hw0⟩ : ∃ w0, w0 = (w.alloc (.cells #[.int .u64 a.f, .int .u64 a.t] 25)) := ⟨_, rfl⟩
  have hm0 : Mod NoB w w0 := by rw [hw0]; exact (Mod.refl _ _).alloc _
  have bA : w0.heap[N0]? = some (.cells #[.int .u64 a.f, .int .u64 a.t] 25 (0, 0)) := by
    rw [hw0, hN0]; exact heap_alloc_new w _
  rw [← hw0, ← hN0]
  have KEEP : Hid (∀ W, Mod NoB w0 W → (W.cell? ⟨N0, 0, none⟩ = some (.int .u64 a.f) ∧ W.cell? ⟨N0, 1, none⟩ = some (.int .u64 a.t))) :=
    Lib.hid (fun W hm => ⟨hm.cellS (cell_of bA 0 rfl), hm.cellS (cell_of bA 1 rfl)⟩)
  have HM0 := Lib.hid hm0
  clear hw0 hN0 bA hm0
  refine (alive16 _).mono ?_
  rintro e w1 ⟨rfl, hm1⟩
  have M1 := Lib.hid hm1
  clear hm1
  go_wp2_with fail
  refine (new_any 2 200 _ (by decide) (by decide)).mono ?_
  rintro e w2 ⟨h, B2, rfl, q1, q2, q3⟩
  have N2 : Hid (NewI w1 w2 h ⟨2, 200, 0, [], false, ⟨0, 0⟩, []⟩ [] B2) := Lib.hid ⟨⟨none, 0, q1, ShOK.start⟩, q2, q3⟩
  have hmm2 := M1.out.trans q2
  have M2 := Lib.hid hmm2
  clear q1 q2 q3 hmm2
  go_wp2_with fail
  have HCS2 : Hid (ChsAt w2 (.slice av cs.length cap) cs) := Lib.hid (HCS.out.mod (HM0.out.trans M2.out))
  have HCS0 := Lib.hid HCS.out
  clear HCS
  have HK2 : Hid (∀ W, Mod NoB w2 W → (W.cell? ⟨N0, 0, none⟩ = some (.int .u64 a.f) ∧ W.cell? ⟨N0, 1, none⟩ = some (.int .u64 a.t))) := Lib.hid (fun W hm => KEEP.out W (M2.out.trans hm))
  have HKE : Hid (∀ W, Mod NoB w1 W → (W.cell? ⟨N0, 0, none⟩ = some (.int .u64 a.f) ∧ W.cell? ⟨N0, 1, none⟩ = some (.int .u64 a.t))) := Lib.hid (fun W hm => KEEP.out W (M1.out.trans hm))
  have HCE : Hid (∀ W, Mod NoB w1 W → ChsAt W (.slice av cs.length cap) cs) := Lib.hid (fun W hm => HCS0.out.mod (HM0.out.trans (M1.out.trans hm)))
  clear KEEP
  go_loopw [46, 8] (fun i n wr => UnRel a cs w2 i n wr) (fun i _ _ => cs.length - (intOf i).toNat)
  case atStart => exact ⟨0, Nat.zero_le _, rfl, rfl, fun it hit => by simp at hit, Mod.refl _ _⟩
  case round =>
    obtain ⟨j, hj, rfl, rfl, hok, hm⟩ := hrel
    have HM := Lib.hid hm; have HOK := Lib.hid hok
    clear hok hm
    by_cases hlt : j < cs.length
    · have he : cs[j]? = some cs[j] := List.getElem?_eq_getElem hlt
      have hx := HCS2.out.2 cs[j] (List.getElem_mem hlt)
      have htot := tot_le2 (fun x hx => (HCS2.out.2 x hx).2.2) m0 j
      have hs := tot_succ he
      have hfm := fm_succ he
      obtain ⟨b', o', cap', hv, hb', r0⟩ := at1c (HCS2.out.mod HM.out).1 he
      obtain ⟨ax, xcap, hxv, _⟩ := id hx.1
      have hxl := hx.2.2
      have HX := Lib.hid hx.1
      rw [hxv] at r0 HX
      simp only [Value.slice.injEq] at hv
      obtain ⟨rfl, _, rfl⟩ := hv
      have HFM := Lib.hid hfm
      have hs2 : IntKind.i64.wrap (((tot (cs.take j) : Nat) : Int) + ((cs[j].2.length : Nat) : Int)) = ((tot (cs.take (j + 1)) : Nat) : Int) := by
        rw [hs, IntWalk.i64_in _ ⟨by omega, by omega⟩]
        omega
      clear hx htot hs he hfm hxv
      generalize hcj : cs[j].2 = its at *
      clear hcj
      go_wp2_with fail
      go_loopw [56] (fun i wr => ∃ k : Nat, k ≤ its.length ∧ i = .int .i64 k ∧ OkIts a (its.take k) ∧ Mod NoB w2 wr) (fun i _ => its.length - (intOf i).toNat)
      case atStart => exact ⟨0, Nat.zero_le _, rfl, fun it hit => by simp at hit, HM.out⟩
      case round =>
        obtain ⟨k1, hk1, rfl, hok1, hm1⟩ := hrel
        have HM1 := Lib.hid hm1; have HOK1 := Lib.hid hok1
        clear hok1 hm1
        by_cases hlt1 : k1 < its.length
        · have he1 : its[k1]? = some its[k1] := List.getElem?_eq_getElem hlt1
          have HST : Hid (1 ≤ its[k1].1.size ∧ its[k1].1.size ≤ 16 ∧ its[k1].2.size ≤ 16 ∧ inA a (addr its[k1].1) = true → OkIts a (its.take (k1 + 1))) := Lib.hid (fun hx it hit => by
            rw [List.take_add_one, he1, List.mem_append] at hit
            rcases hit with hit | hit
            · exact HOK1.out it hit
            · simp at hit; subst hit; exact hx)
          generalize its[k1] = it at *
          obtain ⟨b2, o2, cap2, hv2, r20, r21⟩ := SlAt.at2 (HX.out.mod HM1.out) he1
          simp only [Value.slice.injEq] at hv2
          obtain ⟨rfl, _, rfl⟩ := hv2
          obtain ⟨Wr, rfl⟩ : ∃ Wr : World, Wr = wr := ⟨_, rfl⟩
          have hN0w : N0 < Wr.heap.size := Nat.lt_of_lt_of_le (cell_lt' (HK2.out _ (Mod.refl _ _)).1) HM1.out.size
          have KEEP : Hid (∀ X, Mod NoB (Wr.alloc (.cells #[.string it.1, .string it.2] 73)) X → (X.cell? ⟨N0, 0, none⟩ = some (.int .u64 a.f) ∧ X.cell? ⟨N0, 1, none⟩ = some (.int .u64 a.t) ∧ X.cell? ⟨Wr.heap.size, 0, none⟩ = some (.string it.1) ∧ X.cell? ⟨Wr.heap.size, 1, none⟩ = some (.string it.2))) := Lib.hid (fun X hx => by
            have h0 := HK2.out X (HM1.out.trans (((Mod.refl NoB Wr).alloc _).trans hx))
            exact ⟨h0.1, h0.2, hx.cellS (cell_of (heap_alloc_new Wr _) 0 rfl), hx.cellS (cell_of (heap_alloc_new Wr _) 1 rfl)⟩)
          clear he1
          by_cases hgi : 1 ≤ it.1.size ∧ it.1.size ≤ 16 ∧ it.2.size ≤ 16
          case neg =>
            have hcc : (it.1.size : Int) < 1 ∨ (¬ (it.1.size : Int) < 1 ∧ 16 < (it.1.size : Int)) ∨ (¬ (it.1.size : Int) < 1 ∧ ¬ 16 < (it.1.size : Int) ∧ 16 < (it.2.size : Int)) := by omega
            clear hgi
            rcases hcc with g1 | ⟨g1, g2⟩ | ⟨g1, g2, g3⟩
            all_goals
              go_wp2_with fail
              go_quiet (fail)
              go_wp2_with fail
              go_ret
              exact ⟨rfl, HM0.out.trans (M2.out.trans (HM1.out.trans (by repeat (first | exact Mod.refl _ _ | refine Mod.alloc ?_ _ | refine Mod.drew ?_ | refine Mod.drewN ?_ _))))⟩
          obtain ⟨g1, g2, g3⟩ := hgi
          have H1N := Lib.hid (show decide ((it.1.size : Int) < 1) = false by simp; omega)
          have H2N := Lib.hid (show decide (16 < (it.1.size : Int)) = false by simp; omega)
          have H3N := Lib.hid (show decide (16 < (it.2.size : Int)) = false by simp; omega)
          go_wp2_with fail
          have h1n := H1N.out; have h2n := H2N.out; have h3n := H3N.out
          go_region_held3 (fun X => X.cell? ⟨N0, 0, none⟩ = some (.int .u64 a.f) ∧ X.cell? ⟨N0, 1, none⟩ = some (.int .u64 a.t) ∧ X.cell? ⟨Wr.heap.size, 0, none⟩ = some (.string it.1) ∧ X.cell? ⟨Wr.heap.size, 1, none⟩ = some (.string it.2)) (first | exact KEEP.out _ M6.out | exact KEEP.out _ (by repeat (first | exact Mod.refl _ _ | refine Mod.alloc ?_ _ | refine Mod.drew ?_ | refine Mod.drewN ?_ _))) ((first
            | (go_simp; go_at_call 32; go_loud (refine (raddr_any it.1 _).mono ?_; rintro e w' ⟨rfl, rfl⟩))
            | (go_simp; go_at_call 31; go_loud (refine (rin_any a (addr it.1) _).mono ?_; rintro e w5 ⟨rfl, hm5⟩; have hm6 := Mod.trans (S := NoB) (a := Wr.alloc (.cells #[.string it.1, .string it.2] 73)) (by repeat (first | exact Mod.refl _ _ | refine Mod.alloc ?_ _ | refine Mod.drew ?_ | refine Mod.drewN ?_ _)) hm5; obtain ⟨q0, q1, q2, q3⟩ := KEEP.out _ hm6; have M6 := Lib.hid hm6; clear hm5 hm6))))
          have HM6 : Hid (Mod NoB w2 w5) := Lib.hid (HM1.out.trans (((Mod.refl NoB Wr).alloc _).trans M6.out))
          cases hin : inA a (addr it.1) with
          | false =>
            go_wp2_with fail
            go_ret
            exact ⟨rfl, HM0.out.trans (M2.out.trans HM6.out)⟩
          | true =>
            have HOK2 := Lib.hid (HST.out ⟨g1, g2, g3, hin⟩)
            go_wp2_with fail
            refine ⟨⟨k1 + 1, hlt1, by go_num, HOK2.out, HM6.out⟩, by simp [intOf]; omega⟩
        · obtain rfl : k1 = its.length := by omega
          rw [List.take_length] at HOK1
          go_wp2_with fail
          refine ⟨⟨j + 1, hlt, by go_num, rfl, ?_, HM1.out⟩, by simp [intOf]; omega⟩
          rw [HFM.out]
          exact fun it hit => (List.mem_append.1 hit).elim (HOK.out it) (HOK1.out it)
    · obtain rfl : j = cs.length := by omega
      rw [List.take_length] at HOK ⊢
      have htot := tot_le2 (fun x hx => (HCS2.out.2 x hx).2.2) m0 cs.length
      rw [List.take_length] at htot
      obtain ⟨k0, k1⟩ := HK2.out _ HM.out
      by_cases hn60 : tot cs ≤ 60
      case neg =>
        have hn : 60 < ((tot cs : Nat) : Int) := by omega
        go_wp2_with fail
        go_ret
        exact ⟨rfl, HM0.out.trans (M2.out.trans HM.out)⟩
      have hn : ¬ 60 < ((tot cs : Nat) : Int) := by omega
      have N3 : Hid (NewI w1 wr h ⟨2, 200, 0, [], false, ⟨0, 0⟩, []⟩ [] B2) := Lib.hid (N2.out.quiet HM.out)
      go_wp2_with fail
      have HMEET := Lib.hid (arcsMeet_none N3.out.1 rfl a)
      refine (offered_any (cx := encLx (ltr 10 1 2 3 a 5 (.slice none 0 0) (tot cs : Nat))) N3.out.1 HMEET.out (me := 2) (fr := 1) (id := 3) (ep := 5) (n := (tot cs : Nat)) (by decide) ⟨by omega, by omega⟩ (by decide) (by decide) (by simp) true rfl rfl rfl rfl rfl rfl rfl rfl).mono ?_
      rintro e w4 ⟨N, hN, ht4, (⟨_, _, _, _, b, rfl, hb1, hbB, htv, hl, hh⟩ | ⟨hno, _⟩)⟩
      case inr => exact absurd ⟨rfl, rfl, by omega, by simp; omega⟩ hno
      have N4 : Hid (NewI w1 w4 h { (⟨2, 200, 0, [], false, ⟨0, 0⟩, []⟩ : HSt) with kept := 0 + ((tot cs : Nat) : Int) } [] B2) := Lib.hid (N3.out.turn hh ht4)
      have TK4 : Hid (TkI w1 w4 h b ⟨h, a, 5, (tot cs : Nat), 2, 1, 3, 1, 0, .slice none 0 0⟩ { (⟨2, 200, 0, [], false, ⟨0, 0⟩, []⟩ : HSt) with kept := 0 + ((tot cs : Nat) : Int) } [] [] B2) := Lib.hid ⟨N4.out, ⟨htv, Nat.le_trans N3.out.2.1.size hb1, hbB⟩, ⟨World.ownsRow_nil _ _ _ _, by simp [ownL, Value.ownBlock]⟩, by simp [ownL, Value.ownBlock], by simp [ownL, Value.ownBlock], rfl⟩
      clear hb1 hbB htv hl hh ht4 hN N4 k0 k1
      go_wp2_with fail
      go_loopw [105] (fun i wr => ∃ (j : Nat) (v : Value), j ≤ cs.length ∧ i = .int .i64 j ∧ TkI w1 wr h b ⟨h, a, 5, (tot cs : Nat), 2, 1, 3, 1, j, v⟩ { (⟨2, 200, 0, [], false, ⟨0, 0⟩, []⟩ : HSt) with kept := 0 + ((tot cs : Nat) : Int) } [] ((cs.take j).flatMap (·.2)) B2) (fun i _ => cs.length - (intOf i).toNat)
      case atStart => exact ⟨0, _, Nat.zero_le _, rfl, TK4.out⟩
      case round =>
        obtain ⟨j, v, hj, rfl, htk⟩ := hrel
        have TKj := Lib.hid htk
        obtain ⟨k0, k1⟩ := HKE.out _ htk.1.2.1
        have hch := HCE.out _ htk.1.2.1
        have HCH := Lib.hid hch
        clear htk
        by_cases hlt : j < cs.length
        · have he : cs[j]? = some cs[j] := List.getElem?_eq_getElem hlt
          have hx := hch.2 cs[j] (List.getElem_mem hlt)
          have hs := tot_succ he
          have htm := tot_mono cs (j + 1)
          have hfm := fm_succ he
          have hmem : ∀ it ∈ cs[j].2, inA a (addr it.1) = true := fun it hit => (HOK.out it (List.mem_flatMap.2 ⟨cs[j], List.getElem_mem hlt, hit⟩)).2.2.2
          have hown : cs[j].2 = [] ∨ ∀ g ∈ ownL cs[j].1, g < w.heap.size := by
            have hx0 := (HCS0.out.2 cs[j] (List.getElem_mem hlt)).1
            obtain ⟨a0, c0, e0, h0⟩ := hx0
            cases hl : cs[j].2 with
            | nil => exact .inl rfl
            | cons p r =>
              obtain ⟨bb, oo, ea, hc⟩ := h0 0 p (by rw [hl]; rfl)
              refine .inr (fun g hg => ?_)
              rw [e0, ea] at hg
              have := cell_lt' (hc 0 _ rfl)
              simp [ownL, Value.ownBlock] at hg
              rw [hg]; exact this
          obtain ⟨b', o', cap', hv, hb', r0⟩ := at1c hch.1 he
          simp only [Value.slice.injEq] at hv
          obtain ⟨rfl, _, rfl⟩ := hv
          have hw1 : IntKind.i64.wrap ((j : Int) + 1) = (j : Int) + 1 := IntWalk.i64_in _ ⟨by omega, by omega⟩
          have HX := Lib.hid hx; have HMEM := Lib.hid hmem; have HOWN := Lib.hid hown; have HS := Lib.hid hs; have HTM := Lib.hid htm; have HFM := Lib.hid hfm; have HW1 := Lib.hid hw1
          clear hx hmem hown hs htm hfm he hch hw1
          generalize cs[j] = cc at *
          obtain ⟨y, its⟩ := cc
          simp only at HX HMEM HOWN HS HFM r0
          obtain ⟨ax, xcap, rfl, _⟩ := id HX.out.1
          go_wp2_with fail
          refine (tk_chunk (cx := encLx (ltr 12 1 2 3 ⟨0, 0⟩ 0 (.slice ax its.length xcap) ((j : Int) + 1))) TKj.out rfl HX.out.1 HX.out.2.1 (HOWN.out.imp id (fun ho hb => by have h1 := ho b hb; have h2 := TKj.out.2.1.2.1; have h3 := HM0.out.size; have h4 := M1.out.size; omega)) (by have h1 := HS.out; have h2 := HTM.out; unfold tot at h1 h2; simp only [tot] at hn60; omega) (by rw [List.all_eq_true]; exact fun it hit => HMEM.out it hit) HW1.out rfl rfl rfl rfl rfl).mono ?_
          rintro e w5 ⟨N5, v5, rfl, hN5, hl5, htk5⟩
          have TK5 := Lib.hid htk5
          have y19 := cell_of hl5 19 (v := .int .i64 ((j : Int) + 1)) rfl
          have HL5 := Lib.hid hl5
          clear k0 k1 htk5 hl5 hN5
          go_wp2_with fail
          refine (hlenJ TK5.out.1.1).mono ?_
          rintro e w6 ⟨rfl, rfl⟩
          go_wp2_with fail
          obtain ⟨tr, n, hh6, _⟩ := TK5.out.1.1
          have HH6 := Lib.hid hh6
          clear hh6
          refine (harcs_none HH6.out rfl).mono ?_
          rintro e w7 ⟨rfl, hm7⟩
          have TK7 := Lib.hid (TK5.out.quiet hm7); have HH7 := Lib.hid (HH6.out.mod hm7 (fun _ _ x => x))
          clear hm7 y19 HH6
          go_wp2_with fail
          refine (do_else HH7.out 1 (by decide) (by decide) k ⟨#[]⟩ ⟨#[]⟩ 0 m1 m2 rfl (by simp)).mono ?_
          rintro e w8 ⟨he8, hm8⟩
          generalize wherN _ = nd at he8
          dsimp only [encTold] at he8
          subst he8
          have TK8 := Lib.hid (TK7.out.quiet hm8)
          clear hm8
          have hf0 := told_g0 (.int .i64 8) (.string ⟨#[]⟩) (.slice none 0 0) (.bool false) (.string ⟨#[]⟩) (.int .i64 nd) w8
          go_wp2_with fail
          refine ⟨⟨j + 1, v5, hlt, by go_num, ?_⟩, by simp [intOf]; omega⟩
          rw [HFM.out]
          exact TK8.out
        · obtain rfl : j = cs.length := by omega
          have eits : (cs.take cs.length).flatMap (·.2) = cs.flatMap (·.2) := by rw [List.take_length]
          rw [eits] at TKj
          clear hch
          go_wp2_with fail
          refine (tk_commit (cx := encLx (ltr 14 1 2 3 ⟨0, 0⟩ 0 (.slice none 0 0) 0)) TKj.out rfl (may_none (show (0 : Int) ≤ 5 by decide) rfl) (fun it hit => (HOK.out it hit).2.2.2) rfl (by have h := hn60; unfold tot at h; omega) (show (200 : Int) ≤ 1000000 by decide) ⟨by simp only; omega, by simp only; omega⟩ (by simp) (fun it hit => by have := HOK.out it hit; omega) (fun j it hj => fit_ok HOK.out (by have h := hn60; unfold tot at h; simp only; omega) j it hj) rfl rfl rfl).mono ?_
          rintro e w7 ⟨N7, B7, rfl, hN7, hl7, htv7, hbn7, hn7⟩
          have NX7 := Lib.hid hn7; have HTV7 := Lib.hid htv7
          have HL7 := Lib.hid hl7
          clear hl7 htv7 hbn7 hn7 hN7 k0 k1
          go_wp2_with fail
          refine (got_again (cx := encLx (ltr 14 1 2 3 ⟨0, 0⟩ 0 (.slice none 0 0) 0)) HTV7.out rfl rfl rfl rfl).mono ?_
          rintro e w8 ⟨N8, rfl, hN8, hl8, hm8⟩
          have NX8 := Lib.hid (NX7.out.quiet hm8)
          have y0 := cell_of ((hm8.block N7 (Array.getElem?_eq_some_iff.1 HL7.out).1 (fun x => x)).trans HL7.out) 0 (v := .int .i64 15) rfl
          have z0 := cell_of hl8 0 (v := .int .i64 15) rfl
          obtain ⟨k0, k1⟩ := HKE.out _ NX8.out.2.1
          clear hN8 hl8 hm8
          go_wp2_with fail
          obtain ⟨tr, n, hh8, _⟩ := NX8.out.1
          have HH8 := Lib.hid hh8
          clear hh8
          refine (hasH_any HH8.out a.f).mono ?_
          rintro e w9 ⟨rfl, hm9⟩
          have hat : ∀ kp : Int, (({ ownSt (⟨2, 200, 0 + ((tot cs : Nat) : Int), [], false, ⟨0, 0⟩, []⟩ : HSt) a 5 with kept := kp } : HSt).at a.f).isSome = true := fun kp => at_from (st := (⟨2, 200, 0 + ((tot cs : Nat) : Int), [], false, ⟨0, 0⟩, []⟩ : HSt)) HA.out
          rw [hat]
          have NX9 := Lib.hid (NX8.out.quiet hm9); have HH9 := Lib.hid (HH8.out.mod hm9 (fun _ _ x => x))
          clear hm9 hat k0 k1 y0 z0
          go_wp2_with fail
          refine (epoch_any HH9.out (by show (ownSt (⟨2, 200, 0 + ((tot cs : Nat) : Int), [], false, ⟨0, 0⟩, []⟩ : HSt) a 5).own.length ≤ _; have := own_len (st := (⟨2, 200, 0 + ((tot cs : Nat) : Int), [], false, ⟨0, 0⟩, []⟩ : HSt)) (a := a) (ep := 5); simp only [List.length_nil] at this; omega)).mono ?_
          rintro e w10 ⟨rfl, hm10⟩
          have hep : epochTo (ownSt (⟨2, 200, 0 + ((tot cs : Nat) : Int), [], false, ⟨0, 0⟩, []⟩ : HSt) a 5).own = 5 := by rw [epoch_own]; rfl
          rw [hep]
          have NX10 := Lib.hid (NX9.out.quiet hm10)
          clear hm10 hep
          go_wp2_with fail
          refine (hlenJ NX10.out.1).mono ?_
          rintro e w11 ⟨rfl, rfl⟩
          have hll : (putAll 200 [] (cs.flatMap (·.2))).length ≤ tot cs := by have := putAll_len 200 (cs.flatMap (·.2)) []; simpa [tot] using this
          have HLL : Hid (((putAll 200 [] (cs.flatMap (·.2))).length : Int) ≤ ((tot cs : Nat) : Int)) := Lib.hid (by omega)
          clear hll
          generalize (putAll 200 [] (cs.flatMap (·.2))).length = pl at *
          have hle := HLL.out
          go_wp2_with fail
          go_ret
          exact ⟨rfl, HM0.out.trans (M1.out.trans NX10.out.2.1)⟩
end Go.Proofs.YtpcmbnbdppembaaGreatDoor

namespace Go.Proofs.YtpcmbnbdppembaaGreatDoor
set_option linter.unusedSimpArgs false
set_option linter.unusedVariables false
open Go.ChangeShapes Go.WideShapes Go.ChangeAt Go.RowKit Go.Proofs

theorem chs_of_trod {H : Type} {enc : TypeId × Value → H} {P : Program} {w : World} {sp : Nat → Bool} {held : Bool} {t e i : TypeId} {y : Nat} (ht : P.underlying t = some (.slice e)) (he : P.underlying e = some (.slice i)) (hfi : fitB P (.sl itmShp) e = true) (hce : P.cellsOf e = 1) (hb : P.bytesOf i = y) (hy : 1 ≤ y)
    {fuel : Nat} {v : Value} {x : DataW H × List MemPlace} (h : DataW.trod enc P w 0 sp held fuel t [v] = some x) (hw : ∀ n ∈ x.1.weights P t, n ≤ reachBytes) : ∃ cs, ChsAt w v cs ∧ cs.length ≤ 9223372036854775807 := by
  rcases Go.Deep.open_slice1 ht hce h with ⟨hv, rfl⟩ | ⟨a, len, cap, m, n, V, D, Pl, hv, _, hl, hm, hmm, rfl, hi⟩
  · simp only [List.cons.injEq, and_true] at hv
    subst hv
    exact ⟨[], ⟨SlAt.nil _ _ _ _ _, fun x hx => absurd hx List.not_mem_nil⟩, by simp⟩
  simp only [List.cons.injEq, and_true] at hv
  subst hv
  have hlm : len ≤ m := by rw [hmm]; split <;> omega
  have hbig : reachBytes = 140737488351232 := rfl
  simp only [DataW.weights, ht] at hw
  have each : ∀ j, j < len → ∃ q : Value × List Itm, q.1 = V j ∧ SlAt 2 encIt w q.1 q.2 ∧ (q.1 = .slice none 0 0 ∨ ∃ a n c, q.1 = .slice (some a) n c) ∧ q.2.length ≤ 1000000000000000 := by
    intro j hj
    obtain ⟨hc, hd⟩ := hi j (by omega)
    have hrd := (rd_of_trod (.sl itmShp) hfi hd).2
    have hrv : RdV w (.sl itmShp) (V j) := hrd
    obtain ⟨its, hs, _⟩ := itsAt_of_rd hrv
    refine ⟨(V j, its), rfl, hs, ?_, ?_⟩
    · rcases rd_slice hrv with h | ⟨a, n, c, h, _⟩
      · exact .inl h
      · exact .inr ⟨a, n, c, h⟩
    · rcases Go.Deep.open_slice he hd with ⟨h1, _⟩ | ⟨a', len', cap', m', n', D', Pl', h1, _, hl', hm', hmm', h2, _⟩
      · obtain ⟨av, ac, e1, _⟩ := hs
        simp only [List.cons.injEq, and_true] at h1
        rw [h1] at e1
        simp only [Value.slice.injEq] at e1
        show its.length ≤ _
        omega
      · obtain ⟨av, ac, e1, _⟩ := hs
        simp only [List.cons.injEq, and_true] at h1
        rw [h1] at e1
        simp only [Value.slice.injEq] at e1
        have hdj : D j = (DataW.slice ((List.range len').map D') ((List.range (m' - len')).map fun j => D' (len' + j)) : DataW H) := congrArg Prod.fst h2
        have hmem : ((List.range len').length + (List.range (m' - len')).length) * P.bytesOf i ≤ reachBytes := by
          refine hw _ (List.mem_cons_of_mem _ (List.mem_append_left _ ?_))
          have hin : ∀ (l : List (DataW H)) (d : DataW H) (n : Nat), d ∈ l → n ∈ d.weights P e → n ∈ DataW.weightsAll P e l := by
            intro l
            induction l with
            | nil => intro d n hd; cases hd
            | cons z l ih =>
              intro d n hd hn
              simp only [DataW.weightsAll]
              rcases List.mem_cons.1 hd with rfl | hd
              · exact List.mem_append_left _ hn
              · exact List.mem_append_right _ (ih d n hd hn)
          refine hin _ (D j) _ (List.mem_map.2 ⟨j, List.mem_range.2 hj, rfl⟩) ?_
          rw [hdj]
          simp only [DataW.weights, he, List.length_map]
          exact List.mem_cons_self
        rw [hb] at hmem
        simp only [List.length_range] at hmem
        have h3 : len' ≤ (len' + (m' - len')) * y := Nat.le_trans (by omega) (Nat.le_mul_of_pos_right _ hy)
        show its.length ≤ _
        omega
  by_cases h0 : len = 0
  · subst h0
    exact ⟨[], ⟨SlAt.nil _ _ _ _ _, fun x hx => absurd hx List.not_mem_nil⟩, by simp⟩
  obtain ⟨b, o, rfl, hlt⟩ := slice_base (a := a) (len := len) (e := .sl itmShp) (by omega) (by decide) (fun j hj => by
    obtain ⟨hc, hd⟩ := hi j (by omega)
    refine ⟨[V j], rfl, fun k hk => ?_, (rd_of_trod (.sl itmShp) hfi hd).2⟩
    have : k = 0 := by simp [Shp.n] at hk; omega
    subst this
    simpa [Shp.n] using hc)
  obtain ⟨l, hlen, hc⟩ := exists_list (P := fun j (q : Value × List Itm) => w.cell? ⟨b, o + j, none⟩ = some q.1 ∧ SlAt 2 encIt w q.1 q.2 ∧ (q.1 = .slice none 0 0 ∨ ∃ a n c, q.1 = .slice (some a) n c) ∧ q.2.length ≤ 1000000000000000) len (fun j hj => by
    obtain ⟨q, e1, hq⟩ := each j hj
    refine ⟨q, ?_, hq⟩
    have := (hi j (by omega)).1
    rw [add_none] at this
    rw [e1]; exact this)
  refine ⟨l, ⟨⟨_, cap, by rw [hlen], fun j q hq => ⟨b, o, rfl, fun k u hu => ?_⟩⟩, fun q hq => ?_⟩, ?_⟩
  · have hjl := (List.getElem?_eq_some_iff.1 hq).1
    have h1 := (hc j hjl).1
    rw [(List.getElem?_eq_some_iff.1 hq).2] at h1
    have : k = 0 := by have := (List.getElem?_eq_some_iff.1 hu).1; simp at this; exact this
    subst this
    simp only [List.getElem?_cons_zero, Option.some.injEq] at hu
    subst hu
    simpa using h1
  · obtain ⟨j, hj, rfl⟩ := List.mem_iff_getElem.1 hq
    exact (hc j hj).2
  · rw [hlen]
    unfold maxLen at hm
    omega

set_option maxRecDepth 100000 in
theorem takeUnseen_lifted (os : Os) (started : os.Started) (H : Type) (enc : TypeId × Value → H) :
    ReturnsInHanded {} Tryz.checked os 7 .any (fun w args => (Rows.takeUnseenSpec.pre enc Tryz.prog Tryz.f7 Rows.takeUnseenRow.domain false w args ∧ laidMetH Tryz.prog Rows.takeUnseenRow.laid w) ∧ sizedMet enc Tryz.prog Tryz.f7 (OpenSpec.ofChange Rows.takeUnseenSpec) false w args)
      (Rows.takeUnseenSpec.post enc Tryz.prog Tryz.f7 false true false false) := by
  refine returnsInHanded_of_change_and (C := Tryz.checked) (X := fun w _ => laidMetH Tryz.prog Rows.takeUnseenRow.laid w) (fun _ _ _ hh h => h.of_heap hh) progOwn started (by kernel_rfl) Tryz.func7
    (ChangeSpec.witness_shaped (enc := enc) (C := Tryz.checked) (os := os) (X := fun w _ => laidMetH Tryz.prog Rows.takeUnseenRow.laid w) false (World.laidAll Tryz.prog os Rows.takeUnseenRow.laid) #[.slice none 0 0, .agg #[.int .u64 0, .int .u64 0], .string ⟨#[]⟩] 8 (World.laidAll_os _ _ _)
      (World.shaped_of_ZipB (by kernel_rfl) (by kernel_rfl)) (by kernel_rfl) (by kernel_rfl) (by kernel_rfl)
      (by rw [MakeChecks.laidMetH_plain _ _ _ (by kernel_rfl)]; exact laidMet_laidAll _ (by kernel_rfl) (by kernel_rfl))) ?_
  intro W base args ds gs before hval hW _ hwt _ _
  refine law_post (P := Tryz.prog) (B := 4) (fun ds h => ?_) rfl rfl (by kernel_rfl) (by kernel_rfl) progLaid hW ?_
  · match ds, h with
    | [_, _, _], _ => rfl
  · obtain ⟨p, q, hA, _⟩ := hW
    have hR := rdAll_of_trod (P := Tryz.prog) [.sl (.sl itmShp), arcShp, .s] (by kernel_rfl) rfl (fun j t v h1 h2 => hval j t v (by simpa using h1) (by simpa using h2)) hA
    obtain ⟨l⟩ := args
    obtain ⟨v0, vs, rfl, h0, hR⟩ := hR
    obtain ⟨v1, vs, rfl, h1, hR⟩ := hR
    obtain ⟨v2, vs, rfl, h2, hR⟩ := hR
    obtain rfl := hR
    obtain ⟨a, rfl, ha⟩ := rd_arc h1
    obtain ⟨k, rfl, hk⟩ := rd_str h2
    obtain ⟨cs, hcs, hcl⟩ : ∃ cs, ChsAt W v0 cs ∧ cs.length ≤ 9223372036854775807 := by
      match ds, hA, hwt with
      | d :: ds, ⟨p1, q1, ⟨fuel, g1⟩, g2, _⟩, hwt =>
        have hv0 : v0.cells.toList = [v0] := by
          rcases rd_slice h0 with rfl | ⟨_, _, _, rfl, _⟩ <;> rfl
        rw [hv0] at g1
        refine chs_of_trod (e := 22) (i := 73) (y := 32) (by kernel_rfl) (by kernel_rfl) (by kernel_rfl) (by kernel_rfl) (by kernel_rfl) (by decide) g1 (fun n hn => ?_)
        have hall := List.all_eq_true.1 hwt n (List.mem_append_left _ hn)
        simpa using hall
    exact (unseen_walk hcs hcl ha).mono fun _ _ ⟨he, hm⟩ => ⟨he, hm.below_self⟩

theorem takeUnseen_over : Rows.takeUnseenRow.holds Tryz.pinned (OpenSpec.ofChange Rows.takeUnseenSpec) :=
  OpenClaim.holds_of_wide 7 Tryz.f7 rfl rfl rfl rfl rfl rfl rfl ⟨rfl, rfl, rfl, rfl, rfl⟩ rfl rfl rfl rfl rfl (by kernel_rfl) Tryz.func7 (by kernel_rfl)
    (of_decide_eq_true (by kernel_rfl)) (by unfold Func.isWrapper; first | (rw [if_pos (by decide +kernel)]; kernel_rfl) | (rw [if_neg (by decide +kernel)]; exact ⟨rfl, rfl⟩))
    (fun os started H enc _ => takeUnseen_lifted os started H enc)

theorem takeUnseen_proved : Rows.TakeUnseenSaid := takeUnseen_over

theorem takeUnseen_card : Rows.TakeUnseenCardSaid :=
  Claim7.holds_tied_plain_at .later [] [.data, .pinned] true (true, "55bc1f42cbf7f82f0173af94658014485367f3bbd8fc65ed5667143bf4673f97") false
    takeUnseen_over (fun _ h => by cases h) (by kernel_rfl) (fun _ h => by cases h) takeUnseen_row_tie rfl ⟨rfl, rfl⟩ (by kernel_rfl) rfl
    (fun f fn hf hfn => by
      obtain rfl : f = 7 := Option.some.inj ((show Tryz.prog.funcNamed "rosary/rosarylaw16.TakeUnseen" = some 7 by kernel_rfl).symm.trans hf) |>.symm
      obtain rfl : fn = Tryz.f7 := (Option.some.inj (Tryz.func7.symm.trans hfn)).symm
      exact ⟨by kernel_rfl, fun j t ht => by
        have hall : (Tryz.f7.params.toList.all fun t => Tryz.prog.wantsStandIn t == false) = true := by kernel_rfl
        have hm := Array.mem_of_getElem? ht
        exact beq_iff_eq.1 (List.all_eq_true.1 hall t (by simpa using hm))⟩)
    (by kernel_rfl)
end Go.Proofs.YtpcmbnbdppembaaGreatDoor
