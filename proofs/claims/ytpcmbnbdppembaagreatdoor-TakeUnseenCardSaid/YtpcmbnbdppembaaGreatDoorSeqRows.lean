/- Rows of structs that are read through a slice (SlAt); events, items, texts as they lie in memory. -/
import Derived.Test.YtpcmbnbdppembaaGreatDoorHeap
namespace Go.Proofs.YtpcmbnbdppembaaGreatDoor
set_option linter.unusedSimpArgs false
set_option linter.unusedVariables false
open Go.RowKit

/-- v is a slice whose elements read as xs, each of k cells -/
def SlAt {α : Type} (k : Nat) (enc : α → List Value) (w : World) (v : Value) (xs : List α) : Prop :=
  ∃ a cap, v = .slice a xs.length cap ∧ ∀ i x, xs[i]? = some x → ∃ b o, a = some ⟨b, o, none⟩ ∧ ∀ j u, (enc x)[j]? = some u → w.cell? ⟨b, o + i * k + j, none⟩ = some u

theorem SlAt.kept {α : Type} {k : Nat} {enc : α → List Value} {w w' : World} {v : Value} {xs : List α} (h : SlAt k enc w v xs)
    (hc : ∀ p u, w.cell? p = some u → w'.cell? p = some u) : SlAt k enc w' v xs := by
  obtain ⟨a, cap, hv, hx⟩ := h
  refine ⟨a, cap, hv, fun i x hi => ?_⟩
  obtain ⟨b, o, ha, hj⟩ := hx i x hi
  exact ⟨b, o, ha, fun j u hu => hc _ _ (hj j u hu)⟩

theorem cell_lt' {w : World} {a : Addr} {v : Value} (h : w.cell? a = some v) : a.block < w.heap.size := by
  unfold World.cell? at h
  split at h
  · rename_i c e f hb
    exact (Array.getElem?_eq_some_iff.1 hb).1
  · cases h

theorem Mod.cellS {w w' : World} (h : Mod NoB w w') {p : Addr} {u : Value} (hc : w.cell? p = some u) : w'.cell? p = some u := by
  rw [h.cell (cell_lt' hc) (fun x => x)]; exact hc

/-- a map's block holds no cells: what is turned in it turns no cell -/
theorem Mod.cellM {w w' : World} {b : Nat} {m : SMap} (h : Mod (· = b) w w') (hm : MapAt w b m) {p : Addr} {u : Value} (hc : w.cell? p = some u) : w'.cell? p = some u := by
  rw [h.cell (cell_lt' hc) (fun x => ?_)]
  · exact hc
  · obtain ⟨es, c, hb, _⟩ := hm
    unfold World.cell? at hc
    rw [x, hb] at hc
    cases hc

theorem SlAt.mod {α : Type} {k : Nat} {enc : α → List Value} {w w' : World} {v : Value} {xs : List α} (h : SlAt k enc w v xs) (hm : Mod NoB w w') : SlAt k enc w' v xs :=
  h.kept fun _ _ hc => hm.cellS hc

theorem SlAt.nil {α : Type} (k : Nat) (enc : α → List Value) (w : World) (a : Option Addr) (cap : Nat) : SlAt k enc w (.slice a 0 cap) [] :=
  ⟨a, cap, rfl, fun i x h => by simp at h⟩

/-- items -/
abbrev encIt (x : ByteArray × ByteArray) : List Value := [.string x.1, .string x.2]
abbrev ItemsAt : World → Value → SMap → Prop := SlAt 2 encIt
/-- texts -/
abbrev encTx (x : ByteArray) : List Value := [.string x]
abbrev TextsAt : World → Value → List ByteArray → Prop := SlAt 1 encTx

/-- an event as it lies in memory: fifteen cells -/
structure Ev where
  step : Int
  node : Int
  guest : Int
  id : Int
  op : Int
  key : ByteArray
  value : ByteArray
  to : ByteArray
  most : Int
  errno : Int
  tvalue : ByteArray
  ia : Option Addr
  il : Nat
  ic : Nat
  more : Bool
  next : ByteArray
  tnode : Int

abbrev Ev.cells (e : Ev) : List Value :=
  [.int .i64 e.step, .int .i64 e.node, .int .i64 e.guest, .int .i64 e.id, .int .i64 e.op, .string e.key, .string e.value, .string e.to, .int .i64 e.most,
   .int .i64 e.errno, .string e.tvalue, .slice e.ia e.il e.ic, .bool e.more, .string e.next, .int .i64 e.tnode]
abbrev EvsAt : World → Value → List Ev → Prop := SlAt 15 Ev.cells

/-- one element's cells, each by its address -/
theorem SlAt.at15 {w : World} {v : Value} {l : List Ev} (h : EvsAt w v l) {i : Nat} {e : Ev} (hi : l[i]? = some e) :
    ∃ b o cap, v = .slice (some ⟨b, o, none⟩) l.length cap ∧ b < w.heap.size ∧
      w.cell? ⟨b, o + i * 15, none⟩ = some (.int .i64 e.step) ∧ w.cell? ⟨b, o + i * 15 + 1, none⟩ = some (.int .i64 e.node) ∧ w.cell? ⟨b, o + i * 15 + 2, none⟩ = some (.int .i64 e.guest) ∧
      w.cell? ⟨b, o + i * 15 + 3, none⟩ = some (.int .i64 e.id) ∧ w.cell? ⟨b, o + i * 15 + 4, none⟩ = some (.int .i64 e.op) ∧ w.cell? ⟨b, o + i * 15 + 5, none⟩ = some (.string e.key) ∧
      w.cell? ⟨b, o + i * 15 + 6, none⟩ = some (.string e.value) ∧ w.cell? ⟨b, o + i * 15 + 7, none⟩ = some (.string e.to) ∧ w.cell? ⟨b, o + i * 15 + 8, none⟩ = some (.int .i64 e.most) ∧
      w.cell? ⟨b, o + i * 15 + 9, none⟩ = some (.int .i64 e.errno) ∧ w.cell? ⟨b, o + i * 15 + 10, none⟩ = some (.string e.tvalue) ∧ w.cell? ⟨b, o + i * 15 + 11, none⟩ = some (.slice e.ia e.il e.ic) ∧
      w.cell? ⟨b, o + i * 15 + 12, none⟩ = some (.bool e.more) ∧ w.cell? ⟨b, o + i * 15 + 13, none⟩ = some (.string e.next) ∧ w.cell? ⟨b, o + i * 15 + 14, none⟩ = some (.int .i64 e.tnode) := by
  obtain ⟨a, cap, hv, hx⟩ := h
  obtain ⟨b, o, rfl, hj⟩ := hx i e hi
  have h0 := hj 0 _ rfl
  exact ⟨b, o, cap, hv, cell_lt' h0, h0, hj 1 _ rfl, hj 2 _ rfl, hj 3 _ rfl, hj 4 _ rfl, hj 5 _ rfl, hj 6 _ rfl, hj 7 _ rfl, hj 8 _ rfl, hj 9 _ rfl, hj 10 _ rfl, hj 11 _ rfl, hj 12 _ rfl, hj 13 _ rfl, hj 14 _ rfl⟩

/-- what a key has behind an event -/
def evStep (m : SMap) (e : Ev) : SMap := if e.errno = 0 then (if e.op = 2 then m.put e.key e.value else if e.op = 3 then m.del e.key else m) else m
end Go.Proofs.YtpcmbnbdppembaaGreatDoor
