/- key.First: the first text at a point. -/
import Derived.Test.YtmagddchjidamaaGreatDoorKey
import Derived.Test.YtmagddchjidamaaGreatDoorLayTrim
import Derived.Test.YtmagddchjidamaaGreatDoorHoldRows
import Derived.Test.YtmagddchjidamaaGreatDoorHoldMem
import Derived.Shelf.Strings.Trim
import Derived.Deep.LoopGhost
import Derived.ProofKit
namespace Go.Proofs.YtmagddchjidamaaGreatDoor
set_option linter.unusedSimpArgs false
set_option linter.unusedVariables false
open Go.RowKit Go.Shelf

theorem trimR_any (s : ByteArray) (w : World) (hs : s.size ≤ 1000) : Calls Tryz.prog 93 #[.string s, .string ⟨#[0]⟩] w fun e w' => e = .returned (.string ⟨(Lib.trimRightB s.data.toList 0).toArray⟩) ∧ w' = w :=
  Any.strings_TrimRight_one Tryz.trimR s 0 (by decide) w (by omega)

abbrev row8 (f : Nat → Int) : Array Value := #[.int .u8 (f 0), .int .u8 (f 1), .int .u8 (f 2), .int .u8 (f 3), .int .u8 (f 4), .int .u8 (f 5), .int .u8 (f 6), .int .u8 (f 7)]

def octet (a : Int) (k : Nat) : Int := (a / (2 : Int) ^ (8 * (7 - k))) % 256

theorem make8 (w : World) : (Instr.makeSlice 59 (.int .i64 8) (.int .i64 8)).run Tryz.prog w = .ok (.slice (some ⟨w.heap.size, 0, none⟩) 8 8) (w.alloc (.cells (row8 (fun _ => 0)) 5)) := by
  kernel_rfl

def octs (f : Nat → Int) : ByteArray := ⟨#[UInt8.ofNat (f 0).toNat, UInt8.ofNat (f 1).toNat, UInt8.ofNat (f 2).toNat, UInt8.ofNat (f 3).toNat, UInt8.ofNat (f 4).toNat, UInt8.ofNat (f 5).toNat, UInt8.ofNat (f 6).toNat, UInt8.ofNat (f 7).toNat]⟩
theorem conv8 {W : World} {G : Nat} {f : Nat → Int} (hr : W.heap[G]? = some (.cells (row8 f) 5 (0, 0))) (hf : ∀ k, 0 ≤ f k ∧ f k < 256) : (convert 59 9 (.slice (some ⟨G, 0, none⟩) 8 8)).run Tryz.prog W = .ok (.string (octs f)) W := by
  rw [run_convert_bytes_string (e := 5) _ _ _ _ _ _ (by kernel_rfl) (by kernel_rfl) (by kernel_rfl)]
  have c0 := cell_of hr 0 rfl; have c1 := cell_of hr 1 rfl; have c2 := cell_of hr 2 rfl; have c3 := cell_of hr 3 rfl
  have c4 := cell_of hr 4 rfl; have c5 := cell_of hr 5 rfl; have c6 := cell_of hr 6 rfl; have c7 := cell_of hr 7 rfl
  refine (run_bytesToString _ _ 8 8 [f 0, f 1, f 2, f 3, f 4, f 5, f 6, f 7] ?_).trans ?_
  · simp [go_sem, loadCells, loadCellsFrom, c0, c1, c2, c3, c4, c5, c6, c7]
  · simp [octs]
    rfl

/-- the first text at a point: its eight bytes without the zeros at the end -/
def firstB (a : Int) : ByteArray := ⟨(Lib.trimRightB (octs (fun k => if k < 8 then octet a k else 0)).data.toList 0).toArray⟩

set_option maxRecDepth 100000 in
set_option maxHeartbeats 8000000 in
theorem first_any (a : Int) (ha : Pt64 a) (w : World) : Calls Tryz.prog 71 #[.int .u64 a] w fun e w' => e = .returned (.string (firstB a)) ∧ Mod NoB w w' := by
  go_enter Tryz.func71, Tryz.ntmps71
  have hmk := make8
  go_wp2_with fail
  obtain ⟨G, hG⟩ : ∃ G, G = w.heap.size := ⟨_, rfl⟩
  have hrow0 : (w.alloc (.cells (row8 (fun _ => 0)) 5)).heap[G]? = some (.cells (row8 (fun k => if k < 0 then octet a k else 0)) 5 (0, 0)) := by rw [hG]; exact heap_alloc_new w _
  have HR0 := Lib.hid hrow0
  rw [← hG]
  have HGL := Lib.hid hG
  clear hrow0 hG
  go_loopw [8] (fun i wr => ∃ j : Nat, j ≤ 8 ∧ i = .int .i64 j ∧ wr.heap[G]? = some (.cells (row8 (fun k => if k < j then octet a k else 0)) 5 (0, 0)) ∧ Mod NoB w wr) (fun i _ => 8 - (intOf i).toNat)
  case atStart => exact ⟨0, by decide, rfl, HR0.out, (Mod.refl _ _).alloc _⟩
  case round =>
    obtain ⟨j, hj, rfl, hr, hm⟩ := hrel
    have HR := Lib.hid hr; have HM := Lib.hid hm
    have hcs : ∀ i : Nat, i < 8 → (wr.cell? ⟨G, i, none⟩).isSome = true ∧ wr.frozen? ⟨G, i, none⟩ = false := fun i hi => by
      refine ⟨?_, frozen_of hr i⟩
      match i, hi with
      | 0, _ => rw [cell_of hr 0 rfl]; rfl
      | 1, _ => rw [cell_of hr 1 rfl]; rfl
      | 2, _ => rw [cell_of hr 2 rfl]; rfl
      | 3, _ => rw [cell_of hr 3 rfl]; rfl
      | 4, _ => rw [cell_of hr 4 rfl]; rfl
      | 5, _ => rw [cell_of hr 5 rfl]; rfl
      | 6, _ => rw [cell_of hr 6 rfl]; rfl
      | 7, _ => rw [cell_of hr 7 rfl]; rfl
    by_cases h8 : j = 8
    · subst h8
      have hcv := conv8 (f := fun k => if k < 8 then octet a k else 0) hr (fun k => by split <;> (try unfold octet) <;> omega)
      have HCV := Lib.hid hcv
      clear hr hm hcs
      go_wp2_with fail
      refine (trimR_any (octs (fun k => if k < 8 then octet a k else 0)) _ (show (8 : Nat) ≤ 1000 by decide)).mono ?_
      rintro e w2 ⟨rfl, rfl⟩
      go_wp2_with fail
      go_ret
      exact ⟨rfl, HM.out⟩
    · have hj8 : j = 0 ∨ j = 1 ∨ j = 2 ∨ j = 3 ∨ j = 4 ∨ j = 5 ∨ j = 6 ∨ j = 7 := by omega
      rcases hj8 with rfl | rfl | rfl | rfl | rfl | rfl | rfl | rfl
      · have c0 := cell_of hr 0 (v := .int .u8 0) rfl
        have f0 := frozen_of hr 0
        clear hr hcs hm
        go_wp2_with fail
        refine ⟨⟨1, by decide, rfl, ?_, Mod.setCell HM.out (fun h => absurd h (by rw [HGL.out]; exact Nat.lt_irrefl _)) _⟩, by simp [intOf]⟩
        have := heap_set HR.out 0 (.int .u8 (octet a 0))
        simpa [row8, octet] using this
      · have c0 := cell_of hr 1 (v := .int .u8 0) rfl
        have f0 := frozen_of hr 1
        clear hr hcs hm
        go_wp2_with fail
        refine ⟨⟨2, by decide, rfl, ?_, Mod.setCell HM.out (fun h => absurd h (by rw [HGL.out]; exact Nat.lt_irrefl _)) _⟩, by simp [intOf]⟩
        have := heap_set HR.out 1 (.int .u8 (octet a 1))
        simpa [row8, octet] using this
      · have c0 := cell_of hr 2 (v := .int .u8 0) rfl
        have f0 := frozen_of hr 2
        clear hr hcs hm
        go_wp2_with fail
        refine ⟨⟨3, by decide, rfl, ?_, Mod.setCell HM.out (fun h => absurd h (by rw [HGL.out]; exact Nat.lt_irrefl _)) _⟩, by simp [intOf]⟩
        have := heap_set HR.out 2 (.int .u8 (octet a 2))
        simpa [row8, octet] using this
      · have c0 := cell_of hr 3 (v := .int .u8 0) rfl
        have f0 := frozen_of hr 3
        clear hr hcs hm
        go_wp2_with fail
        refine ⟨⟨4, by decide, rfl, ?_, Mod.setCell HM.out (fun h => absurd h (by rw [HGL.out]; exact Nat.lt_irrefl _)) _⟩, by simp [intOf]⟩
        have := heap_set HR.out 3 (.int .u8 (octet a 3))
        simpa [row8, octet] using this
      · have c0 := cell_of hr 4 (v := .int .u8 0) rfl
        have f0 := frozen_of hr 4
        clear hr hcs hm
        go_wp2_with fail
        refine ⟨⟨5, by decide, rfl, ?_, Mod.setCell HM.out (fun h => absurd h (by rw [HGL.out]; exact Nat.lt_irrefl _)) _⟩, by simp [intOf]⟩
        have := heap_set HR.out 4 (.int .u8 (octet a 4))
        simpa [row8, octet] using this
      · have c0 := cell_of hr 5 (v := .int .u8 0) rfl
        have f0 := frozen_of hr 5
        clear hr hcs hm
        go_wp2_with fail
        refine ⟨⟨6, by decide, rfl, ?_, Mod.setCell HM.out (fun h => absurd h (by rw [HGL.out]; exact Nat.lt_irrefl _)) _⟩, by simp [intOf]⟩
        have := heap_set HR.out 5 (.int .u8 (octet a 5))
        simpa [row8, octet] using this
      · have c0 := cell_of hr 6 (v := .int .u8 0) rfl
        have f0 := frozen_of hr 6
        clear hr hcs hm
        go_wp2_with fail
        refine ⟨⟨7, by decide, rfl, ?_, Mod.setCell HM.out (fun h => absurd h (by rw [HGL.out]; exact Nat.lt_irrefl _)) _⟩, by simp [intOf]⟩
        have := heap_set HR.out 6 (.int .u8 (octet a 6))
        simpa [row8, octet] using this
      · have c0 := cell_of hr 7 (v := .int .u8 0) rfl
        have f0 := frozen_of hr 7
        clear hr hcs hm
        go_wp2_with fail
        refine ⟨⟨8, by decide, rfl, ?_, Mod.setCell HM.out (fun h => absurd h (by rw [HGL.out]; exact Nat.lt_irrefl _)) _⟩, by simp [intOf]⟩
        have := heap_set HR.out 7 (.int .u8 (octet a 7))
        simpa [row8, octet] using this
end Go.Proofs.YtmagddchjidamaaGreatDoor
