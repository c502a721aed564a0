/- Package truth: the items of a map come sorted by their keys. -/
import Derived.Test.YtcpbcggfbopobaaTruthC
import Derived.Test.YtcpbcggfbopobaaSortLay
namespace Go.Proofs.Ytcpbcggfbopobaa
open Go.RowKit Go.Proofs Go.Sort Go.Shelf

theorem itAgg : ∀ w, (isAgg (Try.sortIt_ren.t 24)).run Try.prog w = .ok true w := fun w => by kernel_rfl
theorem itSize : ∀ w, (Go.sizeOf (Try.sortIt_ren.t 24)).run Try.prog w = .ok 2 w := fun w => by kernel_rfl
theorem itEnters : ∀ args w, (callFunc 26 args).run Try.prog w = .ok (.enter 26 args) w := enters_of Try.func26 (by kernel_rfl) rfl

theorem sort_some (acc : SMap) (base : Nat) (e : TypeId) (g cap : Nat) (w : World) (h : w.ownsRow base e 2 (.slice (some ⟨g, 0, none⟩) acc.length cap) acc.length (flatIt acc)) (hg : g < w.heap.size) (hl : acc.length < 4611686018427387904) :
    Calls Try.prog 25 #[.slice (some ⟨g, 0, none⟩) acc.length cap, .func (.func 26) #[] #[]] w fun x w' =>
      x = .returned (.tuple #[]) ∧ ∃ acc' : SMap, acc'.Perm acc ∧ SortedS acc' ∧ ItemsAt w' (.slice (some ⟨g, 0, none⟩) acc.length cap) acc' ∧ Mod (· = g) w w' := by
  have hH := holdsK_of_owns h
  have hcon := AnyQ.slices_SortFunc Try.sortIt 2 itAgg itSize encIt (fun _ => rfl) (fun x v hv => by simp at hv; rcases hv with rfl | rfl <;> rfl) (fun x y => cmpS x.1 y.1) swoS 26 #[] g 0 cap acc.toArray w itEnters (cmpLays_any g 0 _ w) hH hg (by simpa using hl)
  change Calls Try.prog 25 _ _ _ at hcon
  have hs : acc.toArray.size = acc.length := by simp
  rw [hs] at hcon
  refine hcon.mono fun x w' ⟨hx, d', n, os, hp, hso, hw⟩ => ⟨hx, d'.toList, ?_, ?_, ?_, ?_⟩
  · obtain ⟨hsz, _, hpp⟩ := hp
    have e1 : d'.extract 0 acc.length = d' := by
      apply Array.extract_eq_self_of_le
      rw [hsz]; simp
    have e2 : acc.toArray.extract 0 acc.length = acc.toArray := by
      apply Array.extract_eq_self_of_le
      simp
    rw [e1, e2] at hpp
    exact hpp
  · have hsz : d'.size = acc.length := by rw [hp.1]; simp
    rw [← hsz] at hso
    exact sortedS_of hso
  · have hsz : d'.size = acc.length := by rw [hp.1]; simp
    rw [← hsz]
    apply itemsAt_of_holds
    rw [hw]
    unfold sortWorldK
    exact holdsK_grow encIt 2 _ _ _ _ _ (by simpa [putRowK] using hg) (holdsK_putRowK encIt 2 _ _ _ acc.toArray _ (holdsK_ahead encIt 2 _ _ _ _ _ hH) (by rw [hsz]; simp))
  · rw [hw]; exact sortWorldK_mod
end Go.Proofs.Ytcpbcggfbopobaa
