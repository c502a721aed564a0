/- rosarylaw24: the first call whose answer the document fixes: true. -/
import Derived.Test.YtcpbcggfbopobaaTruthK
import Derived.Test.YtcpbcggfbopobaaTruthI
import Derived.Test.YtcpbcggfbopobaaSame
import Derived.Test.YtcpbcggfbopobaaLight
namespace Go.Proofs.Ytcpbcggfbopobaa
open Go.RowKit Go.Proofs

def baA : ByteArray := ⟨#[97]⟩
def ba1 : ByteArray := ⟨#[49]⟩
def ba2 : ByteArray := ⟨#[50]⟩
def baE : ByteArray := ⟨#[]⟩
def aliveL : List Ev := [
  ⟨1, 0, 0, 0, 2, ⟨#[97]⟩, ⟨#[49]⟩, ⟨#[]⟩, 0, 0, ⟨#[]⟩, none, 0, 0, false, ⟨#[]⟩, 0⟩,
  ⟨2, 0, 0, 0, 1, ⟨#[97]⟩, ⟨#[]⟩, ⟨#[]⟩, 0, 0, ⟨#[49]⟩, none, 0, 0, false, ⟨#[]⟩, 0⟩,
  ⟨3, 0, 0, 0, 2, ⟨#[97]⟩, ⟨#[50]⟩, ⟨#[]⟩, 0, 0, ⟨#[]⟩, none, 0, 0, false, ⟨#[]⟩, 0⟩]

theorem alive_sound : soundN [] aliveL = 3 := by decide +kernel
theorem alive_fold : foldM aliveL = [(⟨#[97]⟩, ⟨#[50]⟩)] := by decide +kernel
theorem alive_at : foldM (upTo 1 aliveL) = [(⟨#[97]⟩, ⟨#[49]⟩)] := by decide +kernel
theorem alive_held : heldL ⟨#[97]⟩ 1 9 aliveL = [⟨#[49]⟩, ⟨#[50]⟩] := by decide +kernel

theorem slAt_lit {α : Type} {k : Nat} {enc : α → List Value} {w : World} {b cap : Nat} {cs : Array Value} {T : TypeId} {z : Nat × Nat} (xs : List α) (hk : ∀ x, (enc x).length = k) (h : w.heap[b]? = some (.cells cs T z)) (hc : cs.toList = xs.flatMap enc) :
    SlAt k enc w (.slice (some ⟨b, 0, none⟩) xs.length cap) xs := by
  refine ⟨_, cap, rfl, fun i x hi => ⟨b, 0, rfl, fun j u hu => ?_⟩⟩
  have : ∀ (xs : List α) (i : Nat) (x : α), xs[i]? = some x → ∀ j u, (enc x)[j]? = some u → (xs.flatMap enc)[i * k + j]? = some u := by
    intro xs
    induction xs with
    | nil => intro i x h; simp at h
    | cons y ys ih =>
      intro i x hx j u hj
      rw [List.flatMap_cons]
      cases i with
      | zero =>
        simp at hx; subst hx
        rw [Nat.zero_mul, Nat.zero_add, List.getElem?_append_left (List.getElem?_eq_some_iff.1 hj).1]
        exact hj
      | succ i =>
        rw [List.getElem?_append_right (by rw [hk, Nat.add_mul]; omega), hk]
        have e : (i + 1) * k + j - k = i * k + j := by rw [Nat.add_mul]; omega
        rw [e]
        exact ih i x (by simpa using hx) j u hj
  have h2 := this xs i x hi j u hu
  rw [← hc] at h2
  simp only [World.cell?, h]
  simpa using h2

theorem alive_no4 : ∀ e ∈ aliveL, ¬ e.op = 4 := by decide +kernel

set_option maxRecDepth 100000 in
set_option maxHeartbeats 2000000 in
theorem truthAlive (w : World) : Calls Try.prog 14 #[] w fun e w' => e = .returned (.bool true) ∧ Mod NoB w w' := by
  go_enter Try.func14, Try.ntmps14
  go_wp2_with fail
  have hE : Hid (EvsAt (w.alloc (.cells (aliveL.flatMap Ev.cells).toArray 44)) (.slice (some ⟨w.heap.size, 0, none⟩) 3 3) aliveL) :=
    slAt_lit (cap := 3) aliveL (fun _ => rfl) (MapKept.heap_alloc w _).1 rfl
  refine (sounds_any aliveL _ _ hE.out (by decide) alive_no4).mono ?_
  rw [alive_sound]
  rintro e w1 ⟨rfl, hm1⟩
  have M1 : Hid (Mod NoB w w1) := ((Mod.refl _ _).alloc _).trans hm1
  have E1 := Lib.hid (SlAt.mod hE.out hm1)
  clear hE hm1
  go_wp2_with fail
  refine (fold_any aliveL _ _ E1.out (by decide)).mono ?_
  rw [alive_fold]
  rintro e w2 ⟨r, xs, rfl, hp, _, hi, hm⟩
  obtain rfl : xs = [(⟨#[97]⟩, ⟨#[50]⟩)] := List.perm_singleton.1 hp
  have M2 := Lib.hid (M1.out.trans hm)
  have E2 := Lib.hid (SlAt.mod E1.out hm)
  have I2 := Lib.hid hi
  clear E1 M1 hp hi hm
  go_wp2_with fail
  refine (held_any ⟨#[97]⟩ 1 9 aliveL _ _ E2.out (by decide)).mono ?_
  rw [alive_held]
  rintro e w3 ⟨rh, rfl, hi, hm⟩
  have M3 := Lib.hid (M2.out.trans hm)
  have E3 := Lib.hid (SlAt.mod E2.out hm)
  have I3 := Lib.hid (SlAt.mod I2.out hm)
  have T3 := Lib.hid hi
  clear E2 M2 I2 hi hm
  obtain ⟨b, o, cap, rfl, c0, c1⟩ := I3.out.at2 (i := 0) rfl
  simp only [Nat.zero_mul, Nat.add_zero] at c0 c1
  clear I3
  go_wp2_with fail
  have T4 : Hid (TextsAt (w3.alloc (.cells #[.string ⟨#[49]⟩, .string ⟨#[50]⟩] 9)) rh [⟨#[49]⟩, ⟨#[50]⟩]) := SlAt.mod T3.out ((Mod.refl _ _).alloc _)
  have L4 : Hid (TextsAt (w3.alloc (.cells #[.string ⟨#[49]⟩, .string ⟨#[50]⟩] 9)) (.slice (some ⟨w3.heap.size, 0, none⟩) 2 2) [⟨#[49]⟩, ⟨#[50]⟩]) :=
    slAt_lit (k := 1) (enc := encTx) (cap := 2) ([⟨#[49]⟩, ⟨#[50]⟩] : List ByteArray) (fun _ => rfl) (MapKept.heap_alloc w3 _).1 rfl
  refine (sameTexts_eq _ _ _ _ T4.out L4.out (by decide)).mono ?_
  rintro e w4 ⟨rfl, hm⟩
  have M4 : Hid (Mod NoB w w4) := (M3.out.alloc _).trans hm
  have E4 := Lib.hid (SlAt.mod (SlAt.mod E3.out ((Mod.refl _ _).alloc _)) hm)
  clear T4 L4 M3 E3 T3 hm c0 c1
  go_wp2_with fail
  refine (at_any 1 aliveL _ _ E4.out (by decide)).mono ?_
  rw [alive_at]
  rintro e w5 ⟨r5, xs, rfl, hp, _, hi, hm⟩
  obtain rfl : xs = [(⟨#[97]⟩, ⟨#[49]⟩)] := List.perm_singleton.1 hp
  obtain ⟨a5, cap5, rfl, _⟩ := hi
  have M5 := Lib.hid (M4.out.trans hm)
  clear hp hm M4 E4
  go_wp2_with fail
  go_ret
  exact ⟨rfl, M5.out⟩
end Go.Proofs.Ytcpbcggfbopobaa
