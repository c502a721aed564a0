/- hold.less: what is left of a piece without another one. -/
import Derived.Test.YtpcmbnbdppembaaGreatDoorHoldOwn
namespace Go.Proofs.YtpcmbnbdppembaaGreatDoor
set_option linter.unusedSimpArgs false
set_option linter.unusedVariables false
open Go.RowKit Go.Shelf

/-- what is left of a piece without another one -/
def lessO (o : Ow) (p : Arc) : List Ow :=
  if (0 < p.t ∧ p.t ≤ o.f) ∨ (0 < o.t ∧ o.t ≤ p.f) then [o]
  else (if o.f < p.f then [{ o with t := p.f }] else []) ++ (if 0 < p.t ∧ (o.t = 0 ∨ p.t < o.t) then [{ o with f := p.t }] else [])

theorem heap_thr3 (W : World) (o1 o2 o3 : Obj) : (((W.alloc o1).alloc o2).alloc o3).heap[W.heap.size + 1 + 1]? = some o3 := by
  have := heap_alloc_new ((W.alloc o1).alloc o2) o3
  simpa using this
theorem heap_four (W : World) (o1 o2 o3 o4 : Obj) : ((((W.alloc o1).alloc o2).alloc o3).alloc o4).heap[W.heap.size + 1 + 1 + 1]? = some o4 := by
  have := heap_alloc_new (((W.alloc o1).alloc o2).alloc o3) o4
  simpa using this

theorem row_one {W : World} {base b : Nat} {x : Ow} (hb : W.heap[b]? = some (.cells (encOw x).toArray 128 (0, 0))) (h : base ≤ b) : W.ownsRow base 128 4 (.slice (some ⟨b, 0, none⟩) 1 1) 1 (encOw x) :=
  ⟨rfl, .inr ⟨b, 1, (encOw x).toArray, rfl, h, hb, by decide, by decide, rfl, rfl⟩⟩

theorem far_four {w w3 : World} {o : Ow} {p : Arc} {o3 o4 : Obj} (hg : ((((w.alloc (.cells (encOw o).toArray 128)).alloc (.cells #[.int .u64 p.f, .int .u64 p.t] 25)).alloc o3).alloc o4).grownBy w3 none) :
    w3.cell? ⟨w.heap.size, 0, none⟩ = some (.int .u64 o.f) ∧ w3.cell? ⟨w.heap.size, 1, none⟩ = some (.int .u64 o.t) ∧ w3.cell? ⟨w.heap.size, 2, none⟩ = some (.int .i64 o.node) ∧ w3.cell? ⟨w.heap.size, 3, none⟩ = some (.int .i64 o.ep) ∧
      w3.cell? ⟨w.heap.size + 1, 0, none⟩ = some (.int .u64 p.f) ∧ w3.cell? ⟨w.heap.size + 1, 1, none⟩ = some (.int .u64 p.t) := by
  have h1 := hg.block w.heap.size (by simp <;> omega) (by simp)
  have h2 := hg.block (w.heap.size + 1) (by simp <;> omega) (by simp)
  have e1 : w3.heap[w.heap.size]? = some (.cells (encOw o).toArray 128 (0, 0)) := by
    rw [h1]
    refine (Below.heap_alloc _ _ _ (by simp <;> omega)).trans ((Below.heap_alloc _ _ _ (by simp <;> omega)).trans ((Below.heap_alloc _ _ _ (by simp)).trans (heap_alloc_new w _)))
  have e2 : w3.heap[w.heap.size + 1]? = some (.cells #[.int .u64 p.f, .int .u64 p.t] 25 (0, 0)) := by
    rw [h2]
    refine (Below.heap_alloc _ _ _ (by simp <;> omega)).trans ((Below.heap_alloc _ _ _ (by simp)).trans ?_)
    have := heap_alloc_new (w.alloc (.cells (encOw o).toArray 128)) (.cells #[.int .u64 p.f, .int .u64 p.t] 25)
    simpa using this
  exact ⟨cell_of e1 0 rfl, cell_of e1 1 rfl, cell_of e1 2 rfl, cell_of e1 3 rfl, cell_of e2 0 rfl, cell_of e2 1 rfl⟩

theorem four_size {w w3 : World} {o1 o2 o3 o4 : Obj} (hg : ((((w.alloc o1).alloc o2).alloc o3).alloc o4).grownBy w3 none) : w.heap.size + 4 ≤ w3.heap.size := by
  have := hg.size
  simp at this
  omega

theorem mod_grown {a b : World} (hg : a.grownBy b none) : Mod NoB a b := ⟨hg.os, hg.tape, hg.output, hg.size, fun i hi _ => hg.block i hi (by simp)⟩
theorem mod_grown2 {w w3 w4 : World} {o1 o2 : Obj} {c : Nat} (hm : Mod NoB w w3) (hc : w.heap.size ≤ c) (hg : ((w3.alloc o1).alloc o2).grownBy w4 (some c)) : Mod NoB w w4 := by
  have h1 : Mod NoB w ((w3.alloc o1).alloc o2) := (hm.alloc _).alloc _
  refine ⟨hg.os.trans h1.os, hg.tape.trans h1.tape, hg.output.trans h1.output, Nat.le_trans h1.size hg.size, fun i hi hn => ?_⟩
  rw [hg.block i (Nat.lt_of_lt_of_le hi h1.size) (by simp; omega)]
  exact h1.block i hi hn
theorem row_base {W : World} {base c n m cap : Nat} {e : TypeId} {size : Nat} {xs : List Value} (h : W.ownsRow base e size (.slice (some ⟨c, 0, none⟩) m cap) n xs) : base ≤ c := by
  rcases h.2 with ⟨e, _⟩ | ⟨g, cap', cur, e, hb, _⟩
  · cases e
  · simp only [Value.slice.injEq, Option.some.injEq, Addr.mk.injEq] at e
    obtain ⟨⟨rfl, _, _⟩, _⟩ := e
    exact hb

theorem less_a {o : Ow} {p : Arc} (h : (0 < p.t ∧ p.t ≤ o.f) ∨ (0 < o.t ∧ o.t ≤ p.f)) : lessO o p = [o] := by unfold lessO; rw [if_pos h]
theorem less_b {o : Ow} {p : Arc} (h : ¬ ((0 < p.t ∧ p.t ≤ o.f) ∨ (0 < o.t ∧ o.t ≤ p.f)) ∧ o.f < p.f ∧ (0 < p.t ∧ (o.t = 0 ∨ p.t < o.t))) : lessO o p = [{ o with t := p.f }, { o with f := p.t }] := by
  unfold lessO; rw [if_neg h.1, if_pos h.2.1, if_pos h.2.2]; rfl
theorem less_c {o : Ow} {p : Arc} (h : ¬ ((0 < p.t ∧ p.t ≤ o.f) ∨ (0 < o.t ∧ o.t ≤ p.f)) ∧ o.f < p.f ∧ ¬ (0 < p.t ∧ (o.t = 0 ∨ p.t < o.t))) : lessO o p = [{ o with t := p.f }] := by
  unfold lessO; rw [if_neg h.1, if_pos h.2.1, if_neg h.2.2]; rfl
theorem less_d {o : Ow} {p : Arc} (h : ¬ ((0 < p.t ∧ p.t ≤ o.f) ∨ (0 < o.t ∧ o.t ≤ p.f)) ∧ ¬ o.f < p.f ∧ (0 < p.t ∧ (o.t = 0 ∨ p.t < o.t))) : lessO o p = [{ o with f := p.t }] := by
  unfold lessO; rw [if_neg h.1, if_neg h.2.1, if_pos h.2.2]; rfl
theorem less_e {o : Ow} {p : Arc} (h : ¬ ((0 < p.t ∧ p.t ≤ o.f) ∨ (0 < o.t ∧ o.t ≤ p.f)) ∧ ¬ o.f < p.f ∧ ¬ (0 < p.t ∧ (o.t = 0 ∨ p.t < o.t))) : lessO o p = [] := by
  unfold lessO; rw [if_neg h.1, if_neg h.2.1, if_neg h.2.2]; rfl

def LessPost (w : World) (o : Ow) (p : Arc) (e : Ending) (w' : World) : Prop :=
  ∃ v, e = .returned v ∧ w'.ownsRow w.heap.size 128 4 v (lessO o p).length ((lessO o p).flatMap encOw) ∧ (lessO o p = [] → v = .slice none 0 0) ∧ Mod NoB w w'

set_option maxRecDepth 100000 in
set_option maxHeartbeats 8000000 in
theorem hless_any (o : Ow) (p : Arc) (w : World) :
    Calls Tryz.prog 151 #[.agg #[.int .u64 o.f, .int .u64 o.t, .int .i64 o.node, .int .i64 o.ep], .agg #[.int .u64 p.f, .int .u64 p.t]] w (LessPost w o p) := by
  obtain ⟨i0, z0, hi, hz0, hz1, hz2, hz3⟩ := owInfo_parts
  obtain ⟨f, t, nd, ep⟩ := o
  by_cases ht0 : t = 0
  case' pos => subst ht0
  all_goals
   go_enter Tryz.func151, Tryz.ntmps151
   go_wp2_with (at_builtin; (first
    | (refine wpList_append_lies _ rfl _ _ 32 rfl w.heap.size 128 i0 z0 4 i0.bytes tyOws hi hz0 hz1 rfl hz2 (by decide) _ 0 [] rfl (World.ownsRow_nil _ _ _ _) ⟨w.heap.size + 1 + 1 + 1, 0, none⟩ 1 1 (encOw ⟨f, p.f, nd, ep⟩) rfl rfl (by intro j u hu; exact newsOw (by exact heap_four _ _ _ _ _) hu) (by intro u hu; exact oneOw hu) (by decide) (by decide) (by exact Nat.le_trans (Nat.mul_le_mul (Nat.le_refl 1) hz3) (by decide)) (by simp <;> omega) _ rfl ?_
       intro c cap w3 hown hgrow hat hlt3
       have hfar := far_four (o := ⟨f, _, nd, ep⟩) (p := p) hgrow
       obtain ⟨z0', z1', z2', z3', y0', y1'⟩ := hfar
       have hsz := four_size hgrow
       have hn0 : w.heap.size ≠ w3.heap.size := by omega
       have hn1 : w.heap.size + 1 ≠ w3.heap.size := by omega
       have hl0 : w.heap.size < w3.heap.size := by omega
       have hl1 : w.heap.size + 1 < w3.heap.size := by omega
       have G1 := Lib.hid hown; have G2 := Lib.hid hgrow; have G3 := Lib.hid hat; clear hown hgrow hat)
    | (refine wpList_append_lies _ rfl _ _ 32 rfl w.heap.size 128 i0 z0 4 i0.bytes tyOws hi hz0 hz1 rfl hz2 (by decide) _ 0 [] rfl (World.ownsRow_nil _ _ _ _) ⟨w.heap.size + 1 + 1 + 1, 0, none⟩ 1 1 (encOw ⟨p.t, _, nd, ep⟩) rfl rfl (by intro j u hu; exact newsOw (by exact heap_four _ _ _ _ _) hu) (by intro u hu; exact oneOw hu) (by decide) (by decide) (by exact Nat.le_trans (Nat.mul_le_mul (Nat.le_refl 1) hz3) (by decide)) (by simp; omega) _ rfl ?_
       intro c cap w3 hown hgrow hat hlt3
       have F1 := Lib.hid hown; have F2 := Lib.hid hgrow; have G3 := Lib.hid hat; clear hown hgrow hat)
    | (refine wpList_append_lies _ rfl _ _ 32 rfl w.heap.size 128 i0 z0 4 i0.bytes tyOws hi hz0 hz1 rfl hz2 (by decide) _ 1 (encOw ⟨f, p.f, nd, ep⟩) rfl (own_mod' (S := NoB) G1.out (((Mod.refl _ _).alloc _).alloc _) (fun _ _ x => x)) ⟨w3.heap.size + 1, 0, none⟩ 1 1 (encOw ⟨p.t, _, nd, ep⟩) rfl rfl (by intro j u hu; exact newsOw (by exact heap_two _ _ _) hu) (by intro u hu; exact oneOw hu) (by decide) (by decide) (by exact Nat.le_trans (Nat.mul_le_mul (Nat.le_refl 2) hz3) (by decide)) (by have := G2.out.size; simp at this ⊢; omega) _ rfl ?_
       intro c4 cap4 w4 hown hgrow hat hlt4
       have K1 := Lib.hid hown; have K2 := Lib.hid hgrow; have K3 := Lib.hid hat; clear hown hgrow hat)))
   all_goals go_ret
   all_goals simp only [beq_iff_eq] at *
   all_goals unfold LessPost
   all_goals first
   | (rw [less_a]
      rotate_left
      · first | (simp only; omega) | (simp; done) | (simp; omega)
      refine ⟨_, rfl, ?_, (fun e => nomatch e), (((Mod.refl _ _).alloc _).alloc _).alloc _⟩
      exact row_one (heap_thr3 _ _ _ _) (by omega))
   | (rw [less_b]
      rotate_left
      · first | (simp only; omega) | (simp; done) | (simp; omega)
      refine ⟨_, rfl, ?_, (fun e => nomatch e), mod_grown2 (((((Mod.refl _ _).alloc _).alloc _).alloc _ |>.alloc _).trans (mod_grown G2.out)) (row_base G1.out) K2.out⟩
      exact K1.out)
   | (rw [less_c]
      rotate_left
      · first | (simp only; omega) | (simp; done) | (simp; omega)
      refine ⟨_, rfl, ?_, (fun e => nomatch e), (((((Mod.refl _ _).alloc _).alloc _).alloc _ |>.alloc _).trans (mod_grown G2.out))⟩
      exact G1.out)
   | (rw [less_d]
      rotate_left
      · first | (simp only; omega) | (simp; done) | (simp; omega)
      refine ⟨_, rfl, ?_, (fun e => nomatch e), (((((Mod.refl _ _).alloc _).alloc _).alloc _ |>.alloc _).trans (mod_grown F2.out))⟩
      exact F1.out)
   | (rw [less_e]
      rotate_left
      · first | (simp only; omega) | (simp; done) | (simp; omega)
      refine ⟨_, rfl, ?_, (fun _ => rfl), ((Mod.refl _ _).alloc _).alloc _⟩
      exact World.ownsRow_nil _ _ _ _)
end Go.Proofs.YtpcmbnbdppembaaGreatDoor
