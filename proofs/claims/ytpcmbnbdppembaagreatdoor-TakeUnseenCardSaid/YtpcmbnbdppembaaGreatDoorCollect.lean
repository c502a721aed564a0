/- walk.Collect: the first items that something goes through. -/
import Derived.Test.YtpcmbnbdppembaaGreatDoorWalkArc
import Derived.RangeFuncBox
import Derived.Maps.OwnIn
import Derived.Deep.Onto
namespace Go.Proofs.YtpcmbnbdppembaaGreatDoor
set_option linter.unusedSimpArgs false
set_option linter.unusedVariables false
open Go.RowKit Go.Shelf
attribute [local go_sem] Oper.semAt_some

theorem arc_make (s : Nat) (a : Arc) (w : World) : Calls Tryz.prog 85 #[.pointer (some ⟨s, 0, none⟩), .agg #[.int .u64 a.f, .int .u64 a.t]] w fun e w' =>
    e = .returned (.func (.func 166) #[] #[.pointer (some ⟨w.heap.size, 0, none⟩), .pointer (some ⟨w.heap.size + 1, 0, none⟩)]) ∧
      w' = (w.alloc (.cells #[.pointer (some ⟨s, 0, none⟩)] 114)).alloc (.cells #[.int .u64 a.f, .int .u64 a.t] 25) := by
  go_enter Tryz.func85, Tryz.ntmps85
  go_wp2_with fail
  go_ret
  exact ⟨rfl, rfl⟩

/-- what walk.Collect wants of what it goes through -/
def SeqAt (gf : Nat) (lb : Array Value) (ys : List Itm) (w : World) : Prop := ∀ (Bo : Nat) (W : World), Mod NoB w W → w.heap.size ≤ Bo → Bo < W.heap.size → W.cell? ⟨Bo, 0, none⟩ = some (.slice none 0 0) →
  SeqStopsK Fence.wide 5 Tryz.prog gf lb encKV (KeepsC Bo) (fun xs => xs = ys) (fun pre => pre <+: ys) ys.length W

theorem arc_seq {s Bs Ba : Nat} {most : Int} {tr : Option Tree} {cnt : Nat} {L : List Nat} {xs : List Itm} (hI : ItemsOK tr xs) (hxl : xs.length ≤ 1000000) {a : Arc} (ha : a.ok) {w : World}
    (hs : w.cell? ⟨Bs, 0, none⟩ = some (.pointer (some ⟨s, 0, none⟩))) (ha0 : w.cell? ⟨Ba, 0, none⟩ = some (.int .u64 a.f)) (ha1 : w.cell? ⟨Ba, 1, none⟩ = some (.int .u64 a.t)) (hsh : ShelfAt w s most tr cnt L) :
    SeqAt 166 #[.pointer (some ⟨Bs, 0, none⟩), .pointer (some ⟨Ba, 0, none⟩)] (arcIts a xs) w := by
  intro Bo W0 hm0 hBo hBl hc l J Jx W hW hJ hJx hY h0
  have hm := hm0.trans (Mod.ofBelow hW)
  have hcW : W.cell? ⟨Bo, 0, none⟩ = some (.slice none 0 0) := (Mod.ofBelow hW).cellS hc
  refine arc1_in (by decide) l Bs Ba Bo s hI hxl ha J Jx W hJ hY (hm.cellS hs) (hm.cellS ha0) (hm.cellS ha1) (hsh.mod hm (fun _ _ x => x)) ⟨Nat.lt_of_lt_of_le hBl hW.size, fun k hk => ?_, fun g hg => by simp at hg, fun g hg => by simp at hg⟩ h0
  rcases hk with rfl | ⟨v, hv, hk⟩
  · exact Nat.lt_of_lt_of_le hBl hW.size
  · rw [hcW] at hv
    obtain rfl := (Option.some.inj hv).symm
    simp [ownL, Value.ownBlock] at hk

theorem keepsC_app {Bo : Nat} {W w1 : World} {t : TypeId} {v v' : Value} {tmp : Obj} (hv : Boxed W Bo t v) (hg : (W.alloc tmp).grownBy w1 v.ownBlock) (hne : some Bo ≠ v.ownBlock)
    (hat : v'.ownBlock = v.ownBlock ∨ v'.ownBlock = some (W.alloc tmp).heap.size) (hv1 : Boxed w1 Bo t v) (hlt1 : ∀ g ∈ ownL v', g < w1.heap.size) : KeepsC Bo W (w1.setCell ⟨Bo, 0, none⟩ v') := by
  have hset : Boxed (w1.setCell ⟨Bo, 0, none⟩ v') Bo t v' := hv1.set v'
  have hsz : (w1.setCell ⟨Bo, 0, none⟩ v').heap.size = w1.heap.size := by simp [World.setCell]
  have hbody : ∀ k, BodyB Bo (w1.setCell ⟨Bo, 0, none⟩ v') k → k = Bo ∨ k ∈ ownL v' := by
    rintro k (rfl | ⟨u, hu, hk⟩)
    · exact .inl rfl
    · rw [hset.cell] at hu
      obtain rfl := Option.some.inj hu
      exact .inr hk
  have hgs := hg.size
  simp only [World.size_alloc] at hgs
  refine ⟨by rw [hsz]; omega, fun k o ho hc hn => ?_, fun k hk => ?_, fun hl k hk => ?_⟩
  · have hkl : k < W.heap.size := (Array.getElem?_eq_some_iff.1 ho).1
    have hk1 : k ≠ Bo := fun e => hn (.inl e)
    have hk2 : some k ≠ v.ownBlock := fun e => hn (.inr ⟨v, hv.cell, by simp [ownL, ← e]⟩)
    rw [Below.heap_setCell _ _ _ _ hk1, hg.block k (by simp; omega) hk2, Below.heap_alloc _ _ _ hkl]
    exact ho
  · rcases hbody k hk with rfl | hk
    · exact .inl (.inl rfl)
    · rcases hat with e | e
      · exact .inl (.inr ⟨v, hv.cell, by simpa [ownL, e] using hk⟩)
      · right
        simp [ownL, e] at hk
        omega
  · rw [hsz]
    rcases hbody k hk with rfl | hk
    · exact hv1.lt
    · exact hlt1 k hk

theorem funNil (gf : Nat) (lb : Array Value) (W : World) : Sem.run Tryz.prog (binOp BinOp.eql 153 (Value.func (Fn.func gf) #[] lb) Value.nilFunc) W = Result.ok (.bool false) W := by
  kernel_rfl

set_option maxRecDepth 100000 in
set_option maxHeartbeats 8000000 in
theorem collect_any {gf : Nat} {lb : Array Value} {ys : List Itm} {w : World} (hseq : SeqAt gf lb ys w) (eg : ∀ args w, (callFunc gf args).run Tryz.prog w = .ok (.enter gf args) w) {most : Nat} (hm1 : 0 < most) (hm2 : most ≤ 1000000) :
    Calls Tryz.prog 84 #[.func (.func gf) #[] lb, .int .i64 most] w fun e w' => ∃ v, e = .returned v ∧ w'.ownsRow w.heap.size 73 2 v (ys.take most).length ((ys.take most).flatMap encIt) ∧ Mod NoB w w' := by
  obtain ⟨i0, z0, hi, hz0, hz1, hz2, hz3⟩ := itInfo_parts
  have hnil := funNil gf lb
  have HSEQ := Lib.hid hseq
  clear hseq
  refine (callsIn_wide (n := 6)).1 ?_
  refine callsIn_of_wp_marks Tryz.func84 rfl trivial ?_ rfl
  simp only [Tryz.ntmps84, List.size_toArray, List.length_cons, List.length_nil, Nat.reduceAdd, Nat.reduceSub, Array.replicate_succ, Array.replicate_zero, List.push_toArray, List.append_toArray, List.nil_append, List.cons_append]
  gi_wp2
  have bM := Boxed.new w 3 (.int .i64 most)
  have bO := Boxed.new (w.alloc (.cells #[.int .i64 most] 3)) 22 (.slice none 0 0)
  rw [World.size_alloc] at bO
  have hB0 : Below w.heap.size w ((w.alloc (.cells #[.int .i64 most] 3)).alloc (.cells #[.slice none 0 0] 22)) := ((Below.refl _ w).alloc (Nat.le_refl _) _).alloc (by simp) _
  refine wpIn_rangeFunc_ownF rfl (by decide) (gf := gf) (lb := lb) rfl trivial eg (HSEQ.out (w.heap.size + 1) _ (((Mod.refl NoB w).alloc _).alloc _) (by omega) (by simp) bO.cell) (fun h k => h.trans k) (keepsC_b (by simp)) (Below.refl _ _) (fun _ => rfl)
    (fun pre W => (∃ v, Boxed W (w.heap.size + 1) 22 v ∧ W.ownsRow w.heap.size 73 2 v pre.length (pre.flatMap encIt) ∧ True) ∧ Below w.heap.size w W ∧ Boxed W w.heap.size 3 (.int .i64 most) ∧ pre.length < most)
    (fun c pre W => c = .exit 0 ∧ (∃ v, Boxed W (w.heap.size + 1) 22 v ∧ W.ownsRow w.heap.size 73 2 v pre.length (pre.flatMap encIt) ∧ True) ∧ Below w.heap.size w W ∧ Boxed W w.heap.size 3 (.int .i64 most) ∧ pre.length = most)
    ?hI ?hIx ?h0
    (fun x => { tmps := #[.func (.func gf) #[] lb, .int .i64 most, undef, .pointer (some ⟨w.heap.size, 0, none⟩), .slice none 0 0, .pointer (some ⟨w.heap.size + 1, 0, none⟩), .string x.1, .string x.2, .func (.func gf) #[] lb, .bool false, .bool false, .int .i64 most, .bool false, .bool false, .func (.func gf) #[] lb, .string x.1, .string x.2, undef, undef, undef, undef, undef, undef, undef, undef, undef, undef, undef], defers := [] }) ?assign ?body ?done ?stop
  case hI =>
    refine OwnFrom.and (Own.from (holdsRow_own w.heap.size (w.heap.size + 1) 22 73 2 (fun pre : List Itm => pre.length) (fun pre => pre.flatMap encIt) (fun _ _ => True)) _) (OwnFrom.and (ownFrom_below (Nat.le_refl _) (by simp; omega)) ?_)
    intro s A B row hs hg hr
    exact ⟨hs.1.kept hg (fun e => by have := (hr _ e.symm).1; simp at this; omega), hs.2⟩
  case hIx =>
    intro c s A B row hs hg hr
    refine ⟨hs.1, holdsRow_own w.heap.size (w.heap.size + 1) 22 73 2 (fun pre : List Itm => pre.length) (fun pre => pre.flatMap encIt) (fun _ _ => True) s A B row hs.2.1 hg (fun r e => (hr r e).2), ?_, ?_, hs.2.2.2.2⟩
    · exact ownFrom_below (β := Unit) (Nat.le_refl _) (by simp; omega) () A B row hs.2.2.1 hg hr
    · exact hs.2.2.2.1.kept hg (fun e => by have := (hr _ e.symm).1; simp at this; omega)
  case h0 => exact ⟨⟨_, bO, World.ownsRow_nil _ _ _ _, trivial⟩, hB0, bM.alloc _, by simpa using hm1⟩
  case assign =>
    intro l x W K hK
    gi_wp2
    exact hK
  case body =>
    rintro l pre x W ⟨⟨v, hv, hrow, _⟩, hB, hM, hlt⟩ hlen
    have hc := hv.cell
    have hcm := hM.cell
    by_cases hlast : pre.length + 1 = most
    · have hlz : (pre.length : Int) + 1 = (most : Int) := by omega
      gi_wp2_with (gi_at_builtin; go_loud (refine wpListIn_append_own_at _ rfl _ _ 22 rfl w.heap.size 73 i0 z0 2 i0.bytes tyIts hi hz0 hz1 rfl hz2 (by decide) _ _ _ rfl (hrow.alloc _) ⟨W.heap.size, 0, none⟩ 1 1 (encIt x) rfl rfl (by intro j u hu; exact newsIt (heap_alloc_new _ _) hu) (by intro u hu; exact oneIt hu) (by unfold maxLen; omega) (by exact Nat.le_trans (Nat.mul_le_mul (by omega : pre.length + 1 ≤ 2000000) hz3) (by decide)) (by have := hB.size; simp; omega) ?_; intro v' w1 hown' hgrow hnn hat; obtain ⟨g', cap', rfl⟩ := ownsRow_succ hown'; obtain ⟨hv1, hv2, hr2, hk2, hb2⟩ := hv.appended (by decide) hrow hB.size (by omega) hown' hgrow; have hc1 := hv1.cell; have hf1 := hv1.frozen; have hM1 := (hM.alloc (.cells #[.string x.1, .string x.2] 73)).kept hgrow (hM.not_row (by decide) hrow); have hcm1 := hM1.cell; have hKC := keepsC_app hv hgrow (hv.not_row (by decide) hrow) hat hv1 (own_lt hown'); have HKC := Lib.hid hKC; have HR2 := Lib.hid hr2; have HV2 := Lib.hid hv2; have HK2 := Lib.hid hk2; have HB2 := Lib.hid hb2; have HM1 := Lib.hid hM1; clear hown' hgrow hnn hat hKC hr2 hv2 hk2 hb2 hM1))
      have k1 := HR2.out; have k2 := HV2.out; have k3 := HK2.out; have k4 := HB2.out
      rw [hlast] at k1 k2 k3 k4
      refine ⟨k3, rfl, ⟨_, k2, ?_, trivial⟩, hB.trans k4, ?_, by simpa using hlast⟩
      · have e : (pre ++ [x]).length = most := by simpa using hlast
        rw [e, List.flatMap_append]
        simpa using k1
      · have := HM1.out
        exact (heap_set_other (by omega) _ _).trans this
    · have hlz : ¬ (pre.length : Int) + 1 = (most : Int) := by omega
      gi_wp2_with (gi_at_builtin; go_loud (refine wpListIn_append_own_at _ rfl _ _ 22 rfl w.heap.size 73 i0 z0 2 i0.bytes tyIts hi hz0 hz1 rfl hz2 (by decide) _ _ _ rfl (hrow.alloc _) ⟨W.heap.size, 0, none⟩ 1 1 (encIt x) rfl rfl (by intro j u hu; exact newsIt (heap_alloc_new _ _) hu) (by intro u hu; exact oneIt hu) (by unfold maxLen; omega) (by exact Nat.le_trans (Nat.mul_le_mul (by omega : pre.length + 1 ≤ 2000000) hz3) (by decide)) (by have := hB.size; simp; omega) ?_; intro v' w1 hown' hgrow hnn hat; obtain ⟨g', cap', rfl⟩ := ownsRow_succ hown'; obtain ⟨hv1, hv2, hr2, hk2, hb2⟩ := hv.appended (by decide) hrow hB.size (by omega) hown' hgrow; have hc1 := hv1.cell; have hf1 := hv1.frozen; have hM1 := (hM.alloc (.cells #[.string x.1, .string x.2] 73)).kept hgrow (hM.not_row (by decide) hrow); have hcm1 := hM1.cell; have hKC := keepsC_app hv hgrow (hv.not_row (by decide) hrow) hat hv1 (own_lt hown'); have HKC := Lib.hid hKC; have HR2 := Lib.hid hr2; have HV2 := Lib.hid hv2; have HK2 := Lib.hid hk2; have HB2 := Lib.hid hb2; have HM1 := Lib.hid hM1; clear hown' hgrow hnn hat hKC hr2 hv2 hk2 hb2 hM1))
      refine ⟨HK2.out, HKC.out, ⟨_, HV2.out, ?_, trivial⟩, hB.trans HB2.out, ?_, by simp; omega⟩
      · rw [List.length_append, List.flatMap_append]
        simpa using HR2.out
      · have := HM1.out
        exact (heap_set_other (by omega) _ _).trans this
  case done =>
    rintro D xs W hD rfl ⟨⟨v, hv, hrow, _⟩, hB, hM, hlt⟩ hK
    have hc := hv.cell
    gi_wp2
    refine ⟨by simp, .inl ⟨_, _, rfl, run_takeDeferred hK, ?_⟩⟩
    refine ⟨_, results_tmp rfl _ _ _, v, rfl, ?_, Mod.ofBelow (hB.trans (belowK_b (w := w) (Nat.le_refl _) W D _ _ (by simp at hD; omega) hK rfl rfl))⟩
    rw [List.take_of_length_le (by omega)]
    exact ownsRow_putObj hrow _ hK rfl
  case stop =>
    rintro D c pre W hD hpre ⟨rfl, ⟨v, hv, hrow, _⟩, hB, hM, hlen⟩ hK
    have hc := hv.cell
    gi_wp2
    refine ⟨by simp, .inl ⟨_, _, rfl, run_takeDeferred hK, ?_⟩⟩
    refine ⟨_, results_tmp rfl _ _ _, v, rfl, ?_, Mod.ofBelow (hB.trans (belowK_b (w := w) (Nat.le_refl _) W D _ _ (by simp at hD; omega) hK rfl rfl))⟩
    obtain ⟨r, rfl⟩ := hpre
    rw [← hlen, List.take_left']
    · exact ownsRow_putObj hrow _ hK rfl
    · rfl
end Go.Proofs.YtpcmbnbdppembaaGreatDoor
