/- walk.Range goes through the items from a key on, up to another one. -/
import Derived.Test.YtmagddchjidamaaGreatDoorScanAll
import Derived.Test.YtmagddchjidamaaGreatDoorSeqC
import Derived.Test.YtmagddchjidamaaGreatDoorLess
namespace Go.Proofs.YtmagddchjidamaaGreatDoor
set_option linter.unusedSimpArgs false
set_option linter.unusedVariables false
open Go.RowKit Go.Shelf
attribute [local go_sem] Oper.semAt_some

/-- is a key ahead of the end of a range? -/
def toB (b k : ByteArray) : Bool := decide (b = ⟨#[]⟩) || keyLt k b
/-- what lies from a key on -/
def fromF (a : ByteArray) (xs : List Itm) : List Itm := xs.filter (fun x => !keyLt x.1 a)
/-- the items of a range -/
def rangeIts (a b : ByteArray) (xs : List Itm) : List Itm := (fromF a xs).takeWhile (fun x => toB b x.1)

theorem rangeIts_all {a b : ByteArray} {xs : List Itm} (h : ∀ x ∈ fromF a xs, toB b x.1 = true) : rangeIts a b xs = fromF a xs :=
  by
  unfold rangeIts
  have := List.takeWhile_append_of_pos (p := fun x : Itm => toB b x.1) (l₁ := fromF a xs) (l₂ := []) h
  simpa using this
theorem rangeIts_cut {a b : ByteArray} {pre rest : List Itm} {x : Itm} (h : ∀ y ∈ fromF a pre, toB b y.1 = true) (hx : keyLt x.1 a = false) (hb : toB b x.1 = false) : rangeIts a b (pre ++ x :: rest) = fromF a pre := by
  unfold rangeIts fromF
  rw [List.filter_append, List.filter_cons_of_pos (by simp [hx])]
  rw [List.takeWhile_append_of_pos (by exact h), List.takeWhile_cons_of_neg (by simp [hb]), List.append_nil]
theorem rangeIts_pre {a b : ByteArray} {pre rest : List Itm} {x : Itm} (h : ∀ y ∈ fromF a pre, toB b y.1 = true) (hx : keyLt x.1 a = false) (hb : toB b x.1 = true) : fromF a pre ++ [x] <+: rangeIts a b (pre ++ x :: rest) := by
  unfold rangeIts fromF
  rw [List.filter_append, List.filter_cons_of_pos (by simp [hx])]
  rw [List.takeWhile_append_of_pos (by exact h), List.takeWhile_cons_of_pos (by simp [hb])]
  exact ⟨_, by rw [List.append_assoc]; rfl⟩
theorem fromF_no {a : ByteArray} {pre : List Itm} {x : Itm} (hx : keyLt x.1 a = true) : fromF a (pre ++ [x]) = fromF a pre := by
  unfold fromF; rw [List.filter_append, List.filter_cons_of_neg (by simp [hx]), List.filter_nil, List.append_nil]
theorem fromF_yes {a : ByteArray} {pre : List Itm} {x : Itm} (hx : keyLt x.1 a = false) : fromF a (pre ++ [x]) = fromF a pre ++ [x] := by
  unfold fromF; rw [List.filter_append, List.filter_cons_of_pos (by simp [hx]), List.filter_nil]

abbrev vals {xs : List Itm} (l : List (InOf xs)) : List Itm := l.map (·.1)

structure RgInv (Bo bi Ba Bb By l : Nat) (a b : ByteArray) (J : List Itm → World → Prop) {xs : List Itm} (pre : List (InOf xs)) (W : World) : Prop where
  ap : ApartI Bo bi W [Ba, Bb, By]
  ca : W.cell? ⟨Ba, 0, none⟩ = some (.string a)
  cb : W.cell? ⟨Bb, 0, none⟩ = some (.string b)
  cy : W.cell? ⟨By, 0, none⟩ = some (.func (.yield l) #[] #[])
  q : ∀ x ∈ fromF a (vals pre), toB b x.1 = true
  j : J (fromF a (vals pre)) W

theorem RgInv.keep {Bo bi Ba Bb By l : Nat} {a b : ByteArray} {J : List Itm → World → Prop} {xs : List Itm} {pre pre' : List (InOf xs)} {W W' : World} (h : RgInv Bo bi Ba Bb By l a b J pre W) (hk : KeepsI Bo bi W W')
    (hq : ∀ x ∈ fromF a (vals pre'), toB b x.1 = true) (hj : J (fromF a (vals pre')) W') : RgInv Bo bi Ba Bb By l a b J pre' W' :=
  ⟨h.ap.keep hk, hk.cell h.ca (h.ap.not _ (by simp)), hk.cell h.cb (h.ap.not _ (by simp)), hk.cell h.cy (h.ap.not _ (by simp)), hq, hj⟩

theorem abO {β : Type} {B0 : Nat} {J : β → World → Prop} (hJ : OwnFrom B0 J) {s : β} {A B : World} (h : J s A) (hm : Mod NoB A B) : J s B :=
  hJ s A B none h (Mod.grown hm) (fun r e => by cases e)

theorem RgInv.mod {Bo bi Ba Bb By l : Nat} {a b : ByteArray} {B0 : Nat} {J : List Itm → World → Prop} {xs : List Itm} {pre : List (InOf xs)} {W W' : World} (hJ : OwnFrom B0 J) (h : RgInv Bo bi Ba Bb By l a b J pre W) (hm : Mod NoB W W') : RgInv Bo bi Ba Bb By l a b J pre W' :=
  h.keep (KeepsI.ofMod hm h.ap.lt) h.q (abO hJ h.j hm)

theorem RgInv.own {Bo bi Ba Bb By l B0 B1 : Nat} {a b : ByteArray} {J : List Itm → World → Prop} {xs : List Itm} (hJ : OwnFrom B0 J) (h01 : B0 ≤ B1) (hBo : Bo < B1) : OwnFrom B1 (fun (pre : List (InOf xs)) W => RgInv Bo bi Ba Bb By l a b J pre W) := by
  intro s X Y row h hg hr
  exact ⟨h.ap.own hg (fun r e => by have := (hr r e).1; omega), cell_kept h.ca hg (fun r e => (hr r e).2), cell_kept h.cb hg (fun r e => (hr r e).2), cell_kept h.cy hg (fun r e => (hr r e).2), h.q,
    hJ _ X Y row h.j hg (fun r e => ⟨by have := (hr r e).1; omega, (hr r e).2⟩)⟩

/-- how the loop is left ahead of its end -/
def RgOut (a b : ByteArray) (J Jx : List Itm → World → Prop) {xs : List Itm} (pre : List (InOf xs)) (W : World) : Prop :=
  ∃ (p : List (InOf xs)) (x : InOf xs), pre = p ++ [x] ∧ keyLt x.1.1 a = false ∧ (∀ y ∈ fromF a (vals p), toB b y.1 = true) ∧
    ((toB b x.1.1 = false ∧ J (fromF a (vals p)) W) ∨ (toB b x.1.1 = true ∧ Jx (fromF a (vals p) ++ [x.1]) W))

theorem RgOut.own {B0 B1 : Nat} {a b : ByteArray} {J Jx : List Itm → World → Prop} {xs : List Itm} (hJ : OwnFrom B0 J) (hJx : OwnFrom B0 Jx) (h01 : B0 ≤ B1) : OwnFrom B1 (fun (pre : List (InOf xs)) W => RgOut a b J Jx pre W) := by
  rintro s X Y row ⟨p, x, e, h1, h2, h3⟩ hg hr
  have hr' : ∀ r, row = some r → B0 ≤ r ∧ ∃ o : Obj, X.heap[r]? = some o ∧ o.isCells = false := fun r e => ⟨by have := (hr r e).1; omega, (hr r e).2⟩
  exact ⟨p, x, e, h1, h2, h3.imp (fun h => ⟨h.1, hJ _ X Y row h.2 hg hr'⟩) (fun h => ⟨h.1, hJx _ X Y row h.2 hg hr'⟩)⟩

theorem keepsFrom_mod {B : Nat} {W W' : World} (h : Mod NoB W W') : KeepsFrom B W W' := KeepsFrom.of_grownBy (Mod.grown h) (fun j e => by cases e)

set_option maxRecDepth 100000 in
set_option maxHeartbeats 8000000 in
theorem range1_in (l Bs Ba Bb Bo bi s : Nat) {most : Int} {tr : Option Tree} {cnt : Nat} {L : List Nat} {xs : List Itm} (hI : ItemsOK tr xs) (hxl : xs.length ≤ 1000000) (hxs : ∀ x ∈ xs, x.1.size ≤ 1000000) (a b : ByteArray) (ha : a.size ≤ 1000000) (hb : b.size ≤ 1000000)
    (J Jx : List Itm → World → Prop) (W : World) (hJ : OwnFrom W.heap.size J) (hJx : OwnFrom W.heap.size Jx)
    (hY : ∀ pre x W1, J pre W1 → pre.length < xs.length → YieldAt Fence.wide 4 Tryz.prog l (encKV x) W1 fun e W' => KeepsFrom W.heap.size W1 W' ∧
      ((e = .returned (.bool true) ∧ J (pre ++ [x]) W' ∧ KeepsI Bo bi W1 W') ∨ (e = .returned (.bool false) ∧ Jx (pre ++ [x]) W')))
    (hs : W.cell? ⟨Bs, 0, none⟩ = some (.pointer (some ⟨s, 0, none⟩))) (hca : W.cell? ⟨Ba, 0, none⟩ = some (.string a)) (hcb : W.cell? ⟨Bb, 0, none⟩ = some (.string b))
    (hsh : ShelfAt W s most tr cnt L) (hap : ApartI Bo bi W [Ba, Bb]) (h0 : J [] W) :
    Calls Tryz.prog 91 #[.func (.yield l) #[] #[], .pointer (some ⟨Bs, 0, none⟩), .pointer (some ⟨Ba, 0, none⟩), .pointer (some ⟨Bb, 0, none⟩)] W fun e W' => (∃ v, e = .returned v) ∧
      ((∃ ys, ys = rangeIts a b xs ∧ J ys W') ∨ (∃ pre, pre <+: rangeIts a b xs ∧ Jx pre W')) := by
  refine (callsIn_wide (n := 6)).1 ?_
  refine callsIn_of_wp_marks Tryz.func91 rfl trivial ?_ rfl
  simp only [Tryz.ntmps91, List.size_toArray, List.length_cons, List.length_nil, Nat.reduceAdd, Nat.reduceSub, Array.replicate_succ, Array.replicate_zero, List.push_toArray, List.append_toArray, List.nil_append, List.cons_append]
  have HY := Lib.hid hY
  have HSH := Lib.hid hsh
  have HAP := Lib.hid hap
  have H0 := Lib.hid h0
  have HXS := Lib.hid hxs
  clear hY hsh hap h0 hxs
  gi_wp2
  refine wpIn_scope ?_
  refine wpIn_seq ?_
  refine wpIn_label ?_
  simp only [Exit.then]
  have hm1 : Mod NoB W (W.alloc (.cells #[.func (.yield l) #[] #[]] 121)) := (Mod.refl _ _).alloc _
  have bY : (W.alloc (.cells #[.func (.yield l) #[] #[]] 121)).cell? ⟨W.heap.size, 0, none⟩ = some (.func (.yield l) #[] #[]) := (Boxed.new W 121 (.func (.yield l) #[] #[])).cell
  have hlt1 : W.heap.size < (W.alloc (.cells #[.func (.yield l) #[] #[]] 121)).heap.size := by simp
  generalize hBy : W.heap.size = By at *
  generalize W.alloc (.cells #[.func (.yield l) #[] #[]] 121) = w1 at *
  have hs1 := hm1.cellS hs; have hca1 := hm1.cellS hca; have hcb1 := hm1.cellS hcb
  gi_wp2
  refine ⟨trivial, (callsIn_wide.2 (wall_make s _)).mono ?_⟩
  rintro e w2 ⟨rfl, rfl⟩
  gi_wp2
  have ap1 : ApartI Bo bi w1 [Ba, Bb, By] := HAP.out.more hm1 (fun g hg => by
    simp only [List.mem_cons, List.not_mem_nil, or_false] at hg ⊢
    rcases hg with rfl | rfl | rfl
    · exact .inl (.inl rfl)
    · exact .inl (.inr rfl)
    · exact .inr ⟨Nat.le_of_eq hBy, hlt1⟩)
  have hm2 : Mod NoB w1 (w1.alloc (.cells #[.pointer (some ⟨s, 0, none⟩)] 69)) := (Mod.refl _ _).alloc _
  have bS : (w1.alloc (.cells #[.pointer (some ⟨s, 0, none⟩)] 69)).cell? ⟨w1.heap.size, 0, none⟩ = some (.pointer (some ⟨s, 0, none⟩)) := (Boxed.new w1 69 (.pointer (some ⟨s, 0, none⟩))).cell
  have hsz2 : (w1.alloc (.cells #[.pointer (some ⟨s, 0, none⟩)] 69)).heap.size = w1.heap.size + 1 := by simp
  generalize hw2 : w1.alloc (.cells #[.pointer (some ⟨s, 0, none⟩)] 69) = w2 at *
  have hm12 := hm1.trans hm2
  have ap2 : ApartI Bo bi w2 [Ba, Bb, By] := ap1.more hm2 (fun g hg => .inl hg)
  have hseq := all_seq hI hxl (n := 5) (by decide) (Bo := Bo) (bi := bi) (ap2.more (Mod.refl _ _) (fun g hg => absurd hg List.not_mem_nil)) bS (HSH.out.mod hm12 (fun _ _ x => x))
  have hle : By ≤ w2.heap.size := hBy ▸ hm12.size
  have hlb : Bo < w2.heap.size := ap2.lt
  refine wpIn_rangeFunc_ownG rfl (by decide) (gf := 108) (lb := #[.pointer (some ⟨w1.heap.size, 0, none⟩)]) rfl trivial (fun _ _ => by kernel_rfl) hseq (fun h k => h.trans k) (keepsI_b hlb) (Below.refl _ _) (fun _ => rfl)
    (fun pre W => RgInv Bo bi Ba Bb By l a b J pre W) (fun c pre W => c = .exit 0 ∧ RgOut a b J Jx pre W) (RgInv.own hJ hle hlb) (fun c => ?hIx) ?h0
    (fun x => { tmps := #[.func (.yield l) #[] #[], .pointer (some ⟨Bs, 0, none⟩), .pointer (some ⟨Ba, 0, none⟩), .pointer (some ⟨Bb, 0, none⟩), .pointer (some ⟨By, 0, none⟩), .string x.1.1, .string x.1.2, .pointer (some ⟨s, 0, none⟩), .func (.func 108) #[] #[.pointer (some ⟨w1.heap.size, 0, none⟩)], .string x.1.1, .string x.1.2, undef, undef, undef, undef, undef, undef, undef, undef, undef, undef, undef, undef, undef, undef, undef, undef, undef, undef, undef], defers := [] }) ?assign ?body ?done ?stop
  case hIx =>
    intro q X Y row hq hg hr
    exact ⟨hq.1, RgOut.own hJ hJx hle q X Y row hq.2 hg hr⟩
  case h0 => exact ⟨ap2, hm2.cellS hca1, hm2.cellS hcb1, hm2.cellS bY, fun x hx => by simp [fromF] at hx, abO hJ (by simpa [fromF] using H0.out) hm12⟩
  case assign =>
    intro l' x W' K hK
    gi_wp2
    exact hK
  case body =>
    rintro l' pre ⟨x, hx⟩ W3 hinv hlen
    have hxsz := HXS.out x hx
    have hlen' : (fromF a (vals pre)).length < xs.length := Nat.lt_of_le_of_lt (by unfold fromF; exact Nat.le_trans (List.length_filter_le _ _) (by simp)) hlen
    have HINV := Lib.hid hinv
    have c1 := hinv.ca
    clear hinv hseq
    gi_wp2
    refine ⟨trivial, (CallsIn.inRound l' (callsIn_wide.2 (less_any x.1 a _ hxsz ha))).mono ?_⟩
    rintro e W4 ⟨rfl, hm4⟩
    have HI4 := Lib.hid (HINV.out.mod hJ hm4)
    have KP4 : Hid (KeepsI Bo bi W3 W4) := Lib.hid (KeepsI.ofMod hm4 HINV.out.ap.lt)
    have KF4 : Hid (KeepsFrom w2.heap.size W3 W4) := Lib.hid (keepsFrom_mod hm4)
    clear hm4 c1
    cases hka : keyLt x.1 a with
    | true =>
      have HKA := Lib.hid hka
      clear hka
      gi_wp2
      refine ⟨KF4.out, KP4.out, HI4.out.keep (KeepsI.ofMod (Mod.refl NoB _) HI4.out.ap.lt) ?_ ?_⟩
      · intro y hy
        rw [vals, List.map_append, List.map_cons, List.map_nil, fromF_no HKA.out] at hy
        exact HI4.out.q y hy
      · rw [vals, List.map_append, List.map_cons, List.map_nil, fromF_no HKA.out]
        exact HI4.out.j
    | false =>
      have HKA := Lib.hid hka
      clear hka
      have c2 := HI4.out.cb
      by_cases hb0 : b = ⟨#[]⟩
      · have hto : toB b x.1 = true := by simp [toB, hb0]
        have hbe : (b == (⟨#[]⟩ : ByteArray)) = true := by rw [hb0]; rfl
        have hbl : b.toList = [] := by rw [hb0, Lib.toList_data]
        gi_wp2
        refine ⟨trivial, ?_⟩
        clear c2 hbe hbl
        · obtain ⟨WW, rfl⟩ : ∃ WW, WW = W4 := ⟨_, rfl⟩
          have HIW := HI4; have KPW := KP4; have KFW := KF4
          have HTO : Hid (toB b x.1 = true) := Lib.hid hto
          obtain ⟨fn, tmps, assign, body, hy, hR⟩ := HY.out (fromF a (vals pre)) x WW HIW.out.j hlen'
          have c3 := HIW.out.cy
          gi_wp2
          refine (roundIn_wide hR).mono ?_
          clear hR hy c3
          rintro e W6 ⟨hkf, (⟨rfl, hj6, hk6⟩ | ⟨rfl, hj6⟩)⟩
          · have HJ6 := Lib.hid hj6; have HK6 := Lib.hid hk6; have HF6 := Lib.hid hkf
            clear hj6 hk6 hkf
            gi_wp2
            refine ⟨KFW.out.trans ⟨HF6.out.size, fun k o hB ho hc => HF6.out.same k o (Nat.le_trans hle hB) ho hc⟩, KPW.out.trans HK6.out, HIW.out.keep HK6.out ?_ ?_⟩
            · intro y hy
              rw [vals, List.map_append, List.map_cons, List.map_nil, fromF_yes HKA.out] at hy
              rcases List.mem_append.1 hy with hy | hy
              · exact HIW.out.q y hy
              · obtain rfl := List.mem_singleton.1 hy
                exact HTO.out
            · rw [vals, List.map_append, List.map_cons, List.map_nil, fromF_yes HKA.out]
              exact HJ6.out
          · have HJ6 := Lib.hid hj6; have HF6 := Lib.hid hkf
            clear hj6 hkf
            gi_wp2
            exact ⟨KFW.out.trans ⟨HF6.out.size, fun k o hB ho hc => HF6.out.same k o (Nat.le_trans hle hB) ho hc⟩, rfl, pre, ⟨x, hx⟩, rfl, HKA.out, HIW.out.q, .inr ⟨HTO.out, HJ6.out⟩⟩
      · have hbe : (b == (⟨#[]⟩ : ByteArray)) = false := by
          cases h : (b == (⟨#[]⟩ : ByteArray)) with
          | false => rfl
          | true => exact absurd ((MapKept.bytes_beq _ _).1 h) hb0
        have hbl : ¬ b.toList = [] := fun e => hb0 (by
          cases b with | mk d => exact congrArg ByteArray.mk (Array.ext' (by rw [Lib.toList_data] at e; exact e)))
        have hbi : b.toList.isEmpty = false := by
          cases h : b.toList with
          | nil => exact absurd h hbl
          | cons _ _ => rfl
        gi_wp2
        refine ⟨trivial, (CallsIn.inRound l' (callsIn_wide.2 (less_any x.1 b _ hxsz hb))).mono ?_⟩
        rintro e WW ⟨rfl, hmW⟩
        have HIW := Lib.hid (HI4.out.mod hJ hmW)
        have KPW : Hid (KeepsI Bo bi W3 WW) := Lib.hid (KP4.out.trans (KeepsI.ofMod hmW HI4.out.ap.lt))
        have KFW : Hid (KeepsFrom w2.heap.size W3 WW) := Lib.hid (KF4.out.trans (keepsFrom_mod hmW))
        clear hmW c2
        cases hkb : keyLt x.1 b with
        | false =>
          have hto : toB b x.1 = false := by simp [toB, hb0, hkb]
          have HTO := Lib.hid hto
          clear hto hkb
          gi_wp2
          exact ⟨KFW.out, rfl, pre, ⟨x, hx⟩, rfl, HKA.out, HIW.out.q, .inl ⟨HTO.out, HIW.out.j⟩⟩
        | true =>
          have hto : toB b x.1 = true := by simp [toB, hkb]
          clear hkb
          have HTO : Hid (toB b x.1 = true) := Lib.hid hto
          obtain ⟨fn, tmps, assign, body, hy, hR⟩ := HY.out (fromF a (vals pre)) x WW HIW.out.j hlen'
          have c3 := HIW.out.cy
          gi_wp2
          refine (roundIn_wide hR).mono ?_
          clear hR hy c3
          rintro e W6 ⟨hkf, (⟨rfl, hj6, hk6⟩ | ⟨rfl, hj6⟩)⟩
          · have HJ6 := Lib.hid hj6; have HK6 := Lib.hid hk6; have HF6 := Lib.hid hkf
            clear hj6 hk6 hkf
            gi_wp2
            refine ⟨KFW.out.trans ⟨HF6.out.size, fun k o hB ho hc => HF6.out.same k o (Nat.le_trans hle hB) ho hc⟩, KPW.out.trans HK6.out, HIW.out.keep HK6.out ?_ ?_⟩
            · intro y hy
              rw [vals, List.map_append, List.map_cons, List.map_nil, fromF_yes HKA.out] at hy
              rcases List.mem_append.1 hy with hy | hy
              · exact HIW.out.q y hy
              · obtain rfl := List.mem_singleton.1 hy
                exact HTO.out
            · rw [vals, List.map_append, List.map_cons, List.map_nil, fromF_yes HKA.out]
              exact HJ6.out
          · have HJ6 := Lib.hid hj6; have HF6 := Lib.hid hkf
            clear hj6 hkf
            gi_wp2
            exact ⟨KFW.out.trans ⟨HF6.out.size, fun k o hB ho hc => HF6.out.same k o (Nat.le_trans hle hB) ho hc⟩, rfl, pre, ⟨x, hx⟩, rfl, HKA.out, HIW.out.q, .inr ⟨HTO.out, HJ6.out⟩⟩
  case done =>
    rintro D ys W3 hD hys hinv hK
    have HINV := Lib.hid hinv
    have HYS := Lib.hid hys
    clear hinv hys hseq
    gi_wp2
    rw [Exit.noGoto_normal]
    gi_wp2
    refine ⟨by simp, .inl ⟨_, _, rfl, run_takeDeferred hK, ?_⟩⟩
    refine ⟨_, results_none rfl _ _ _, ⟨_, rfl⟩, .inl ⟨rangeIts a b xs, rfl, ?_⟩⟩
    have hq := HINV.out.q
    have hj := HINV.out.j
    rw [show vals ys = xs from HYS.out] at hq hj
    rw [rangeIts_all hq]
    exact hJ.putObj _ hj (Nat.le_trans hle hD) hK rfl
  case stop =>
    rintro D c pre W3 hD hpre ⟨rfl, hout⟩ hK
    have HO := Lib.hid hout
    have HP := Lib.hid hpre
    clear hout hpre hseq
    gi_wp2
    rw [Exit.noGoto_normal]
    gi_wp2
    refine ⟨by simp, .inl ⟨_, _, rfl, run_takeDeferred hK, ?_⟩⟩
    refine ⟨_, results_none rfl _ _ _, ⟨_, rfl⟩, ?_⟩
    obtain ⟨p, x, rfl, h1, h2, h3⟩ := HO.out
    obtain ⟨rest, hr⟩ := HP.out
    rw [List.map_append, List.map_cons, List.map_nil, List.append_assoc, List.singleton_append] at hr
    rcases h3 with ⟨h3, hj⟩ | ⟨h3, hj⟩
    · refine .inl ⟨_, rfl, ?_⟩
      have := rangeIts_cut (rest := rest) (show ∀ y ∈ fromF a (vals p), toB b y.1 = true from h2) h1 h3
      rw [hr] at this
      rw [this]
      exact hJ.putObj _ hj (Nat.le_trans hle hD) hK rfl
    · refine .inr ⟨fromF a (vals p) ++ [x.1], ?_, hJx.putObj _ hj (Nat.le_trans hle hD) hK rfl⟩
      have := rangeIts_pre (rest := rest) (show ∀ y ∈ fromF a (vals p), toB b y.1 = true from h2) h1 h3
      rw [hr] at this
      exact this

/-- a range of a shelf's items as something to go through -/
theorem range_seq {s Bs Ba Bb : Nat} {most : Int} {tr : Option Tree} {cnt : Nat} {L : List Nat} {xs : List Itm} (hI : ItemsOK tr xs) (hxl : xs.length ≤ 1000000) (hxs : ∀ x ∈ xs, x.1.size ≤ 1000000) {a b : ByteArray} (ha : a.size ≤ 1000000) (hb : b.size ≤ 1000000)
    {Bo bi : Nat} {W0 : World} (hBo : ApartI Bo bi W0 [Ba, Bb]) (hs : W0.cell? ⟨Bs, 0, none⟩ = some (.pointer (some ⟨s, 0, none⟩))) (hca : W0.cell? ⟨Ba, 0, none⟩ = some (.string a)) (hcb : W0.cell? ⟨Bb, 0, none⟩ = some (.string b)) (hsh : ShelfAt W0 s most tr cnt L) :
    SeqC 5 Tryz.prog 91 #[.pointer (some ⟨Bs, 0, none⟩), .pointer (some ⟨Ba, 0, none⟩), .pointer (some ⟨Bb, 0, none⟩)] encKV (KeepsI Bo bi) xs.length (rangeIts a b xs) W0 := by
  intro l J Jx W hW hJ hJx hY h0
  have hm := Mod.ofBelow hW
  exact callsIn_wide.2 (range1_in l Bs Ba Bb Bo bi s hI hxl hxs a b ha hb J Jx W hJ hJx hY (hm.cellS hs) (hm.cellS hca) (hm.cellS hcb) (hsh.mod hm (fun _ _ x => x)) (hBo.more hm (fun g hg => .inl hg)) h0)
end Go.Proofs.YtmagddchjidamaaGreatDoor
