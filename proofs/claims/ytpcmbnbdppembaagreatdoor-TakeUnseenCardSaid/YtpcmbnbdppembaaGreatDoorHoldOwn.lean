/- (*hold.Hold).Own. -/
import Derived.Test.YtpcmbnbdppembaaGreatDoorHoldMem
import Derived.Deep.RegionLaw
import Derived.Deep.AppendLies
import Derived.Deep.DrawnRows
namespace Go.Proofs.YtpcmbnbdppembaaGreatDoor
set_option linter.unusedSimpArgs false
set_option linter.unusedVariables false
open Go.RowKit Go.Shelf
attribute [local go_sem ↓] Go.wp_at_zero Go.wp_at_succ

theorem infoOw : (Tryz.prog.info? 128).map (fun i => (i.zero, i.size, decide (i.bytes ≤ 64))) = some (some (.agg #[.int .u64 0, .int .u64 0, .int .i64 0, .int .i64 0]), 4, true) := by kernel_rfl
theorem tyOws : Tryz.prog.underlying 32 = some (.slice 128) := by kernel_rfl

def ownSt (st : HSt) (a : Arc) (ep : Int) : HSt := { st with own := st.own ++ (piecesA a).map (fun p => ⟨p.f, p.t, st.node, ep⟩) }
def ownK (st : HSt) (a : Arc) (ep : Int) (k : Nat) : HSt := { st with own := st.own ++ ((piecesA a).take k).map (fun p => ⟨p.f, p.t, st.node, ep⟩) }

theorem owInfo_parts : ∃ i z, Tryz.prog.info? 128 = some i ∧ i.zero = some z ∧ i.size = 4 ∧ z.cells.size = 4 ∧ i.bytes ≤ 64 := by
  have h := infoOw
  cases hi : Tryz.prog.info? 128 with
  | none => rw [hi] at h; cases h
  | some i =>
    rw [hi] at h
    simp only [Option.map_some, Option.some.injEq, Prod.mk.injEq, decide_eq_true_eq] at h
    obtain ⟨hz, hs, hb⟩ := h
    exact ⟨i, _, rfl, hz, hs, rfl, hb⟩

theorem oneOw {x : Ow} {u : Value} (hu : u ∈ encOw x) : u.oneCell' = true := by
  simp only [encOw, List.mem_cons, List.not_mem_nil, or_false] at hu
  rcases hu with rfl | rfl | rfl | rfl <;> rfl

/-- the cells of a block that was just made, behind whatever draws -/
theorem newsOw {W : World} {x : Ow} {e : TypeId} {b j : Nat} {u : Value} (hb : W.heap[b]? = some (.cells (encOw x).toArray e (0, 0))) (hu : (encOw x)[j]? = some u) : W.cell? ((⟨b, 0, none⟩ : Addr).add j) = some u :=
  World.news_of_block hb j u (by simpa using hu)

theorem heap_two (W : World) (o1 o2 : Obj) : ((W.alloc o1).alloc o2).heap[W.heap.size + 1]? = some o2 := by
  have := heap_alloc_new (W.alloc o1) o2
  simpa using this

theorem ownK_succ {st : HSt} {a : Arc} {ep : Int} {k : Nat} {p : Arc} (he : (piecesA a)[k]? = some p) :
    ownK st a ep (k + 1) = { ownK st a ep k with own := (ownK st a ep k).own ++ [⟨p.f, p.t, st.node, ep⟩] } := by
  simp [ownK, List.take_add_one, he]
theorem ownK_end (st : HSt) (a : Arc) (ep : Int) : ownK st a ep (piecesA a).length = ownSt st a ep := by
  simp [ownK, ownSt, List.take_length]

def OwnRel (w w2 : World) (h : Nat) (st : HSt) (a : Arc) (ep : Int) (tr : Option Tree) (n : Nat) (B : List Nat) (i : Value) (wr : World) : Prop :=
  ∃ (k : Nat) (Bk : List Nat), k ≤ (piecesA a).length ∧ i = .int .i64 k ∧ HoldAt wr h (ownK st a ep k) tr n Bk ∧ Turn B w2 wr Bk

set_option maxRecDepth 100000 in
set_option maxHeartbeats 8000000 in
theorem own_any {w : World} {h : Nat} {st : HSt} {tr : Option Tree} {n : Nat} {B : List Nat} (hh : HoldAt w h st tr n B) (a : Arc) (ep : Int) (hlen : st.own.length ≤ 1000000) :
    Calls Tryz.prog 25 #[.pointer (some ⟨h, 0, none⟩), .agg #[.int .u64 a.f, .int .u64 a.t], .int .i64 ep] w fun e w' => e = .returned (.bool (st.may a ep)) ∧
      ∃ B', HoldAt w' h (if st.may a ep then ownSt st a ep else st) tr n B' ∧ Turn B w w' B' := by
  have HH := Lib.hid hh
  have hlt := hh.lt
  clear hh
  cases hr : st.may a ep with
  | false =>
    go_enter Tryz.func25, Tryz.ntmps25
    go_wp2_with (go_at_call 69; refine (may_any (HH.out.mod (((Mod.refl NoB w).alloc (.cells #[.int .u64 a.f, .int .u64 a.t] 25))) (fun _ _ x => x)) a ep).mono ?_; rintro e w' ⟨rfl, hm⟩; rw [hr]; have HM := Lib.hid hm; clear hm)
    go_ret
    have hm := ((Mod.refl NoB w).alloc (.cells #[.int .u64 a.f, .int .u64 a.t] 25)).trans HM.out
    exact ⟨rfl, B, by simpa using HH.out.mod hm (fun _ _ x => x), hm.mono (fun _ _ x => x.elim), fun _ hk => .inl hk⟩
  | true =>
    go_enter Tryz.func25, Tryz.ntmps25
    go_wp2_with (go_at_call 69; refine (may_any (HH.out.mod (((Mod.refl NoB w).alloc (.cells #[.int .u64 a.f, .int .u64 a.t] 25))) (fun _ _ x => x)) a ep).mono ?_; rintro e w1 ⟨rfl, hm⟩; rw [hr]; have h0 := hm.cellS (p := ⟨w.heap.size, 0, none⟩) (u := .int .u64 a.f) (by simp); have h1 := hm.cellS (p := ⟨w.heap.size, 1, none⟩) (u := .int .u64 a.t) (by simp); have HM := Lib.hid hm; clear hm)
    refine (pieces_at a _).mono ?_
    rintro e w2 ⟨pb, rfl, hpb, hsl, hm2⟩
    have hm02 : Mod NoB w w2 := (((Mod.refl NoB w).alloc (.cells #[.int .u64 a.f, .int .u64 a.t] 25)).trans HM.out).trans hm2
    have HPB : Hid (w.heap.size ≤ pb) := by
      have h1 := ((Mod.refl NoB w).alloc (.cells #[.int .u64 a.f, .int .u64 a.t] 25)).trans HM.out
      exact Nat.le_trans h1.size hpb
    have hrel0 : OwnRel w w2 h st a ep tr n B (.int .i64 0) w2 := ⟨0, B, Nat.zero_le _, rfl, by
      have := HH.out.mod hm02 (fun _ _ x => x)
      simpa [ownK] using this, Mod.refl _ _, fun _ hk => .inl hk⟩
    have HS := Lib.hid hsl
    have HM2 := Lib.hid hm02
    clear hsl hm2 hm02 HM h0 h1 hpb
    go_wp2_with fail
    go_loopw [17] (fun i wr => OwnRel w w2 h st a ep tr n B i wr) (fun i _ => (piecesA a).length - (intOf i).toNat)
    case atStart => exact hrel0
    case round =>
      clear hrel0
      obtain ⟨k, Bk, hk, rfl, hhk, htk⟩ := hrel
      by_cases hlt2 : k < (piecesA a).length
      · have he : (piecesA a)[k]? = some (piecesA a)[k] := List.getElem?_eq_getElem hlt2
        generalize (piecesA a)[k] = p at *
        obtain ⟨vo, vp, s, L, q1, q2, q3, q4, rfl, q5⟩ := hhk
        have hsl := slAt_modS HS.out htk.1 (fun hb => by have := HH.out.lts _ hb; have := HPB.out; omega)
        obtain ⟨a', cap', hv, hx⟩ := hsl
        obtain ⟨b', o', hb', hc⟩ := hx k _ he
        simp only [Value.slice.injEq] at hv
        obtain ⟨hv1, _, hv3⟩ := hv
        subst hv1 hv3
        simp only [Option.some.injEq, Addr.mk.injEq] at hb'
        obtain ⟨rfl, rfl, _⟩ := hb'
        have p0 := hc 0 _ rfl
        have p1 := hc 1 _ rfl
        simp only [Nat.zero_add, Nat.add_zero] at p0 p1
        clear hc hx
        have c0 : wr.cell? ⟨h, 0, none⟩ = some (.int .i64 st.node) := cell_of q1 0 rfl
        have c3 : wr.cell? ⟨h, 3, none⟩ = some vo := cell_of q1 3 rfl
        have f3 := frozen_of q1 3
        have hhr : h < wr.heap.size := (Array.getElem?_eq_some_iff.1 q1).1
        have hne : h ≠ wr.heap.size := by omega
        have hklen : (ownK st a ep k).own.length + 1 ≤ 2000000 := by
          have : (piecesA a).length ≤ 2 := by unfold piecesA; split <;> simp
          simp [ownK]; omega
        have HKL := Lib.hid hklen; clear hklen
        obtain ⟨i0, z0, hi, hz0, hz1, hz2, hz3⟩ := owInfo_parts
        have HNE : Hid (some h ≠ vo.ownBlock) := by
          intro e
          simp only [List.nodup_cons, List.mem_append, not_or] at q5
          exact q5.1.1.1 (by simp [ownL, ← e])
        have HQ1 := Lib.hid q1; clear q1
        have HQ2 := Lib.hid q2; clear q2
        have HQ3 := Lib.hid q3; clear q3
        have HQ4 := Lib.hid q4; clear q4
        have HQ5 := Lib.hid q5; clear q5
        have HT := Lib.hid htk; clear htk
        have HE := Lib.hid he; clear he
        have HLT := Lib.hid hlt2
        have hlen2 : (piecesA a).length ≤ 2 := by unfold piecesA; split <;> simp
        go_wp2_with fail
        go_region_law ((refine step_append_lies _ (by rfl) _ _ 32 (by rfl) 0 128 i0 z0 4 i0.bytes tyOws hi hz0 hz1 rfl hz2 (by decide) vo (ownK st a ep k).own.length ((ownK st a ep k).own.flatMap encOw) (by rfl) (own_mod' (S := NoB) HQ2.out (by repeat (first | exact Mod.refl _ _ | refine Mod.alloc ?_ _ | refine Mod.drew ?_)) (fun _ _ x => x)) ⟨wr.heap.size + 1, 0, none⟩ 1 1 (encOw ⟨p.f, p.t, st.node, ep⟩) (by rfl) (by rfl) (by intro j u hu; exact newsOw (heap_two _ _ _) hu) (by intro u hu; exact oneOw hu) (by decide) (by have := HKL.out; unfold maxLen; omega) (by have := HKL.out; exact Nat.le_trans (Nat.mul_le_mul this hz3) (by decide)) (Nat.zero_le _) _ rfl ?_; intro g cap w3 hown hgrow hat hlt3; have k3 := (hgrow.cell_far ⟨h, 3, none⟩ (by simp; omega) HNE.out).trans (Mod.cellS (w := wr) (by repeat (first | exact Mod.refl _ _ | refine Mod.alloc ?_ _ | refine Mod.drew ?_)) c3); have kf := (hgrow.frozen_far ⟨h, 3, none⟩ (by simp; omega) HNE.out).trans ((Mod.frozen (S := NoB) (w := wr) (by repeat (first | exact Mod.refl _ _ | refine Mod.alloc ?_ _ | refine Mod.drew ?_)) hhr (fun x => x)).trans f3); have G1 := Lib.hid hown; have G2 := Lib.hid hgrow; have G3 := Lib.hid hat; clear hown hgrow hat))
        all_goals
          have hMX : Mod NoB wr ((wr.alloc (.cells #[.int .u64 p.f, .int .u64 p.t] 25)).alloc (.cells #[.int .u64 p.f, .int .u64 p.t, .int .i64 st.node, .int .i64 ep] 128)).drew := (((Mod.refl _ _).alloc _).alloc _).drew
          have hres := hold_owned (news := [⟨p.f, p.t, st.node, ep⟩]) HQ1.out HQ2.out HQ3.out HQ4.out HQ5.out hMX G2.out (by simpa using G1.out) G3.out
          have HR := Lib.hid hres
          clear hres hMX
          go_wp2_with fail
          go_roundw
          case rel =>
            refine ⟨k + 1, _, HLT.out, by go_num, ?_, HT.out.trans HR.out.2⟩
            rw [ownK_succ HE.out]
            exact HR.out.1
          case measure => have := HLT.out; simp [intOf]; omega
      · obtain rfl : k = (piecesA a).length := by omega
        have HK := Lib.hid hhk
        have HT := Lib.hid htk
        clear hhk htk
        go_wp2_with fail
        go_ret
        refine ⟨rfl, Bk, ?_, ?_⟩
        · have := HK.out
          rw [ownK_end] at this
          simpa using this
        · refine Turn.trans (B := B) ⟨HM2.out.mono (fun _ _ x => x.elim), fun _ hk => .inl hk⟩ HT.out
end Go.Proofs.YtpcmbnbdppembaaGreatDoor
