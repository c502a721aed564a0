/- LockPlays: every who that asks for a lock, and gives it back, in every order: never two have it; for every slice of Op, nil too; no condition. -/
import Derived.Test.YtcpbcggfbopobaaRows
import Derived.Test.YtcpbcggfbopobaaFrame
import Derived.Test.YtcpbcggfbopobaaLockLaw
namespace Go.Proofs.Ytcpbcggfbopobaa
open Go.ChangeShapes Go.WideShapes Go.ChangeAt Go.RowKit

def opShp : Shp := .st [.i .i64, .i .i64, .i .i64]

theorem ask_nil (x y : Int) (w : World) : Calls Try.prog 10 #[.pointer none, .int .i64 x, .int .i64 y] w fun e w' => e = .returned (.bool false) ∧ w' = w := by
  go_enter Try.func10, Try.ntmps10
  go_wp2
  go_ret
  exact ⟨rfl, rfl⟩

theorem free_nil (x y : Int) (w : World) : Calls Try.prog 11 #[.pointer none, .int .i64 x, .int .i64 y] w fun e w' => e = .returned (.bool false) ∧ w' = w := by
  go_enter Try.func11, Try.ntmps11
  go_wp2
  go_ret
  exact ⟨rfl, rfl⟩

theorem by_nil (w : World) : Calls Try.prog 12 #[.pointer none] w fun e w' => e = .returned (.tuple #[.int .i64 0, .int .i64 0, .bool false]) ∧ w' = w := by
  go_enter Try.func12, Try.ntmps12
  go_wp2
  go_ret3
  exact ⟨rfl, rfl⟩

theorem LockAt.kept {w : World} {b : Nat} {had : Bool} {p q : Int} (h : LockAt w b had p q) {w' : World} (hb : w'.heap[b]? = w.heap[b]?) : LockAt w' b had p q := by
  obtain ⟨h0, h1, h2, f0, f1, f2⟩ := h
  constructor
  · rw [World.cell?_of_block (w := w) hb]; exact h0
  · rw [World.cell?_of_block (w := w) hb]; exact h1
  · rw [World.cell?_of_block (w := w) hb]; exact h2
  · rw [World.frozen?_of_block (w := w) hb]; exact f0
  · rw [World.frozen?_of_block (w := w) hb]; exact f1
  · rw [World.frozen?_of_block (w := w) hb]; exact f2

theorem LockAt.lt {w : World} {b : Nat} {had : Bool} {p q : Int} (h : LockAt w b had p q) : b < w.heap.size := cell_lt h.c0

theorem LockAt.drewN {w : World} {b : Nat} {had : Bool} {p q : Int} (h : LockAt w b had p q) (n : Nat) : LockAt (w.drewN n) b had p q := h.kept rfl

theorem below_drewN' {B : Nat} {a w : World} (h : Below B a w) (n : Nat) : Below B a (w.drewN n) := ⟨h.os, h.tape, h.output, h.size, h.block⟩

theorem lockSet_other {wr : World} {B : Nat} {z x y : Int} {T : TypeId} (hne : wr.heap.size ≠ B) (had : Bool) (p q : Int) :
    (lockSet (wr.alloc (.cells #[.int .i64 z, .int .i64 x, .int .i64 y] T)) B had p q).cell? ⟨wr.heap.size, 1, none⟩ = some (.int .i64 x) := by
  simp [lockSet, go_sem, *]

theorem lockSet_other2 {wr : World} {B : Nat} {z x y : Int} {T : TypeId} (hne : wr.heap.size ≠ B) (had : Bool) (p q : Int) :
    (lockSet (wr.alloc (.cells #[.int .i64 z, .int .i64 x, .int .i64 y] T)) B had p q).cell? ⟨wr.heap.size, 2, none⟩ = some (.int .i64 y) := by
  simp [lockSet, go_sem, *]

/-- what is had is as it is told -/
def HadIs (had : Bool) (p q : Int) : Prop := had = false → p = 0 ∧ q = 0

/-- the loop's relation -/
def PlaysRel (B len : Nat) (w : World) (vh vp vq i : Value) (wr : World) : Prop :=
  ∃ (k : Nat) (had : Bool) (p q : Int), k ≤ len ∧ i = .int .i64 k ∧ vh = .bool had ∧ vp = .int .i64 p ∧ vq = .int .i64 q ∧ HadIs had p q ∧ LockAt wr B had p q ∧ Below w.heap.size w wr

set_option maxRecDepth 100000 in
set_option maxHeartbeats 4000000 in
theorem plays_any (ks bs ns : List Int) (ab ao : Nat) (len cap : Nat) (w : World) (hlen : len ≤ 9223372036854775807)
    (hk : ∀ i, i < len → w.cell? ⟨ab, ao + i * 3, none⟩ = some (.int .i64 (ks.getD i 0)))
    (hb : ∀ i, i < len → w.cell? ⟨ab, ao + i * 3 + 1, none⟩ = some (.int .i64 (bs.getD i 0)))
    (hn : ∀ i, i < len → w.cell? ⟨ab, ao + i * 3 + 2, none⟩ = some (.int .i64 (ns.getD i 0))) (ha : ab < w.heap.size) :
    Calls Try.prog 3 #[.slice (some ⟨ab, ao, none⟩) len cap] w fun e w' => e = .returned (.bool true) ∧ Below w.heap.size w w' := by
  by_cases hs : len ≤ 200
  · go_enter Try.func3, Try.ntmps3
    go_wp2_with (go_at_call 9; refine (lockAlive _).mono ?_; rintro e w1 ⟨rfl, hb1⟩)
    have hB : w.heap.size ≤ w1.heap.size := hb1.size
    generalize hBe : w1.heap.size = B at *
    go_loopw [4, 5, 6, 29] (fun vh vp vq i wr => PlaysRel B len w vh vp vq i wr) (fun _ _ _ i _ => len - (intOf i).toNat)
    case atStart => exact ⟨0, false, 0, 0, Nat.zero_le _, rfl, rfl, rfl, rfl, fun _ => ⟨rfl, rfl⟩, by subst hBe; constructor <;> simp [go_sem], hb1.alloc hb1.size _⟩
    case round =>
      obtain ⟨k, had, p, q, hkl, rfl, rfl, rfl, rfl, hh, hL, hbw⟩ := hrel
      by_cases hlt : k < len
      · have c0 : wr.cell? ⟨ab, ao + k * 3, none⟩ = some (.int .i64 (ks.getD k 0)) := by
          rw [hbw.cell (p := ⟨ab, _, none⟩) ha]; exact hk k hlt
        have c1 : wr.cell? ⟨ab, ao + k * 3 + 1, none⟩ = some (.int .i64 (bs.getD k 0)) := by
          rw [hbw.cell (p := ⟨ab, _, none⟩) ha]; exact hb k hlt
        have c2 : wr.cell? ⟨ab, ao + k * 3 + 2, none⟩ = some (.int .i64 (ns.getD k 0)) := by
          rw [hbw.cell (p := ⟨ab, _, none⟩) ha]; exact hn k hlt
        clear hk hb hn hb1 hBe
        generalize ks.getD k 0 = z at *
        generalize bs.getD k 0 = x at *
        generalize ns.getD k 0 = y at *
        have hne : wr.heap.size ≠ B := by have := hL.lt; omega
        have hL1 : LockAt (wr.alloc (.cells #[.int .i64 z, .int .i64 x, .int .i64 y] 28)) B had p q := hL.kept (Below.heap_alloc _ _ _ hL.lt)
        have hZ : z = 1 ∨ z = 2 ∨ ((z == 1) = false ∧ (z == 2) = false) := by simp; omega
        have hb2 : Below w.heap.size w (wr.alloc (.cells #[.int .i64 z, .int .i64 x, .int .i64 y] 28)) := hbw.alloc (by have := hbw.size; omega) _
        clear hL hbw
        cases had
        · obtain ⟨rfl, rfl⟩ := hh rfl
          clear hh
          rcases hZ with rfl | rfl | ⟨hz1, hz2⟩
          · go_wp2_with fail
            refine (ask_free B x y 0 0 _ hL1).mono ?_; rintro e w' ⟨rfl, rfl⟩
            go_wp2_with fail
            have d1 : (lockSet (wr.alloc (.cells #[.int .i64 1, .int .i64 x, .int .i64 y] 28)) B true x y).cell? ⟨wr.heap.size, 1, none⟩ = some (.int .i64 x) := lockSet_other hne _ _ _
            have d2 : (lockSet (wr.alloc (.cells #[.int .i64 1, .int .i64 x, .int .i64 y] 28)) B true x y).cell? ⟨wr.heap.size, 2, none⟩ = some (.int .i64 y) := lockSet_other2 hne _ _ _
            clear hne
            go_quiet (fail)
            go_wp2_with fail
            refine (by_any B true x y _ ((hL1.set true x y).kept (w' := (lockSet (wr.alloc (.cells #[.int .i64 1, .int .i64 x, .int .i64 y] 28)) B true x y).drewN _) rfl)).mono ?_; rintro e w' ⟨rfl, n, rfl⟩
            go_wp2_with fail
            go_roundw
            case rel => exact ⟨k + 1, true, x, y, by omega, by go_num, rfl, rfl, rfl, (fun h => nomatch h), LockAt.kept (hL1.set true x y) rfl, ⟨(below_set hb2 hB true x y).os, (below_set hb2 hB true x y).tape, (below_set hb2 hB true x y).output, (below_set hb2 hB true x y).size, (below_set hb2 hB true x y).block⟩⟩
            case measure => simp [intOf]; omega
          · go_wp2_with fail
            refine (free_free B x y 0 0 _ hL1).mono ?_; rintro e w' ⟨rfl, rfl⟩
            go_wp2_with fail
            refine (by_any B false 0 0 _ hL1).mono ?_; rintro e w' ⟨rfl, n, rfl⟩
            go_wp2_with fail
            go_roundw
            case rel => exact ⟨k + 1, false, 0, 0, by omega, by go_num, rfl, rfl, rfl, fun _ => ⟨rfl, rfl⟩, LockAt.kept hL1 rfl, ⟨hb2.os, hb2.tape, hb2.output, hb2.size, hb2.block⟩⟩
            case measure => simp [intOf]; omega
          · go_wp2_with fail
            refine (by_any B false 0 0 _ hL1).mono ?_; rintro e w' ⟨rfl, n, rfl⟩
            go_wp2_with fail
            go_roundw
            case rel => exact ⟨k + 1, false, 0, 0, by omega, by go_num, rfl, rfl, rfl, fun _ => ⟨rfl, rfl⟩, LockAt.kept hL1 rfl, ⟨hb2.os, hb2.tape, hb2.output, hb2.size, hb2.block⟩⟩
            case measure => simp [intOf]; omega
        · clear hh
          by_cases hpx0 : p = x
          · subst hpx0
            by_cases hqy0 : q = y
            · subst hqy0
              rcases hZ with rfl | rfl | ⟨hz1, hz2⟩
              · go_wp2_with fail
                refine (ask_had_same B p q _ hL1).mono ?_; rintro e w' ⟨rfl, rfl⟩
                go_wp2_with fail
                refine (by_any B true p q _ hL1).mono ?_; rintro e w' ⟨rfl, n, rfl⟩
                go_wp2_with fail
                go_roundw
                case rel => exact ⟨k + 1, true, p, q, by omega, by go_num, rfl, rfl, rfl, (fun h => nomatch h), LockAt.kept hL1 rfl, ⟨hb2.os, hb2.tape, hb2.output, hb2.size, hb2.block⟩⟩
                case measure => simp [intOf]; omega
              · go_wp2_with fail
                refine (free_had B p q _ hL1).mono ?_; rintro e w' ⟨rfl, rfl⟩
                go_wp2_with fail
                refine (by_any B false 0 0 _ (hL1.set false 0 0)).mono ?_; rintro e w' ⟨rfl, n, rfl⟩
                go_wp2_with fail
                go_roundw
                case rel => exact ⟨k + 1, false, 0, 0, by omega, by go_num, rfl, rfl, rfl, fun _ => ⟨rfl, rfl⟩, LockAt.kept (hL1.set false 0 0) rfl, ⟨(below_set hb2 hB false 0 0).os, (below_set hb2 hB false 0 0).tape, (below_set hb2 hB false 0 0).output, (below_set hb2 hB false 0 0).size, (below_set hb2 hB false 0 0).block⟩⟩
                case measure => simp [intOf]; omega
              · go_wp2_with fail
                refine (by_any B true p q _ hL1).mono ?_; rintro e w' ⟨rfl, n, rfl⟩
                go_wp2_with fail
                go_roundw
                case rel => exact ⟨k + 1, true, p, q, by omega, by go_num, rfl, rfl, rfl, (fun h => nomatch h), LockAt.kept hL1 rfl, ⟨hb2.os, hb2.tape, hb2.output, hb2.size, hb2.block⟩⟩
                case measure => simp [intOf]; omega
            · have hqb : (q == y) = false := by simpa using hqy0
              have hqy := Lib.hid hqy0; clear hqy0
              rcases hZ with rfl | rfl | ⟨hz1, hz2⟩
              · go_wp2_with fail
                refine (ask_had_else B p y p q _ hL1 (fun h => hqy.out h.2)).mono ?_; rintro e w' ⟨rfl, rfl⟩
                go_wp2_with fail
                refine (by_any B true p q _ hL1).mono ?_; rintro e w' ⟨rfl, n, rfl⟩
                go_wp2_with fail
                go_roundw
                case rel => exact ⟨k + 1, true, p, q, by omega, by go_num, rfl, rfl, rfl, (fun h => nomatch h), LockAt.kept hL1 rfl, ⟨hb2.os, hb2.tape, hb2.output, hb2.size, hb2.block⟩⟩
                case measure => simp [intOf]; omega
              · go_wp2_with fail
                refine (free_else B p y p q _ hL1 (fun h => hqy.out h.2)).mono ?_; rintro e w' ⟨rfl, rfl⟩
                go_wp2_with fail
                refine (by_any B true p q _ hL1).mono ?_; rintro e w' ⟨rfl, n, rfl⟩
                go_wp2_with fail
                go_roundw
                case rel => exact ⟨k + 1, true, p, q, by omega, by go_num, rfl, rfl, rfl, (fun h => nomatch h), LockAt.kept hL1 rfl, ⟨hb2.os, hb2.tape, hb2.output, hb2.size, hb2.block⟩⟩
                case measure => simp [intOf]; omega
              · go_wp2_with fail
                refine (by_any B true p q _ hL1).mono ?_; rintro e w' ⟨rfl, n, rfl⟩
                go_wp2_with fail
                go_roundw
                case rel => exact ⟨k + 1, true, p, q, by omega, by go_num, rfl, rfl, rfl, (fun h => nomatch h), LockAt.kept hL1 rfl, ⟨hb2.os, hb2.tape, hb2.output, hb2.size, hb2.block⟩⟩
                case measure => simp [intOf]; omega
          · have hpb : (p == x) = false := by simpa using hpx0
            have hpx := Lib.hid hpx0; clear hpx0
            rcases hZ with rfl | rfl | ⟨hz1, hz2⟩
            · go_wp2_with fail
              refine (ask_had_else B x y p q _ hL1 (fun h => hpx.out h.1)).mono ?_; rintro e w' ⟨rfl, rfl⟩
              go_wp2_with fail
              refine (by_any B true p q _ hL1).mono ?_; rintro e w' ⟨rfl, n, rfl⟩
              go_wp2_with fail
              go_roundw
              case rel => exact ⟨k + 1, true, p, q, by omega, by go_num, rfl, rfl, rfl, (fun h => nomatch h), LockAt.kept hL1 rfl, ⟨hb2.os, hb2.tape, hb2.output, hb2.size, hb2.block⟩⟩
              case measure => simp [intOf]; omega
            · go_wp2_with fail
              refine (free_else B x y p q _ hL1 (fun h => hpx.out h.1)).mono ?_; rintro e w' ⟨rfl, rfl⟩
              go_wp2_with fail
              refine (by_any B true p q _ hL1).mono ?_; rintro e w' ⟨rfl, n, rfl⟩
              go_wp2_with fail
              go_roundw
              case rel => exact ⟨k + 1, true, p, q, by omega, by go_num, rfl, rfl, rfl, (fun h => nomatch h), LockAt.kept hL1 rfl, ⟨hb2.os, hb2.tape, hb2.output, hb2.size, hb2.block⟩⟩
              case measure => simp [intOf]; omega
            · go_wp2_with fail
              refine (by_any B true p q _ hL1).mono ?_; rintro e w' ⟨rfl, n, rfl⟩
              go_wp2_with fail
              go_roundw
              case rel => exact ⟨k + 1, true, p, q, by omega, by go_num, rfl, rfl, rfl, (fun h => nomatch h), LockAt.kept hL1 rfl, ⟨hb2.os, hb2.tape, hb2.output, hb2.size, hb2.block⟩⟩
              case measure => simp [intOf]; omega
      · obtain rfl : k = len := by omega
        clear hk hb hn hb1 hBe hh
        go_wp2_with fail
        refine (by_nil _).mono ?_; rintro e w' ⟨rfl, rfl⟩
        go_wp2_with fail
        refine (ask_nil _ _ _).mono ?_; rintro e w' ⟨rfl, rfl⟩
        go_wp2_with fail
        refine (free_nil _ _ _).mono ?_; rintro e w' ⟨rfl, rfl⟩
        go_wp2_with fail
        go_ret
        exact ⟨rfl, hbw⟩
  · go_enter Try.func3, Try.ntmps3
    go_wp2_with (go_at_call 9; refine (lockAlive _).mono ?_; rintro e w1 ⟨rfl, hb1⟩)
    go_ret
    exact ⟨rfl, hb1⟩

set_option maxHeartbeats 400000 in
theorem plays_zero (a : Option Addr) (cap : Nat) (w : World) :
    Calls Try.prog 3 #[.slice a 0 cap] w fun e w' => e = .returned (.bool true) ∧ Below w.heap.size w w' := by
  go_enter Try.func3, Try.ntmps3
  go_wp2_with (go_at_call 9; refine (lockAlive _).mono ?_; rintro e w1 ⟨rfl, hb1⟩)
  have hB : w.heap.size ≤ w1.heap.size := hb1.size
  generalize hBe : w1.heap.size = B at *
  go_loopw [29] (fun i wr => i = .int .i64 0 ∧ Below w.heap.size w wr) (fun i _ => 0)
  case atStart => exact ⟨rfl, hb1.alloc hb1.size _⟩
  case round =>
    obtain ⟨rfl, hbw⟩ := hrel
    clear hb1 hBe
    go_wp2_with fail
    refine (by_nil _).mono ?_; rintro e w' ⟨rfl, rfl⟩
    go_wp2_with fail
    refine (ask_nil _ _ _).mono ?_; rintro e w' ⟨rfl, rfl⟩
    go_wp2_with fail
    refine (free_nil _ _ _).mono ?_; rintro e w' ⟨rfl, rfl⟩
    go_wp2_with fail
    go_ret
    exact ⟨rfl, hbw⟩

theorem opShp_n : opShp.n = 3 := rfl

theorem rds_ops {w : World} {cs : List Value} (h : Rd w opShp cs) : ∃ x : Int × Int × Int, cs = [.int .i64 x.1, .int .i64 x.2.1, .int .i64 x.2.2] := by
  unfold opShp Rd Rds at h
  obtain ⟨c1, r1, rfl, _, h1, h⟩ := h
  unfold Rds at h
  obtain ⟨c2, r2, rfl, _, h2, h⟩ := h
  unfold Rds at h
  obtain ⟨c3, r3, rfl, _, h3, h⟩ := h
  unfold Rds at h
  subst h
  unfold Rd at h1 h2 h3
  obtain ⟨n1, rfl, _⟩ := h1
  obtain ⟨n2, rfl, _⟩ := h2
  obtain ⟨n3, rfl, _⟩ := h3
  exact ⟨(n1, n2, n3), rfl⟩

theorem plays_all (v : Value) (w : World) (h : RdV w (.sl opShp) v) :
    Calls Try.prog 3 #[v] w fun e w' => e = .returned (.bool true) ∧ Below w.heap.size w w' := by
  rcases rd_slice h with rfl | ⟨a, len, cap, rfl, hl, hm, hi⟩
  · exact plays_zero none 0 w
  by_cases h0 : len = 0
  · subst h0
    exact plays_zero (some a) cap w
  obtain ⟨b, o, rfl, hlt⟩ := slice_base (by omega) (by rw [opShp_n]; decide) hi
  obtain ⟨zs, hz, hc⟩ := exists_list (P := fun i (x : Int × Int × Int) => w.cell? ⟨b, o + i * 3, none⟩ = some (.int .i64 x.1) ∧ w.cell? ⟨b, o + i * 3 + 1, none⟩ = some (.int .i64 x.2.1) ∧ w.cell? ⟨b, o + i * 3 + 2, none⟩ = some (.int .i64 x.2.2)) len (fun i h => by
    obtain ⟨cs, hn, hat, hr⟩ := hi i h
    obtain ⟨x, rfl⟩ := rds_ops hr
    rw [opShp_n] at hat
    refine ⟨x, ?_, ?_, ?_⟩
    · simpa [add_none] using hat 0 (by omega)
    · simpa [add_none, Nat.add_assoc] using hat 1 (by omega)
    · simpa [add_none, Nat.add_assoc] using hat 2 (by omega))
  have get : ∀ {i : Nat} (f : Int × Int × Int → Int) (h : i < zs.length), (zs.map f).getD i 0 = f zs[i] := fun f h => by
    rw [List.getD_eq_getElem?_getD, List.getElem?_map, List.getElem?_eq_getElem h]
    rfl
  exact plays_any (zs.map (·.1)) (zs.map (·.2.1)) (zs.map (·.2.2)) b o len cap w (by unfold maxLen at hm; omega)
    (fun i h => by rw [get _ (by omega)]; exact (hc i (by omega)).1) (fun i h => by rw [get _ (by omega)]; exact (hc i (by omega)).2.1) (fun i h => by rw [get _ (by omega)]; exact (hc i (by omega)).2.2) hlt

set_option maxRecDepth 100000 in
theorem lockPlays_lifted (os : Os) (started : os.Started) (H : Type) (enc : TypeId × Value → H) :
    ReturnsInHanded {} Try.checked os 3 .any (Rows.lockPlaysSpec.pre6 enc Try.prog Try.f3 Rows.lockPlaysRow.domain false) (Rows.lockPlaysSpec.post enc Try.prog Try.f3 false true false false) := by
  refine returnsInHanded_of_change (C := Try.checked) progOwn started (by kernel_rfl) Try.func3
    (ChangeSpec.witness6 (enc := enc) (C := Try.checked) false ⟨#[], #[.slice none 0 0], []⟩ 8 (by kernel_rfl) (by kernel_rfl) (by kernel_rfl) (by kernel_rfl)) ?_
  intro W base args ds gs before hval hW _ _
  refine law_post (P := Try.prog) (B := 4) (fun ds h => ?_) rfl rfl (by kernel_rfl) (by kernel_rfl) progLaid hW ?_
  · match ds, h with
    | [_], _ => rfl
  · obtain ⟨p, q, hA, _⟩ := hW
    have hR := rdAll_of_trod (P := Try.prog) [.sl opShp] (by kernel_rfl) rfl (fun j t v h1 h2 => hval j t v (by simpa using h1) (by simpa using h2)) hA
    obtain ⟨l⟩ := args
    obtain ⟨v, vs, rfl, h0, rfl⟩ := hR
    exact plays_all v W h0

theorem lockPlays_over : Rows.lockPlaysRow.holds Try.pinned (OpenSpec.ofChange Rows.lockPlaysSpec) :=
  OpenClaim.holds_of_wide 3 Try.f3 rfl rfl rfl rfl rfl rfl rfl ⟨rfl, rfl, rfl, rfl, rfl⟩ rfl rfl rfl rfl rfl (by kernel_rfl) Try.func3 (by kernel_rfl)
    (of_decide_eq_true (by kernel_rfl)) (by unfold Func.isWrapper; first | (rw [if_pos (by decide +kernel)]; kernel_rfl) | (rw [if_neg (by decide +kernel)]; exact ⟨rfl, rfl⟩))
    (fun os started H enc _ => lockPlays_lifted os started H enc)

theorem lockPlays_proved : Rows.LockPlaysSaid := lockPlays_over
end Go.Proofs.Ytcpbcggfbopobaa
