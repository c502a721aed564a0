/- LockTurns: movers that take turns each get the lock; for every slice of ints, nil too; no condition. -/
import Derived.Test.YtcpbcggfbopobaaRows
import Derived.Test.YtcpbcggfbopobaaFrame
import Derived.Test.YtcpbcggfbopobaaLockLaw
namespace Go.Proofs.Ytcpbcggfbopobaa
open Go.ChangeShapes Go.WideShapes Go.ChangeAt Go.RowKit

theorem wrap_succ_ne (x : Int) (h : wrap64 (x + 1) = x) : False := by
  unfold wrap64 at h; omega

set_option maxHeartbeats 1000000 in
theorem turns_any (zs : List Int) (ab ao : Nat) (len cap : Nat) (w : World) (hl : len ≤ zs.length) (hlen : len ≤ 9223372036854775807)
    (hc : ∀ i, i < len → w.cell? ⟨ab, ao + i, none⟩ = some (.int .i64 (zs.getD i 0))) (ha : ab < w.heap.size) :
    Calls Try.prog 4 #[.slice (some ⟨ab, ao, none⟩) len cap] w fun e w' => e = .returned (.bool true) ∧ Below w.heap.size w w' := by
  by_cases hs : len ≤ 60
  · go_enter Try.func4, Try.ntmps4
    go_wp2_with (go_at_call 9; refine (lockAlive _).mono ?_; rintro e w1 ⟨rfl, hb1⟩)
    have hB : w.heap.size ≤ w1.heap.size := hb1.size
    generalize hBe : w1.heap.size = B at *
    go_loopw [21] (fun i wr => ∃ k : Nat, k ≤ len ∧ i = .int .i64 k ∧ LockAt wr B false 0 0 ∧ Below w.heap.size w wr) (fun i _ => len - (intOf i).toNat)
    case atStart => exact ⟨0, Nat.zero_le _, rfl, by subst hBe; constructor <;> simp [go_sem], hb1.alloc hb1.size _⟩
    case round =>
      obtain ⟨k, hk, rfl, hL, hbw⟩ := hrel
      by_cases hlt : k < len
      · have hcell : wr.cell? ⟨ab, ao + k, none⟩ = some (.int .i64 (zs.getD k 0)) := by
          rw [hbw.cell (p := ⟨ab, ao + k, none⟩) ha]; exact hc k hlt
        clear hc hb1 hBe
        generalize hz : zs.getD k 0 = z at *
        have Hz := Lib.hid hz; clear hz
        have L1 := hL.set true z k
        have L2 := L1.set false 0 0
        have b1 := below_set hbw hB true z k
        have b2 := below_set b1 hB false 0 0
        go_wp2_with fail
        refine (ask_free B z k 0 0 _ hL).mono ?_; rintro e w' ⟨rfl, rfl⟩
        go_wp2_with fail
        refine (ask_had_else B z (k+1) z k _ L1 (by omega)).mono ?_; rintro e w' ⟨rfl, rfl⟩
        go_wp2_with fail
        refine (ask_had_else B _ k z k _ L1 (fun h => wrap_succ_ne _ h.1.symm)).mono ?_; rintro e w' ⟨rfl, rfl⟩
        go_wp2_with fail
        refine (free_else B _ k z k _ L1 (fun h => wrap_succ_ne _ h.1.symm)).mono ?_; rintro e w' ⟨rfl, rfl⟩
        go_wp2_with fail
        refine (ask_had_same B z k _ L1).mono ?_; rintro e w' ⟨rfl, rfl⟩
        go_wp2_with fail
        refine (free_had B z k _ L1).mono ?_; rintro e w' ⟨rfl, rfl⟩
        go_wp2_with fail
        refine (free_free B z k 0 0 _ L2).mono ?_; rintro e w' ⟨rfl, rfl⟩
        go_wp2_with fail
        go_roundw
        case rel => exact ⟨k + 1, by omega, by go_num, L2, b2⟩
        case measure => simp [intOf]; omega
      · obtain rfl : k = len := by omega
        clear hc hb1 hBe
        go_wp2_with fail
        refine (by_any B false 0 0 _ hL).mono ?_; rintro e w' ⟨rfl, n, rfl⟩
        go_wp2_with fail
        go_ret
        exact ⟨rfl, by have := hbw; exact ⟨this.os, this.tape, this.output, this.size, this.block⟩⟩
  · go_enter Try.func4, Try.ntmps4
    go_wp2_with (go_at_call 9; refine (lockAlive _).mono ?_; rintro e w1 ⟨rfl, hb1⟩)
    go_ret
    exact ⟨rfl, hb1⟩

set_option maxHeartbeats 400000 in
theorem turns_zero (a : Option Addr) (cap : Nat) (w : World) :
    Calls Try.prog 4 #[.slice a 0 cap] w fun e w' => e = .returned (.bool true) ∧ Below w.heap.size w w' := by
  go_enter Try.func4, Try.ntmps4
  go_wp2_with (go_at_call 9; refine (lockAlive _).mono ?_; rintro e w1 ⟨rfl, hb1⟩)
  have hB : w.heap.size ≤ w1.heap.size := hb1.size
  generalize hBe : w1.heap.size = B at *
  go_loopw [21] (fun i wr => i = .int .i64 0 ∧ LockAt wr B false 0 0 ∧ Below w.heap.size w wr) (fun i _ => 0)
  case atStart => exact ⟨rfl, by subst hBe; constructor <;> simp [go_sem], hb1.alloc hb1.size _⟩
  case round =>
    obtain ⟨rfl, hL, hbw⟩ := hrel
    clear hb1 hBe
    go_wp2_with fail
    refine (by_any B false 0 0 _ hL).mono ?_; rintro e w' ⟨rfl, n, rfl⟩
    go_wp2_with fail
    go_ret
    exact ⟨rfl, by have := hbw; exact ⟨this.os, this.tape, this.output, this.size, this.block⟩⟩

theorem turns_all (v : Value) (w : World) (h : RdV w (.sl (.i .i64)) v) :
    Calls Try.prog 4 #[v] w fun e w' => e = .returned (.bool true) ∧ Below w.heap.size w w' := by
  rcases rd_slice h with rfl | ⟨a, len, cap, rfl, hl, hm, hi⟩
  · exact turns_zero none 0 w
  by_cases h0 : len = 0
  · subst h0
    exact turns_zero (some a) cap w
  obtain ⟨b, o, rfl, hlt⟩ := slice_base (by omega) (by decide) hi
  obtain ⟨zs, hz, hc⟩ := exists_list (P := fun i n => w.cell? ⟨b, o + i, none⟩ = some (.int .i64 n)) len (fun i h => by
    obtain ⟨cs, hn, hat, hr⟩ := hi i h
    unfold Rd at hr
    obtain ⟨n, rfl, _⟩ := hr
    exact ⟨n, by simpa [add_none, Shp.n] using hat 0 (by decide)⟩)
  exact turns_any zs b o len cap w (by omega) (by unfold maxLen at hm; omega) (fun i h => by
    rw [List.getD_eq_getElem?_getD, List.getElem?_eq_getElem (by omega)]
    exact hc i (by omega)) hlt

set_option maxRecDepth 100000 in
theorem lockTurns_lifted (os : Os) (started : os.Started) (H : Type) (enc : TypeId × Value → H) :
    ReturnsInHanded {} Try.checked os 4 .any (Rows.lockTurnsSpec.pre6 enc Try.prog Try.f4 Rows.lockTurnsRow.domain false) (Rows.lockTurnsSpec.post enc Try.prog Try.f4 false true false false) := by
  refine returnsInHanded_of_change (C := Try.checked) progOwn started (by kernel_rfl) Try.func4
    (ChangeSpec.witness6 (enc := enc) (C := Try.checked) false ⟨#[], #[.slice none 0 0], []⟩ 8 (by kernel_rfl) (by kernel_rfl) (by kernel_rfl) (by kernel_rfl)) ?_
  intro W base args ds gs before hval hW _ _
  refine law_post (P := Try.prog) (B := 4) (fun ds h => ?_) rfl rfl (by kernel_rfl) (by kernel_rfl) progLaid hW ?_
  · match ds, h with
    | [_], _ => rfl
  · obtain ⟨p, q, hA, _⟩ := hW
    have hR := rdAll_of_trod (P := Try.prog) [.sl (.i .i64)] (by kernel_rfl) rfl (fun j t v h1 h2 => hval j t v (by simpa using h1) (by simpa using h2)) hA
    obtain ⟨l⟩ := args
    obtain ⟨v, vs, rfl, h0, rfl⟩ := hR
    exact turns_all v W h0

theorem lockTurns_over : Rows.lockTurnsRow.holds Try.pinned (OpenSpec.ofChange Rows.lockTurnsSpec) :=
  OpenClaim.holds_of_wide 4 Try.f4 rfl rfl rfl rfl rfl rfl rfl ⟨rfl, rfl, rfl, rfl, rfl⟩ rfl rfl rfl rfl rfl (by kernel_rfl) Try.func4 (by kernel_rfl)
    (of_decide_eq_true (by kernel_rfl)) (by unfold Func.isWrapper; first | (rw [if_pos (by decide +kernel)]; kernel_rfl) | (rw [if_neg (by decide +kernel)]; exact ⟨rfl, rfl⟩))
    (fun os started H enc _ => lockTurns_lifted os started H enc)

theorem lockTurns_proved : Rows.LockTurnsSaid := lockTurns_over
end Go.Proofs.Ytcpbcggfbopobaa
