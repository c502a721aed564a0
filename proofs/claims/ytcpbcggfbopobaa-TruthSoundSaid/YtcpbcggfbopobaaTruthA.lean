/- Package truth: what take does to a map of texts. -/
import Derived.Test.YtcpbcggfbopobaaSeqRows
namespace Go.Proofs.Ytcpbcggfbopobaa
open Go.RowKit

theorem tyState : Try.prog.underlying 61 = some (.map 9 9) := by kernel_rfl
theorem tyString : Try.prog.underlying 9 = some .string := by kernel_rfl
theorem zeroString (w : World) : (zeroValue 9).run Try.prog w = .ok (.string ⟨#[]⟩) w := by kernel_rfl

set_option maxHeartbeats 1000000 in
theorem take_any (e : Ev) (b : Nat) (m : SMap) (w : World) (h : MapAt w b m) :
    Calls Try.prog 21 #[.map (some b), .agg e.cells.toArray] w fun x w' => x = .returned (.tuple #[]) ∧ MapAt w' b (evStep m e) ∧ Mod (· = b) w w' := by
  obtain ⟨step, node, guest, id, op, key, value, to, most, errno, tvalue, ia, il, ic, more, next, tnode⟩ := e
  have hal : Mod (· = b) w (w.alloc (.cells #[.int .i64 step, .int .i64 node, .int .i64 guest, .int .i64 id, .int .i64 op, .string key, .string value, .string to, .int .i64 most, .int .i64 errno, .string tvalue, .slice ia il ic, .bool more, .string next, .int .i64 tnode] 44)) := (Mod.refl _ _).alloc _
  have h1 : MapAt (w.alloc (.cells #[.int .i64 step, .int .i64 node, .int .i64 guest, .int .i64 id, .int .i64 op, .string key, .string value, .string to, .int .i64 most, .int .i64 errno, .string tvalue, .slice ia il ic, .bool more, .string next, .int .i64 tnode] 44)) b m := h.kept (Below.heap_alloc _ _ _ h.lt)
  by_cases he : errno = 0
  · subst he
    by_cases h2 : op = 2
    · subst h2
      have hst : evStep m ⟨step, node, guest, id, 2, key, value, to, most, 0, tvalue, ia, il, ic, more, next, tnode⟩ = m.put key value := rfl
      rw [hst]
      obtain ⟨w1, hrun, hm1, hmod⟩ := update_ss (P := Try.prog) tyState tyString h1 key value
      clear h1
      go_enter Try.func21, Try.ntmps21
      go_wp2
      go_end0
      exact ⟨rfl, hm1, hal.trans hmod⟩
    · by_cases h3 : op = 3
      · subst h3
        have hst : evStep m ⟨step, node, guest, id, 3, key, value, to, most, 0, tvalue, ia, il, ic, more, next, tnode⟩ = m.del key := rfl
        rw [hst]
        obtain ⟨w1, hrun, hm1, hmod⟩ := delete_ss (P := Try.prog) tyState tyString h1 key 9 0
        clear h1
        go_enter Try.func21, Try.ntmps21
        go_wp2
        go_end0
        exact ⟨rfl, hm1, hal.trans hmod⟩
      · have hst : evStep m ⟨step, node, guest, id, op, key, value, to, most, 0, tvalue, ia, il, ic, more, next, tnode⟩ = m := by simp [evStep, h2, h3]
        rw [hst]
        have e2 : (op == 2) = false := by simpa using h2
        have e3 : (op == 3) = false := by simpa using h3
        clear hst h2 h3
        go_enter Try.func21, Try.ntmps21
        go_wp2
        go_end0
        exact ⟨rfl, h1, hal⟩
  · have hst : evStep m ⟨step, node, guest, id, op, key, value, to, most, errno, tvalue, ia, il, ic, more, next, tnode⟩ = m := by simp [evStep, he]
    rw [hst]
    have e2 : (errno != 0) = true := by simpa using he
    clear hst he
    go_enter Try.func21, Try.ntmps21
    go_wp2
    refine bodyPost_ret (results_none rfl _ _ _) rfl ?_
    exact ⟨rfl, h1, hal⟩
end Go.Proofs.Ytcpbcggfbopobaa
