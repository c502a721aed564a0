/- Package truth: sound: is an event what there is says (of all but a scan that was answered). -/
import Derived.Test.YtcpbcggfbopobaaTruthG
namespace Go.Proofs.Ytcpbcggfbopobaa
open Go.RowKit Go.Proofs

def nothB (e : Int) : Bool := e == 8 || e == 7 || e == 1 || e == 3 || e == 4 || e == 5

theorem nothing_any (n : Int) (w : World) : Calls Try.prog 28 #[.int .i64 n] w fun e w' => e = .returned (.bool (nothB n)) ∧ w = w' := by
  go_enter Try.func28, Try.ntmps28
  go_wp2
  all_goals go_ret
  all_goals exact ⟨by simp [nothB, *], rfl⟩

/-- is an event what the map says? (of all but a scan that was answered): 'is', 'v': what the map has -/
def soundV (is : Bool) (v : ByteArray) (op errno : Int) (tv : ByteArray) : Bool :=
  if nothB errno then true
  else if op = 1 ∧ errno = 0 then (is && v.toList == tv.toList)
  else if op = 3 ∧ errno = 0 then is
  else if op = 1 ∨ op = 3 then (errno == 6 && !is)
  else if op = 2 then errno != 6
  else false
def soundE (m : SMap) (e : Ev) : Bool := soundV (m.get e.key).isSome ((m.get e.key).getD ⟨#[]⟩) e.op e.errno e.tvalue

set_option maxHeartbeats 1000000 in
theorem sound_any (e : Ev) (b : Nat) (m : SMap) (w : World) (h : MapAt w b m) (hscan : ¬ e.op = 4) :
    Calls Try.prog 23 #[.map (some b), .agg e.cells.toArray] w fun x w' => x = .returned (.bool (soundE m e)) ∧ Mod NoB w w' := by
  obtain ⟨step, node, guest, id, op, key, value, to, most, errno, tvalue, ia, il, ic, more, next, tnode⟩ := e
  have h1 : MapAt (w.alloc (.cells #[.int .i64 step, .int .i64 node, .int .i64 guest, .int .i64 id, .int .i64 op, .string key, .string value, .string to, .int .i64 most, .int .i64 errno, .string tvalue, .slice ia il ic, .bool more, .string next, .int .i64 tnode] 44)) b m := h.kept (Below.heap_alloc _ _ _ h.lt)
  have hlk := lookup_ss (P := Try.prog) tyState tyString h1 (zeroString _) key
  have h4 : (op == 4) = false := by simpa using hscan
  clear h1 h hscan
  show Calls _ _ _ _ fun x w' => x = .returned (.bool (soundV (m.get key).isSome ((m.get key).getD ⟨#[]⟩) op errno tvalue)) ∧ Mod NoB w w'
  generalize (m.get key).getD ⟨#[]⟩ = v at *
  generalize (m.get key).isSome = is at *
  go_enter Try.func23, Try.ntmps23
  go_wp2_with fail
  refine (nothing_any _ _).mono ?_; rintro x w' ⟨rfl, rfl⟩
  go_wp2_with fail
  all_goals go_ret
  all_goals refine ⟨?_, ((Mod.refl _ _).alloc _).alloc _⟩
  all_goals clear hlk
  all_goals simp only [beq_iff_eq, beq_eq_false_iff_ne, ne_eq] at *
  all_goals simp_all [soundV, nothB]
end Go.Proofs.Ytcpbcggfbopobaa
