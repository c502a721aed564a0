/-
  No cell of these rows narrows 'for every input' (looked for: loops, veiled, ifaces, maps, wideKeys, modest, calm, conditions, laid).
  DERIVED. THE GIVEN ROWS OF THIS SEAT. 6 by the template 'for every input the law returns true; each argument reads behind the call as it read before'; 0 by the template 'total and deterministic' (their statements: YtcpbcggfbopobaaTotals.lean).
  GIVEN WITH THE SEED: the statements are not yours to turn. If you find one false, say at which input.
  Laid BY PROGRAM, IN A SANDBOX (cutbox-rows.mjs): the forced cells as the released guide's own fill.sh prints them over the translation 4ccaa70e00294e3d… (all of the seat's roots in one cut). By AI agents, Wed Nov 11 2026. No macro, syntax, notation, axiom, sorry.
-/
import Derived.Test.YtcpbcggfbopobaaChecked
import GoSem.Claim
import GoSem.ClaimJoined
import GoSem.ClaimMapViews
import Derived.JoinedTies
import Derived.KernelRfl
namespace Go.Proofs.Ytcpbcggfbopobaa
/- THE CELL 'sum', in the pinned program and in every row, IS THE sha256 OF THE DUMP (.gsa) THAT YtcpbcggfbopobaaProg.lean LOADS. Nothing in Lean hashes anything: it is a label: what it is worth is what the hold of that sum in a sandbox is worth. -/
noncomputable def Try.pinned : Pinned := { name := "ytcpbcggfbopobaa", sum := "4ccaa70e00294e3ddb385e5bcb1af301bbb3df93e5d3e946bf73bcac9b462574", checked := Try.checked }
namespace Rows
def none {H : Type} : Left H := { results := [], args := [] }

/-- 'rosarylaw17.LockPlays': WHATEVER THE INPUT: true; the input reads as it did. -/
def lockPlaysSpec : ChangeSpec := { name := "lockPlays", fn := fun _ => fun
  | [d] => { results := [.lit (.bool true)], args := [d] }
  | _ => none }
def lockPlaysRow : OpenClaim := { program := "ytcpbcggfbopobaa", sum := "4ccaa70e00294e3ddb385e5bcb1af301bbb3df93e5d3e946bf73bcac9b462574", func := "rosary/rosarylaw17.LockPlays", spec := "lockPlays", apart := false }
def LockPlaysSaid : Prop := lockPlaysRow.holds Try.pinned (OpenSpec.ofChange lockPlaysSpec)

/-- ITS FALSE NEIGHBOUR: 'it returns false'. Refute it at one input. -/
def lockPlaysWrong : ChangeSpec := { name := "lockPlays", fn := fun _ => fun
  | [d] => { results := [.lit (.bool false)], args := [d] }
  | _ => none }
def LockPlaysWrongFalsely : Prop := lockPlaysRow.holds Try.pinned (OpenSpec.ofChange lockPlaysWrong)

/-- 'rosarylaw17.LockTurns': WHATEVER THE INPUT: true; the input reads as it did. -/
def lockTurnsSpec : ChangeSpec := { name := "lockTurns", fn := fun _ => fun
  | [d] => { results := [.lit (.bool true)], args := [d] }
  | _ => none }
def lockTurnsRow : OpenClaim := { program := "ytcpbcggfbopobaa", sum := "4ccaa70e00294e3ddb385e5bcb1af301bbb3df93e5d3e946bf73bcac9b462574", func := "rosary/rosarylaw17.LockTurns", spec := "lockTurns", apart := false }
def LockTurnsSaid : Prop := lockTurnsRow.holds Try.pinned (OpenSpec.ofChange lockTurnsSpec)

/-- ITS FALSE NEIGHBOUR: 'it returns false'. Refute it at one input. -/
def lockTurnsWrong : ChangeSpec := { name := "lockTurns", fn := fun _ => fun
  | [d] => { results := [.lit (.bool false)], args := [d] }
  | _ => none }
def LockTurnsWrongFalsely : Prop := lockTurnsRow.holds Try.pinned (OpenSpec.ofChange lockTurnsWrong)

/-- 'rosarylaw24.TruthOrder': WHATEVER THE INPUT: true; the input reads as it did. -/
def truthOrderSpec : ChangeSpec := { name := "truthOrder", fn := fun _ => fun
  | [d1, d2] => { results := [.lit (.bool true)], args := [d1, d2] }
  | _ => none }
def truthOrderRow : OpenClaim := { program := "ytcpbcggfbopobaa", sum := "4ccaa70e00294e3ddb385e5bcb1af301bbb3df93e5d3e946bf73bcac9b462574", func := "rosary/rosarylaw24.TruthOrder", spec := "truthOrder", unfollowed := true, recurses := true, apart := false }
def TruthOrderSaid : Prop := truthOrderRow.holds Try.pinned (OpenSpec.ofChange truthOrderSpec)

/-- ITS FALSE NEIGHBOUR: 'it returns false'. Refute it at one input. -/
def truthOrderWrong : ChangeSpec := { name := "truthOrder", fn := fun _ => fun
  | [d1, d2] => { results := [.lit (.bool false)], args := [d1, d2] }
  | _ => none }
def TruthOrderWrongFalsely : Prop := truthOrderRow.holds Try.pinned (OpenSpec.ofChange truthOrderWrong)

/-- 'rosarylaw24.TruthSound': WHATEVER THE INPUT: true; the input reads as it did. -/
def truthSoundSpec : ChangeSpec := { name := "truthSound", fn := fun _ => fun
  | [d1, d2] => { results := [.lit (.bool true)], args := [d1, d2] }
  | _ => none }
def truthSoundRow : OpenClaim := { program := "ytcpbcggfbopobaa", sum := "4ccaa70e00294e3ddb385e5bcb1af301bbb3df93e5d3e946bf73bcac9b462574", func := "rosary/rosarylaw24.TruthSound", spec := "truthSound", unfollowed := true, recurses := true, apart := false }
def TruthSoundSaid : Prop := truthSoundRow.holds Try.pinned (OpenSpec.ofChange truthSoundSpec)

/-- ITS FALSE NEIGHBOUR: 'it returns false'. Refute it at one input. -/
def truthSoundWrong : ChangeSpec := { name := "truthSound", fn := fun _ => fun
  | [d1, d2] => { results := [.lit (.bool false)], args := [d1, d2] }
  | _ => none }
def TruthSoundWrongFalsely : Prop := truthSoundRow.holds Try.pinned (OpenSpec.ofChange truthSoundWrong)

/-- 'rosarylaw24.TruthSteps': WHATEVER THE INPUT: true; the input reads as it did. -/
def truthStepsSpec : ChangeSpec := { name := "truthSteps", fn := fun _ => fun
  | [d1, d2] => { results := [.lit (.bool true)], args := [d1, d2] }
  | _ => none }
def truthStepsRow : OpenClaim := { program := "ytcpbcggfbopobaa", sum := "4ccaa70e00294e3ddb385e5bcb1af301bbb3df93e5d3e946bf73bcac9b462574", func := "rosary/rosarylaw24.TruthSteps", spec := "truthSteps", unfollowed := true, recurses := true, apart := false }
def TruthStepsSaid : Prop := truthStepsRow.holds Try.pinned (OpenSpec.ofChange truthStepsSpec)

/-- ITS FALSE NEIGHBOUR: 'it returns false'. Refute it at one input. -/
def truthStepsWrong : ChangeSpec := { name := "truthSteps", fn := fun _ => fun
  | [d1, d2] => { results := [.lit (.bool false)], args := [d1, d2] }
  | _ => none }
def TruthStepsWrongFalsely : Prop := truthStepsRow.holds Try.pinned (OpenSpec.ofChange truthStepsWrong)

/-- 'rosarylaw24.TruthHolds': WHATEVER THE INPUT: true; the input reads as it did. -/
def truthHoldsSpec : ChangeSpec := { name := "truthHolds", fn := fun _ => fun
  | [d1, d2, d3, d4, d5, d6] => { results := [.lit (.bool true)], args := [d1, d2, d3, d4, d5, d6] }
  | _ => none }
def truthHoldsRow : OpenClaim := { program := "ytcpbcggfbopobaa", sum := "4ccaa70e00294e3ddb385e5bcb1af301bbb3df93e5d3e946bf73bcac9b462574", func := "rosary/rosarylaw24.TruthHolds", spec := "truthHolds", unfollowed := true, recurses := true, apart := false }
def TruthHoldsSaid : Prop := truthHoldsRow.holds Try.pinned (OpenSpec.ofChange truthHoldsSpec)

/-- ITS FALSE NEIGHBOUR: 'it returns false'. Refute it at one input. -/
def truthHoldsWrong : ChangeSpec := { name := "truthHolds", fn := fun _ => fun
  | [d1, d2, d3, d4, d5, d6] => { results := [.lit (.bool false)], args := [d1, d2, d3, d4, d5, d6] }
  | _ => none }
def TruthHoldsWrongFalsely : Prop := truthHoldsRow.holds Try.pinned (OpenSpec.ofChange truthHoldsWrong)

/- THE SECOND FORM. 'bulk': how many values and letters a reading holds, each counted each time it is reached (what is shared counts as often as it is met; a slice's spare places count too). A statement '..UptoSaid' is the law's where the arguments, and the package variables that the reading takes, are together of bulk at most 1048576: NARROWER than '..Said'. Prove '..Said' where nothing that the law and all that it calls make is longer than what came in: it says more and counts as full. Else prove '..UptoSaid'. A law counts once. -/
mutual
def uptoBulk {H : Type} : DataW H → Nat
  | .lit (.string bytes) => bytes.length + 1
  | .lit _ => 1
  | .nil => 1
  | .ptr d => uptoBulk d + 1
  | .slice elems spare => uptoBulkAll elems + uptoBulkAll spare + 1
  | .agg parts => uptoBulkAll parts + 1
  | .iface _ d => uptoBulk d + 1
  | .map entries => uptoBulkEntries entries + 1
  | .held _ => 1
def uptoBulkAll {H : Type} : List (DataW H) → Nat
  | [] => 0
  | d :: r => uptoBulk d + uptoBulkAll r
def uptoBulkEntries {H : Type} : List (Lit × DataW H) → Nat
  | [] => 0
  | x :: r => uptoBulkEntry x + uptoBulkEntries r
def uptoBulkEntry {H : Type} : Lit × DataW H → Nat
  | (.string bytes, d) => bytes.length + uptoBulk d + 1
  | (_, d) => uptoBulk d + 1
 end
def uptoSmall : (H : Type) → List (DataW H) → Bool := fun _ ds => decide (uptoBulkAll ds ≤ 1048576)
def OpenSpec.upto (s : _root_.Go.ChangeSpec) : _root_.Go.OpenSpec := { _root_.Go.OpenSpec.ofChange s with cond := some uptoSmall }

/-- 'rosarylaw17.LockPlays', WHERE WHAT IT READS IS OF BULK AT MOST 1048576: true; the input reads as it did. -/
def lockPlaysUptoRow : OpenClaim := { program := "ytcpbcggfbopobaa", sum := "4ccaa70e00294e3ddb385e5bcb1af301bbb3df93e5d3e946bf73bcac9b462574", func := "rosary/rosarylaw17.LockPlays", spec := "lockPlays", apart := false, narrowed := true }
def LockPlaysUptoSaid : Prop := lockPlaysUptoRow.holds Try.pinned (OpenSpec.upto lockPlaysSpec)

/-- 'rosarylaw17.LockTurns', WHERE WHAT IT READS IS OF BULK AT MOST 1048576: true; the input reads as it did. -/
def lockTurnsUptoRow : OpenClaim := { program := "ytcpbcggfbopobaa", sum := "4ccaa70e00294e3ddb385e5bcb1af301bbb3df93e5d3e946bf73bcac9b462574", func := "rosary/rosarylaw17.LockTurns", spec := "lockTurns", apart := false, narrowed := true }
def LockTurnsUptoSaid : Prop := lockTurnsUptoRow.holds Try.pinned (OpenSpec.upto lockTurnsSpec)

/-- 'rosarylaw24.TruthOrder', WHERE WHAT IT READS IS OF BULK AT MOST 1048576: true; the input reads as it did. -/
def truthOrderUptoRow : OpenClaim := { program := "ytcpbcggfbopobaa", sum := "4ccaa70e00294e3ddb385e5bcb1af301bbb3df93e5d3e946bf73bcac9b462574", func := "rosary/rosarylaw24.TruthOrder", spec := "truthOrder", unfollowed := true, recurses := true, apart := false, narrowed := true }
def TruthOrderUptoSaid : Prop := truthOrderUptoRow.holds Try.pinned (OpenSpec.upto truthOrderSpec)

/-- 'rosarylaw24.TruthSound', WHERE WHAT IT READS IS OF BULK AT MOST 1048576: true; the input reads as it did. -/
def truthSoundUptoRow : OpenClaim := { program := "ytcpbcggfbopobaa", sum := "4ccaa70e00294e3ddb385e5bcb1af301bbb3df93e5d3e946bf73bcac9b462574", func := "rosary/rosarylaw24.TruthSound", spec := "truthSound", unfollowed := true, recurses := true, apart := false, narrowed := true }
def TruthSoundUptoSaid : Prop := truthSoundUptoRow.holds Try.pinned (OpenSpec.upto truthSoundSpec)

/-- 'rosarylaw24.TruthSteps', WHERE WHAT IT READS IS OF BULK AT MOST 1048576: true; the input reads as it did. -/
def truthStepsUptoRow : OpenClaim := { program := "ytcpbcggfbopobaa", sum := "4ccaa70e00294e3ddb385e5bcb1af301bbb3df93e5d3e946bf73bcac9b462574", func := "rosary/rosarylaw24.TruthSteps", spec := "truthSteps", unfollowed := true, recurses := true, apart := false, narrowed := true }
def TruthStepsUptoSaid : Prop := truthStepsUptoRow.holds Try.pinned (OpenSpec.upto truthStepsSpec)

/-- 'rosarylaw24.TruthHolds', WHERE WHAT IT READS IS OF BULK AT MOST 1048576: true; the input reads as it did. -/
def truthHoldsUptoRow : OpenClaim := { program := "ytcpbcggfbopobaa", sum := "4ccaa70e00294e3ddb385e5bcb1af301bbb3df93e5d3e946bf73bcac9b462574", func := "rosary/rosarylaw24.TruthHolds", spec := "truthHolds", unfollowed := true, recurses := true, apart := false, narrowed := true }
def TruthHoldsUptoSaid : Prop := truthHoldsUptoRow.holds Try.pinned (OpenSpec.upto truthHoldsSpec)

end Rows
end Go.Proofs.Ytcpbcggfbopobaa
