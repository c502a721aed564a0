/-
  NARROWER THAN 'FOR EVERY INPUT', by the rows' own cells (each row's printed sentence says how): HoldSees: laid · HoldScans: laid · HoldTwo: laid · HoldShut: laid · HoldGives: laid · HoldKeeps: laid · HoldArcs: laid · HoldPoints: laid.
  DERIVED. THE GIVEN ROWS OF THIS SEAT. 8 by the template 'for every input the law returns true; each argument reads behind the call as it read before'; 0 by the template 'total and deterministic' (their statements: YtmagddchjidamaaGreatDoorTotals.lean).
  GIVEN WITH THE SEED: the statements are not yours to turn. If you find one false, say at which input.
  Laid BY PROGRAM, IN A SANDBOX (cutbox-rows.mjs): the forced cells as the released guide's own fill.sh prints them over the translation 4c5156fb37787e9c… (all of the seat's roots in one cut). By AI agents, Wed Nov 11 2026. No macro, syntax, notation, axiom, sorry.
-/
import Derived.Test.YtmagddchjidamaaGreatDoorChecked
import GoSem.PinnedTables
import GoSem.Claim
import GoSem.ClaimJoined
import GoSem.ClaimMapViews
import Derived.JoinedTies
import Derived.KernelRfl
namespace Go.Proofs.YtmagddchjidamaaGreatDoor
/- THE CELL 'sum', in the pinned program and in every row, IS THE sha256 OF THE DUMP (.gsa) THAT YtmagddchjidamaaGreatDoorProg.lean LOADS. Nothing in Lean hashes anything: it is a label: what it is worth is what the hold of that sum in a sandbox is worth. -/
noncomputable def Tryz.pinned : Pinned := { name := "ytmagddchjidamaagreatdoor", sum := "4c5156fb37787e9ccefb4b8549ef10e193f910b96020428bb4b11bb979bb4ab2", checked := Tryz.checked }
namespace Rows
def none {H : Type} : Left H := { results := [], args := [] }

/- WHAT THE LISTED PACKAGE-LEVEL VARIABLES READ AS WHEN THE CALL BEGINS. Each datum BY PROGRAM (the guide's laid-datum.mjs) off the statement by which the dump's own 'gosem.cut.vars' lays the variable. In a bare row this is a premise. The card (YtmagddchjidamaaGreatDoorCards.lean) ties it to the program's text. -/
def laid_unicode_utf8_acceptRanges {H : Type} : DataW H := .agg [.agg [.lit (.int .u8 128), .lit (.int .u8 191)], .agg [.lit (.int .u8 160), .lit (.int .u8 191)], .agg [.lit (.int .u8 128), .lit (.int .u8 159)], .agg [.lit (.int .u8 144), .lit (.int .u8 191)], .agg [.lit (.int .u8 128), .lit (.int .u8 143)], .agg [.lit (.int .u8 0), .lit (.int .u8 0)], .agg [.lit (.int .u8 0), .lit (.int .u8 0)], .agg [.lit (.int .u8 0), .lit (.int .u8 0)], .agg [.lit (.int .u8 0), .lit (.int .u8 0)], .agg [.lit (.int .u8 0), .lit (.int .u8 0)], .agg [.lit (.int .u8 0), .lit (.int .u8 0)], .agg [.lit (.int .u8 0), .lit (.int .u8 0)], .agg [.lit (.int .u8 0), .lit (.int .u8 0)], .agg [.lit (.int .u8 0), .lit (.int .u8 0)], .agg [.lit (.int .u8 0), .lit (.int .u8 0)], .agg [.lit (.int .u8 0), .lit (.int .u8 0)]]
/-- One of Go's own tables, pinned by name: the form's constant. -/
def laid_unicode_utf8_first : DataW Unit := Go.Pinned.utf8First

/-- 'rosarylaw14.HoldSees': WHATEVER THE INPUT: true; the input reads as it did. -/
def holdSeesSpec : ChangeSpec := { name := "holdSees", fn := fun _ => fun
  | [d] => { results := [.lit (.bool true)], args := [d] }
  | _ => none }
def holdSeesRow : OpenClaim := { program := "ytmagddchjidamaagreatdoor", sum := "4c5156fb37787e9ccefb4b8549ef10e193f910b96020428bb4b11bb979bb4ab2", func := "rosary/rosarylaw14.HoldSees", spec := "holdSees", inPlace := ["slices.overlaps[rosary/api.Item]", "slices.overlaps[*rosary/shelf.node]", "internal/bytealg.IndexByteString", "internal/bytealg.IndexString"], unfollowed := true, recurses := true, named := ["unicode/utf8.first", "unicode/utf8.acceptRanges", "internal/bytealg.MaxLen"], apart := false, laid := [("unicode/utf8.acceptRanges", laid_unicode_utf8_acceptRanges), ("unicode/utf8.first", laid_unicode_utf8_first)] }
def HoldSeesSaid : Prop := holdSeesRow.holds Tryz.pinned (OpenSpec.ofChange holdSeesSpec)

/-- ITS FALSE NEIGHBOUR: 'it returns false'. Refute it at one input. -/
def holdSeesWrong : ChangeSpec := { name := "holdSees", fn := fun _ => fun
  | [d] => { results := [.lit (.bool false)], args := [d] }
  | _ => none }
def HoldSeesWrongFalsely : Prop := holdSeesRow.holds Tryz.pinned (OpenSpec.ofChange holdSeesWrong)

/-- 'rosarylaw14.HoldScans': WHATEVER THE INPUT: true; the input reads as it did. -/
def holdScansSpec : ChangeSpec := { name := "holdScans", fn := fun _ => fun
  | [d1, d2, d3, d4, d5] => { results := [.lit (.bool true)], args := [d1, d2, d3, d4, d5] }
  | _ => none }
def holdScansRow : OpenClaim := { program := "ytmagddchjidamaagreatdoor", sum := "4c5156fb37787e9ccefb4b8549ef10e193f910b96020428bb4b11bb979bb4ab2", func := "rosary/rosarylaw14.HoldScans", spec := "holdScans", inPlace := ["slices.overlaps[rosary/api.Item]", "slices.overlaps[*rosary/shelf.node]", "internal/bytealg.IndexByteString", "internal/bytealg.IndexString"], unfollowed := true, recurses := true, named := ["unicode/utf8.first", "unicode/utf8.acceptRanges", "internal/bytealg.MaxLen"], apart := false, laid := [("unicode/utf8.acceptRanges", laid_unicode_utf8_acceptRanges), ("unicode/utf8.first", laid_unicode_utf8_first)] }
def HoldScansSaid : Prop := holdScansRow.holds Tryz.pinned (OpenSpec.ofChange holdScansSpec)

/-- ITS FALSE NEIGHBOUR: 'it returns false'. Refute it at one input. -/
def holdScansWrong : ChangeSpec := { name := "holdScans", fn := fun _ => fun
  | [d1, d2, d3, d4, d5] => { results := [.lit (.bool false)], args := [d1, d2, d3, d4, d5] }
  | _ => none }
def HoldScansWrongFalsely : Prop := holdScansRow.holds Tryz.pinned (OpenSpec.ofChange holdScansWrong)

/-- 'rosarylaw14.HoldTwo': WHATEVER THE INPUT: true; the input reads as it did. -/
def holdTwoSpec : ChangeSpec := { name := "holdTwo", fn := fun _ => fun
  | [d1, d2, d3] => { results := [.lit (.bool true)], args := [d1, d2, d3] }
  | _ => none }
def holdTwoRow : OpenClaim := { program := "ytmagddchjidamaagreatdoor", sum := "4c5156fb37787e9ccefb4b8549ef10e193f910b96020428bb4b11bb979bb4ab2", func := "rosary/rosarylaw14.HoldTwo", spec := "holdTwo", inPlace := ["slices.overlaps[rosary/api.Item]", "slices.overlaps[*rosary/shelf.node]", "internal/bytealg.IndexByteString", "internal/bytealg.IndexString"], unfollowed := true, recurses := true, named := ["unicode/utf8.first", "unicode/utf8.acceptRanges", "internal/bytealg.MaxLen"], apart := false, laid := [("unicode/utf8.acceptRanges", laid_unicode_utf8_acceptRanges), ("unicode/utf8.first", laid_unicode_utf8_first)] }
def HoldTwoSaid : Prop := holdTwoRow.holds Tryz.pinned (OpenSpec.ofChange holdTwoSpec)

/-- ITS FALSE NEIGHBOUR: 'it returns false'. Refute it at one input. -/
def holdTwoWrong : ChangeSpec := { name := "holdTwo", fn := fun _ => fun
  | [d1, d2, d3] => { results := [.lit (.bool false)], args := [d1, d2, d3] }
  | _ => none }
def HoldTwoWrongFalsely : Prop := holdTwoRow.holds Tryz.pinned (OpenSpec.ofChange holdTwoWrong)

/-- 'rosarylaw14.HoldShut': WHATEVER THE INPUT: true; the input reads as it did. -/
def holdShutSpec : ChangeSpec := { name := "holdShut", fn := fun _ => fun
  | [d1, d2, d3, d4] => { results := [.lit (.bool true)], args := [d1, d2, d3, d4] }
  | _ => none }
def holdShutRow : OpenClaim := { program := "ytmagddchjidamaagreatdoor", sum := "4c5156fb37787e9ccefb4b8549ef10e193f910b96020428bb4b11bb979bb4ab2", func := "rosary/rosarylaw14.HoldShut", spec := "holdShut", inPlace := ["slices.overlaps[rosary/api.Item]", "slices.overlaps[*rosary/shelf.node]", "internal/bytealg.IndexByteString", "internal/bytealg.IndexString"], unfollowed := true, recurses := true, named := ["unicode/utf8.first", "unicode/utf8.acceptRanges", "internal/bytealg.MaxLen"], apart := false, laid := [("unicode/utf8.acceptRanges", laid_unicode_utf8_acceptRanges), ("unicode/utf8.first", laid_unicode_utf8_first)] }
def HoldShutSaid : Prop := holdShutRow.holds Tryz.pinned (OpenSpec.ofChange holdShutSpec)

/-- ITS FALSE NEIGHBOUR: 'it returns false'. Refute it at one input. -/
def holdShutWrong : ChangeSpec := { name := "holdShut", fn := fun _ => fun
  | [d1, d2, d3, d4] => { results := [.lit (.bool false)], args := [d1, d2, d3, d4] }
  | _ => none }
def HoldShutWrongFalsely : Prop := holdShutRow.holds Tryz.pinned (OpenSpec.ofChange holdShutWrong)

/-- 'rosarylaw14.HoldGives': WHATEVER THE INPUT: true; the input reads as it did. -/
def holdGivesSpec : ChangeSpec := { name := "holdGives", fn := fun _ => fun
  | [d1, d2, d3] => { results := [.lit (.bool true)], args := [d1, d2, d3] }
  | _ => none }
def holdGivesRow : OpenClaim := { program := "ytmagddchjidamaagreatdoor", sum := "4c5156fb37787e9ccefb4b8549ef10e193f910b96020428bb4b11bb979bb4ab2", func := "rosary/rosarylaw14.HoldGives", spec := "holdGives", inPlace := ["slices.overlaps[rosary/api.Item]", "slices.overlaps[*rosary/shelf.node]", "internal/bytealg.IndexByteString", "internal/bytealg.IndexString"], unfollowed := true, recurses := true, named := ["unicode/utf8.first", "unicode/utf8.acceptRanges", "internal/bytealg.MaxLen"], apart := false, laid := [("unicode/utf8.acceptRanges", laid_unicode_utf8_acceptRanges), ("unicode/utf8.first", laid_unicode_utf8_first)] }
def HoldGivesSaid : Prop := holdGivesRow.holds Tryz.pinned (OpenSpec.ofChange holdGivesSpec)

/-- ITS FALSE NEIGHBOUR: 'it returns false'. Refute it at one input. -/
def holdGivesWrong : ChangeSpec := { name := "holdGives", fn := fun _ => fun
  | [d1, d2, d3] => { results := [.lit (.bool false)], args := [d1, d2, d3] }
  | _ => none }
def HoldGivesWrongFalsely : Prop := holdGivesRow.holds Tryz.pinned (OpenSpec.ofChange holdGivesWrong)

/-- 'rosarylaw14.HoldKeeps': WHATEVER THE INPUT: true; the input reads as it did. -/
def holdKeepsSpec : ChangeSpec := { name := "holdKeeps", fn := fun _ => fun
  | [d1, d2, d3] => { results := [.lit (.bool true)], args := [d1, d2, d3] }
  | _ => none }
def holdKeepsRow : OpenClaim := { program := "ytmagddchjidamaagreatdoor", sum := "4c5156fb37787e9ccefb4b8549ef10e193f910b96020428bb4b11bb979bb4ab2", func := "rosary/rosarylaw14.HoldKeeps", spec := "holdKeeps", inPlace := ["slices.overlaps[rosary/api.Item]", "slices.overlaps[*rosary/shelf.node]", "internal/bytealg.IndexByteString", "internal/bytealg.IndexString"], unfollowed := true, recurses := true, named := ["unicode/utf8.first", "unicode/utf8.acceptRanges", "internal/bytealg.MaxLen"], apart := false, laid := [("unicode/utf8.acceptRanges", laid_unicode_utf8_acceptRanges), ("unicode/utf8.first", laid_unicode_utf8_first)] }
def HoldKeepsSaid : Prop := holdKeepsRow.holds Tryz.pinned (OpenSpec.ofChange holdKeepsSpec)

/-- ITS FALSE NEIGHBOUR: 'it returns false'. Refute it at one input. -/
def holdKeepsWrong : ChangeSpec := { name := "holdKeeps", fn := fun _ => fun
  | [d1, d2, d3] => { results := [.lit (.bool false)], args := [d1, d2, d3] }
  | _ => none }
def HoldKeepsWrongFalsely : Prop := holdKeepsRow.holds Tryz.pinned (OpenSpec.ofChange holdKeepsWrong)

/-- 'rosarylaw14.HoldArcs': WHATEVER THE INPUT: true; the input reads as it did. -/
def holdArcsSpec : ChangeSpec := { name := "holdArcs", fn := fun _ => fun
  | [d1, d2] => { results := [.lit (.bool true)], args := [d1, d2] }
  | _ => none }
def holdArcsRow : OpenClaim := { program := "ytmagddchjidamaagreatdoor", sum := "4c5156fb37787e9ccefb4b8549ef10e193f910b96020428bb4b11bb979bb4ab2", func := "rosary/rosarylaw14.HoldArcs", spec := "holdArcs", inPlace := ["slices.overlaps[rosary/api.Item]", "slices.overlaps[*rosary/shelf.node]", "internal/bytealg.IndexByteString", "internal/bytealg.IndexString", "slices.overlaps[rosary/view.part]"], unfollowed := true, recurses := true, named := ["unicode/utf8.first", "unicode/utf8.acceptRanges", "internal/bytealg.MaxLen"], apart := false, laid := [("unicode/utf8.acceptRanges", laid_unicode_utf8_acceptRanges), ("unicode/utf8.first", laid_unicode_utf8_first)] }
def HoldArcsSaid : Prop := holdArcsRow.holds Tryz.pinned (OpenSpec.ofChange holdArcsSpec)

/-- ITS FALSE NEIGHBOUR: 'it returns false'. Refute it at one input. -/
def holdArcsWrong : ChangeSpec := { name := "holdArcs", fn := fun _ => fun
  | [d1, d2] => { results := [.lit (.bool false)], args := [d1, d2] }
  | _ => none }
def HoldArcsWrongFalsely : Prop := holdArcsRow.holds Tryz.pinned (OpenSpec.ofChange holdArcsWrong)

/-- 'rosarylaw14.HoldPoints': WHATEVER THE INPUT: true; the input reads as it did. -/
def holdPointsSpec : ChangeSpec := { name := "holdPoints", fn := fun _ => fun
  | [d1, d2, d3] => { results := [.lit (.bool true)], args := [d1, d2, d3] }
  | _ => none }
def holdPointsRow : OpenClaim := { program := "ytmagddchjidamaagreatdoor", sum := "4c5156fb37787e9ccefb4b8549ef10e193f910b96020428bb4b11bb979bb4ab2", func := "rosary/rosarylaw14.HoldPoints", spec := "holdPoints", inPlace := ["slices.overlaps[rosary/api.Item]", "slices.overlaps[*rosary/shelf.node]", "internal/bytealg.IndexByteString", "internal/bytealg.IndexString", "slices.overlaps[rosary/view.part]"], unfollowed := true, recurses := true, named := ["unicode/utf8.first", "unicode/utf8.acceptRanges", "internal/bytealg.MaxLen"], apart := false, laid := [("unicode/utf8.acceptRanges", laid_unicode_utf8_acceptRanges), ("unicode/utf8.first", laid_unicode_utf8_first)] }
def HoldPointsSaid : Prop := holdPointsRow.holds Tryz.pinned (OpenSpec.ofChange holdPointsSpec)

/-- ITS FALSE NEIGHBOUR: 'it returns false'. Refute it at one input. -/
def holdPointsWrong : ChangeSpec := { name := "holdPoints", fn := fun _ => fun
  | [d1, d2, d3] => { results := [.lit (.bool false)], args := [d1, d2, d3] }
  | _ => none }
def HoldPointsWrongFalsely : Prop := holdPointsRow.holds Tryz.pinned (OpenSpec.ofChange holdPointsWrong)

/- THE SECOND FORM. 'bulk': how many values and letters a reading holds, each counted each time it is reached (what is shared counts as often as it is met; a slice's spare places count too). A statement '..UptoSaid' is the law's where the arguments, and the package variables that the reading takes, are together of bulk at most 1048576: NARROWER than '..Said'. Prove '..Said' where nothing that the law and all that it calls make is longer than what came in: it says more and counts as full. Else prove '..UptoSaid'. A law counts once. -/
mutual
def uptoBulk {H : Type} : DataW H → Nat
  | .lit (.string bytes) => bytes.length + 1
  | .lit _ => 1
  | .nil => 1
  | .ptr d => uptoBulk d + 1
  | .slice elems spare => uptoBulkAll elems + uptoBulkAll spare + 1
  | .agg parts => uptoBulkAll parts + 1
  | .iface _ d => uptoBulk d + 1
  | .map entries => uptoBulkEntries entries + 1
  | .held _ => 1
def uptoBulkAll {H : Type} : List (DataW H) → Nat
  | [] => 0
  | d :: r => uptoBulk d + uptoBulkAll r
def uptoBulkEntries {H : Type} : List (Lit × DataW H) → Nat
  | [] => 0
  | x :: r => uptoBulkEntry x + uptoBulkEntries r
def uptoBulkEntry {H : Type} : Lit × DataW H → Nat
  | (.string bytes, d) => bytes.length + uptoBulk d + 1
  | (_, d) => uptoBulk d + 1
 end
def uptoSmall : (H : Type) → List (DataW H) → Bool := fun _ ds => decide (uptoBulkAll ds ≤ 1048576)
def OpenSpec.upto (s : _root_.Go.ChangeSpec) : _root_.Go.OpenSpec := { _root_.Go.OpenSpec.ofChange s with cond := some uptoSmall }

/-- 'rosarylaw14.HoldSees', WHERE WHAT IT READS IS OF BULK AT MOST 1048576: true; the input reads as it did. -/
def holdSeesUptoRow : OpenClaim := { program := "ytmagddchjidamaagreatdoor", sum := "4c5156fb37787e9ccefb4b8549ef10e193f910b96020428bb4b11bb979bb4ab2", func := "rosary/rosarylaw14.HoldSees", spec := "holdSees", inPlace := ["slices.overlaps[rosary/api.Item]", "slices.overlaps[*rosary/shelf.node]", "internal/bytealg.IndexByteString", "internal/bytealg.IndexString"], unfollowed := true, recurses := true, named := ["unicode/utf8.first", "unicode/utf8.acceptRanges", "internal/bytealg.MaxLen"], apart := false, laid := [("unicode/utf8.acceptRanges", laid_unicode_utf8_acceptRanges), ("unicode/utf8.first", laid_unicode_utf8_first)], narrowed := true }
def HoldSeesUptoSaid : Prop := holdSeesUptoRow.holds Tryz.pinned (OpenSpec.upto holdSeesSpec)

/-- 'rosarylaw14.HoldScans', WHERE WHAT IT READS IS OF BULK AT MOST 1048576: true; the input reads as it did. -/
def holdScansUptoRow : OpenClaim := { program := "ytmagddchjidamaagreatdoor", sum := "4c5156fb37787e9ccefb4b8549ef10e193f910b96020428bb4b11bb979bb4ab2", func := "rosary/rosarylaw14.HoldScans", spec := "holdScans", inPlace := ["slices.overlaps[rosary/api.Item]", "slices.overlaps[*rosary/shelf.node]", "internal/bytealg.IndexByteString", "internal/bytealg.IndexString"], unfollowed := true, recurses := true, named := ["unicode/utf8.first", "unicode/utf8.acceptRanges", "internal/bytealg.MaxLen"], apart := false, laid := [("unicode/utf8.acceptRanges", laid_unicode_utf8_acceptRanges), ("unicode/utf8.first", laid_unicode_utf8_first)], narrowed := true }
def HoldScansUptoSaid : Prop := holdScansUptoRow.holds Tryz.pinned (OpenSpec.upto holdScansSpec)

/-- 'rosarylaw14.HoldTwo', WHERE WHAT IT READS IS OF BULK AT MOST 1048576: true; the input reads as it did. -/
def holdTwoUptoRow : OpenClaim := { program := "ytmagddchjidamaagreatdoor", sum := "4c5156fb37787e9ccefb4b8549ef10e193f910b96020428bb4b11bb979bb4ab2", func := "rosary/rosarylaw14.HoldTwo", spec := "holdTwo", inPlace := ["slices.overlaps[rosary/api.Item]", "slices.overlaps[*rosary/shelf.node]", "internal/bytealg.IndexByteString", "internal/bytealg.IndexString"], unfollowed := true, recurses := true, named := ["unicode/utf8.first", "unicode/utf8.acceptRanges", "internal/bytealg.MaxLen"], apart := false, laid := [("unicode/utf8.acceptRanges", laid_unicode_utf8_acceptRanges), ("unicode/utf8.first", laid_unicode_utf8_first)], narrowed := true }
def HoldTwoUptoSaid : Prop := holdTwoUptoRow.holds Tryz.pinned (OpenSpec.upto holdTwoSpec)

/-- 'rosarylaw14.HoldShut', WHERE WHAT IT READS IS OF BULK AT MOST 1048576: true; the input reads as it did. -/
def holdShutUptoRow : OpenClaim := { program := "ytmagddchjidamaagreatdoor", sum := "4c5156fb37787e9ccefb4b8549ef10e193f910b96020428bb4b11bb979bb4ab2", func := "rosary/rosarylaw14.HoldShut", spec := "holdShut", inPlace := ["slices.overlaps[rosary/api.Item]", "slices.overlaps[*rosary/shelf.node]", "internal/bytealg.IndexByteString", "internal/bytealg.IndexString"], unfollowed := true, recurses := true, named := ["unicode/utf8.first", "unicode/utf8.acceptRanges", "internal/bytealg.MaxLen"], apart := false, laid := [("unicode/utf8.acceptRanges", laid_unicode_utf8_acceptRanges), ("unicode/utf8.first", laid_unicode_utf8_first)], narrowed := true }
def HoldShutUptoSaid : Prop := holdShutUptoRow.holds Tryz.pinned (OpenSpec.upto holdShutSpec)

/-- 'rosarylaw14.HoldGives', WHERE WHAT IT READS IS OF BULK AT MOST 1048576: true; the input reads as it did. -/
def holdGivesUptoRow : OpenClaim := { program := "ytmagddchjidamaagreatdoor", sum := "4c5156fb37787e9ccefb4b8549ef10e193f910b96020428bb4b11bb979bb4ab2", func := "rosary/rosarylaw14.HoldGives", spec := "holdGives", inPlace := ["slices.overlaps[rosary/api.Item]", "slices.overlaps[*rosary/shelf.node]", "internal/bytealg.IndexByteString", "internal/bytealg.IndexString"], unfollowed := true, recurses := true, named := ["unicode/utf8.first", "unicode/utf8.acceptRanges", "internal/bytealg.MaxLen"], apart := false, laid := [("unicode/utf8.acceptRanges", laid_unicode_utf8_acceptRanges), ("unicode/utf8.first", laid_unicode_utf8_first)], narrowed := true }
def HoldGivesUptoSaid : Prop := holdGivesUptoRow.holds Tryz.pinned (OpenSpec.upto holdGivesSpec)

/-- 'rosarylaw14.HoldKeeps', WHERE WHAT IT READS IS OF BULK AT MOST 1048576: true; the input reads as it did. -/
def holdKeepsUptoRow : OpenClaim := { program := "ytmagddchjidamaagreatdoor", sum := "4c5156fb37787e9ccefb4b8549ef10e193f910b96020428bb4b11bb979bb4ab2", func := "rosary/rosarylaw14.HoldKeeps", spec := "holdKeeps", inPlace := ["slices.overlaps[rosary/api.Item]", "slices.overlaps[*rosary/shelf.node]", "internal/bytealg.IndexByteString", "internal/bytealg.IndexString"], unfollowed := true, recurses := true, named := ["unicode/utf8.first", "unicode/utf8.acceptRanges", "internal/bytealg.MaxLen"], apart := false, laid := [("unicode/utf8.acceptRanges", laid_unicode_utf8_acceptRanges), ("unicode/utf8.first", laid_unicode_utf8_first)], narrowed := true }
def HoldKeepsUptoSaid : Prop := holdKeepsUptoRow.holds Tryz.pinned (OpenSpec.upto holdKeepsSpec)

/-- 'rosarylaw14.HoldArcs', WHERE WHAT IT READS IS OF BULK AT MOST 1048576: true; the input reads as it did. -/
def holdArcsUptoRow : OpenClaim := { program := "ytmagddchjidamaagreatdoor", sum := "4c5156fb37787e9ccefb4b8549ef10e193f910b96020428bb4b11bb979bb4ab2", func := "rosary/rosarylaw14.HoldArcs", spec := "holdArcs", inPlace := ["slices.overlaps[rosary/api.Item]", "slices.overlaps[*rosary/shelf.node]", "internal/bytealg.IndexByteString", "internal/bytealg.IndexString", "slices.overlaps[rosary/view.part]"], unfollowed := true, recurses := true, named := ["unicode/utf8.first", "unicode/utf8.acceptRanges", "internal/bytealg.MaxLen"], apart := false, laid := [("unicode/utf8.acceptRanges", laid_unicode_utf8_acceptRanges), ("unicode/utf8.first", laid_unicode_utf8_first)], narrowed := true }
def HoldArcsUptoSaid : Prop := holdArcsUptoRow.holds Tryz.pinned (OpenSpec.upto holdArcsSpec)

/-- 'rosarylaw14.HoldPoints', WHERE WHAT IT READS IS OF BULK AT MOST 1048576: true; the input reads as it did. -/
def holdPointsUptoRow : OpenClaim := { program := "ytmagddchjidamaagreatdoor", sum := "4c5156fb37787e9ccefb4b8549ef10e193f910b96020428bb4b11bb979bb4ab2", func := "rosary/rosarylaw14.HoldPoints", spec := "holdPoints", inPlace := ["slices.overlaps[rosary/api.Item]", "slices.overlaps[*rosary/shelf.node]", "internal/bytealg.IndexByteString", "internal/bytealg.IndexString", "slices.overlaps[rosary/view.part]"], unfollowed := true, recurses := true, named := ["unicode/utf8.first", "unicode/utf8.acceptRanges", "internal/bytealg.MaxLen"], apart := false, laid := [("unicode/utf8.acceptRanges", laid_unicode_utf8_acceptRanges), ("unicode/utf8.first", laid_unicode_utf8_first)], narrowed := true }
def HoldPointsUptoSaid : Prop := holdPointsUptoRow.holds Tryz.pinned (OpenSpec.upto holdPointsSpec)

end Rows
end Go.Proofs.YtmagddchjidamaaGreatDoor
