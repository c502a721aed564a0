/-
  NARROWER THAN 'FOR EVERY INPUT', by the rows' own cells (each row's printed sentence says how): GiveChunks: laid · GiveStrange: laid · GiveOnce: laid · TakeRefuses: laid · TakeUnseen: laid · TakeWrong: laid · GiveStops: laid · GivePlays: laid · TakeGives: laid.
  DERIVED. THE GIVEN ROWS OF THIS SEAT. 9 by the template 'for every input the law returns true; each argument reads behind the call as it read before'; 0 by the template 'total and deterministic' (their statements: YtpcmbnbdppembaaGreatDoorTotals.lean).
  GIVEN WITH THE SEED: the statements are not yours to turn. If you find one false, say at which input.
  Laid BY PROGRAM, IN A SANDBOX (cutbox-rows.mjs): the forced cells as the released guide's own fill.sh prints them over the translation 4b1d8d5bb0de1c07… (all of the seat's roots in one cut). By AI agents, Wed Nov 11 2026. No macro, syntax, notation, axiom, sorry.
-/
import Derived.Test.YtpcmbnbdppembaaGreatDoorChecked
import GoSem.PinnedTables
import GoSem.Claim
import GoSem.ClaimJoined
import GoSem.ClaimMapViews
import Derived.JoinedTies
import Derived.KernelRfl
namespace Go.Proofs.YtpcmbnbdppembaaGreatDoor
/- THE CELL 'sum', in the pinned program and in every row, IS THE sha256 OF THE DUMP (.gsa) THAT YtpcmbnbdppembaaGreatDoorProg.lean LOADS. Nothing in Lean hashes anything: it is a label: what it is worth is what the hold of that sum in a sandbox is worth. -/
noncomputable def Tryz.pinned : Pinned := { name := "ytpcmbnbdppembaagreatdoor", sum := "4b1d8d5bb0de1c0771d914aa8df0eea911773afba879620281bb3ef362381a8b", checked := Tryz.checked }
namespace Rows
def none {H : Type} : Left H := { results := [], args := [] }

/- WHAT THE LISTED PACKAGE-LEVEL VARIABLES READ AS WHEN THE CALL BEGINS. Each datum BY PROGRAM (the guide's laid-datum.mjs) off the statement by which the dump's own 'gosem.cut.vars' lays the variable. In a bare row this is a premise. The card (YtpcmbnbdppembaaGreatDoorCards.lean) ties it to the program's text. -/
def laid_unicode_utf8_acceptRanges {H : Type} : DataW H := .agg [.agg [.lit (.int .u8 128), .lit (.int .u8 191)], .agg [.lit (.int .u8 160), .lit (.int .u8 191)], .agg [.lit (.int .u8 128), .lit (.int .u8 159)], .agg [.lit (.int .u8 144), .lit (.int .u8 191)], .agg [.lit (.int .u8 128), .lit (.int .u8 143)], .agg [.lit (.int .u8 0), .lit (.int .u8 0)], .agg [.lit (.int .u8 0), .lit (.int .u8 0)], .agg [.lit (.int .u8 0), .lit (.int .u8 0)], .agg [.lit (.int .u8 0), .lit (.int .u8 0)], .agg [.lit (.int .u8 0), .lit (.int .u8 0)], .agg [.lit (.int .u8 0), .lit (.int .u8 0)], .agg [.lit (.int .u8 0), .lit (.int .u8 0)], .agg [.lit (.int .u8 0), .lit (.int .u8 0)], .agg [.lit (.int .u8 0), .lit (.int .u8 0)], .agg [.lit (.int .u8 0), .lit (.int .u8 0)], .agg [.lit (.int .u8 0), .lit (.int .u8 0)]]
/-- One of Go's own tables, pinned by name: the form's constant. -/
def laid_unicode_utf8_first : DataW Unit := Go.Pinned.utf8First

/-- 'rosarylaw15.GiveChunks': WHATEVER THE INPUT: true; the input reads as it did. -/
def giveChunksSpec : ChangeSpec := { name := "giveChunks", fn := fun _ => fun
  | [d1, d2, d3] => { results := [.lit (.bool true)], args := [d1, d2, d3] }
  | _ => none }
def giveChunksRow : OpenClaim := { program := "ytpcmbnbdppembaagreatdoor", sum := "4b1d8d5bb0de1c0771d914aa8df0eea911773afba879620281bb3ef362381a8b", func := "rosary/rosarylaw15.GiveChunks", spec := "giveChunks", inPlace := ["slices.overlaps[rosary/api.Item]", "slices.overlaps[*rosary/shelf.node]", "internal/bytealg.IndexByteString", "internal/bytealg.IndexString"], unfollowed := true, recurses := true, named := ["unicode/utf8.first", "unicode/utf8.acceptRanges", "internal/bytealg.MaxLen"], apart := false, laid := [("unicode/utf8.acceptRanges", laid_unicode_utf8_acceptRanges), ("unicode/utf8.first", laid_unicode_utf8_first)] }
def GiveChunksSaid : Prop := giveChunksRow.holds Tryz.pinned (OpenSpec.ofChange giveChunksSpec)

/-- ITS FALSE NEIGHBOUR: 'it returns false'. Refute it at one input. -/
def giveChunksWrong : ChangeSpec := { name := "giveChunks", fn := fun _ => fun
  | [d1, d2, d3] => { results := [.lit (.bool false)], args := [d1, d2, d3] }
  | _ => none }
def GiveChunksWrongFalsely : Prop := giveChunksRow.holds Tryz.pinned (OpenSpec.ofChange giveChunksWrong)

/-- 'rosarylaw15.GiveStrange': WHATEVER THE INPUT: true; the input reads as it did. -/
def giveStrangeSpec : ChangeSpec := { name := "giveStrange", fn := fun _ => fun
  | [d1, d2, d3] => { results := [.lit (.bool true)], args := [d1, d2, d3] }
  | _ => none }
def giveStrangeRow : OpenClaim := { program := "ytpcmbnbdppembaagreatdoor", sum := "4b1d8d5bb0de1c0771d914aa8df0eea911773afba879620281bb3ef362381a8b", func := "rosary/rosarylaw15.GiveStrange", spec := "giveStrange", inPlace := ["slices.overlaps[rosary/api.Item]", "slices.overlaps[*rosary/shelf.node]", "internal/bytealg.IndexByteString", "internal/bytealg.IndexString"], unfollowed := true, recurses := true, named := ["unicode/utf8.first", "unicode/utf8.acceptRanges", "internal/bytealg.MaxLen"], apart := false, laid := [("unicode/utf8.acceptRanges", laid_unicode_utf8_acceptRanges), ("unicode/utf8.first", laid_unicode_utf8_first)] }
def GiveStrangeSaid : Prop := giveStrangeRow.holds Tryz.pinned (OpenSpec.ofChange giveStrangeSpec)

/-- ITS FALSE NEIGHBOUR: 'it returns false'. Refute it at one input. -/
def giveStrangeWrong : ChangeSpec := { name := "giveStrange", fn := fun _ => fun
  | [d1, d2, d3] => { results := [.lit (.bool false)], args := [d1, d2, d3] }
  | _ => none }
def GiveStrangeWrongFalsely : Prop := giveStrangeRow.holds Tryz.pinned (OpenSpec.ofChange giveStrangeWrong)

/-- 'rosarylaw15.GiveOnce': WHATEVER THE INPUT: true; the input reads as it did. -/
def giveOnceSpec : ChangeSpec := { name := "giveOnce", fn := fun _ => fun
  | [d1, d2, d3, d4] => { results := [.lit (.bool true)], args := [d1, d2, d3, d4] }
  | _ => none }
def giveOnceRow : OpenClaim := { program := "ytpcmbnbdppembaagreatdoor", sum := "4b1d8d5bb0de1c0771d914aa8df0eea911773afba879620281bb3ef362381a8b", func := "rosary/rosarylaw15.GiveOnce", spec := "giveOnce", inPlace := ["slices.overlaps[rosary/api.Item]", "slices.overlaps[*rosary/shelf.node]", "internal/bytealg.IndexByteString", "internal/bytealg.IndexString"], unfollowed := true, recurses := true, named := ["unicode/utf8.first", "unicode/utf8.acceptRanges", "internal/bytealg.MaxLen"], apart := false, laid := [("unicode/utf8.acceptRanges", laid_unicode_utf8_acceptRanges), ("unicode/utf8.first", laid_unicode_utf8_first)] }
def GiveOnceSaid : Prop := giveOnceRow.holds Tryz.pinned (OpenSpec.ofChange giveOnceSpec)

/-- ITS FALSE NEIGHBOUR: 'it returns false'. Refute it at one input. -/
def giveOnceWrong : ChangeSpec := { name := "giveOnce", fn := fun _ => fun
  | [d1, d2, d3, d4] => { results := [.lit (.bool false)], args := [d1, d2, d3, d4] }
  | _ => none }
def GiveOnceWrongFalsely : Prop := giveOnceRow.holds Tryz.pinned (OpenSpec.ofChange giveOnceWrong)

/-- 'rosarylaw16.TakeRefuses': WHATEVER THE INPUT: true; the input reads as it did. -/
def takeRefusesSpec : ChangeSpec := { name := "takeRefuses", fn := fun _ => fun
  | [d1, d2, d3, d4, d5] => { results := [.lit (.bool true)], args := [d1, d2, d3, d4, d5] }
  | _ => none }
def takeRefusesRow : OpenClaim := { program := "ytpcmbnbdppembaagreatdoor", sum := "4b1d8d5bb0de1c0771d914aa8df0eea911773afba879620281bb3ef362381a8b", func := "rosary/rosarylaw16.TakeRefuses", spec := "takeRefuses", inPlace := ["slices.overlaps[rosary/api.Item]", "slices.overlaps[*rosary/shelf.node]", "internal/bytealg.IndexByteString", "internal/bytealg.IndexString", "slices.overlaps[rosary/view.part]"], unfollowed := true, recurses := true, named := ["unicode/utf8.first", "unicode/utf8.acceptRanges", "internal/bytealg.MaxLen"], apart := false, laid := [("unicode/utf8.acceptRanges", laid_unicode_utf8_acceptRanges), ("unicode/utf8.first", laid_unicode_utf8_first)] }
def TakeRefusesSaid : Prop := takeRefusesRow.holds Tryz.pinned (OpenSpec.ofChange takeRefusesSpec)

/-- ITS FALSE NEIGHBOUR: 'it returns false'. Refute it at one input. -/
def takeRefusesWrong : ChangeSpec := { name := "takeRefuses", fn := fun _ => fun
  | [d1, d2, d3, d4, d5] => { results := [.lit (.bool false)], args := [d1, d2, d3, d4, d5] }
  | _ => none }
def TakeRefusesWrongFalsely : Prop := takeRefusesRow.holds Tryz.pinned (OpenSpec.ofChange takeRefusesWrong)

/-- 'rosarylaw16.TakeUnseen': WHATEVER THE INPUT: true; the input reads as it did. -/
def takeUnseenSpec : ChangeSpec := { name := "takeUnseen", fn := fun _ => fun
  | [d1, d2, d3] => { results := [.lit (.bool true)], args := [d1, d2, d3] }
  | _ => none }
def takeUnseenRow : OpenClaim := { program := "ytpcmbnbdppembaagreatdoor", sum := "4b1d8d5bb0de1c0771d914aa8df0eea911773afba879620281bb3ef362381a8b", func := "rosary/rosarylaw16.TakeUnseen", spec := "takeUnseen", inPlace := ["slices.overlaps[rosary/api.Item]", "slices.overlaps[*rosary/shelf.node]", "internal/bytealg.IndexByteString", "internal/bytealg.IndexString", "slices.overlaps[rosary/view.part]"], unfollowed := true, recurses := true, named := ["unicode/utf8.first", "unicode/utf8.acceptRanges", "internal/bytealg.MaxLen"], apart := false, laid := [("unicode/utf8.acceptRanges", laid_unicode_utf8_acceptRanges), ("unicode/utf8.first", laid_unicode_utf8_first)] }
def TakeUnseenSaid : Prop := takeUnseenRow.holds Tryz.pinned (OpenSpec.ofChange takeUnseenSpec)

/-- ITS FALSE NEIGHBOUR: 'it returns false'. Refute it at one input. -/
def takeUnseenWrong : ChangeSpec := { name := "takeUnseen", fn := fun _ => fun
  | [d1, d2, d3] => { results := [.lit (.bool false)], args := [d1, d2, d3] }
  | _ => none }
def TakeUnseenWrongFalsely : Prop := takeUnseenRow.holds Tryz.pinned (OpenSpec.ofChange takeUnseenWrong)

/-- 'rosarylaw16.TakeWrong': WHATEVER THE INPUT: true; the input reads as it did. -/
def takeWrongSpec : ChangeSpec := { name := "takeWrong", fn := fun _ => fun
  | [d1, d2] => { results := [.lit (.bool true)], args := [d1, d2] }
  | _ => none }
def takeWrongRow : OpenClaim := { program := "ytpcmbnbdppembaagreatdoor", sum := "4b1d8d5bb0de1c0771d914aa8df0eea911773afba879620281bb3ef362381a8b", func := "rosary/rosarylaw16.TakeWrong", spec := "takeWrong", inPlace := ["slices.overlaps[rosary/api.Item]", "slices.overlaps[*rosary/shelf.node]", "internal/bytealg.IndexByteString", "internal/bytealg.IndexString", "slices.overlaps[rosary/view.part]"], unfollowed := true, recurses := true, named := ["unicode/utf8.first", "unicode/utf8.acceptRanges", "internal/bytealg.MaxLen"], apart := false, laid := [("unicode/utf8.acceptRanges", laid_unicode_utf8_acceptRanges), ("unicode/utf8.first", laid_unicode_utf8_first)] }
def TakeWrongSaid : Prop := takeWrongRow.holds Tryz.pinned (OpenSpec.ofChange takeWrongSpec)

/-- ITS FALSE NEIGHBOUR: 'it returns false'. Refute it at one input. -/
def takeWrongWrong : ChangeSpec := { name := "takeWrong", fn := fun _ => fun
  | [d1, d2] => { results := [.lit (.bool false)], args := [d1, d2] }
  | _ => none }
def TakeWrongWrongFalsely : Prop := takeWrongRow.holds Tryz.pinned (OpenSpec.ofChange takeWrongWrong)

/-- 'rosarylaw15.GiveStops': WHATEVER THE INPUT: true; the input reads as it did. -/
def giveStopsSpec : ChangeSpec := { name := "giveStops", fn := fun _ => fun
  | [d1, d2, d3, d4] => { results := [.lit (.bool true)], args := [d1, d2, d3, d4] }
  | _ => none }
def giveStopsRow : OpenClaim := { program := "ytpcmbnbdppembaagreatdoor", sum := "4b1d8d5bb0de1c0771d914aa8df0eea911773afba879620281bb3ef362381a8b", func := "rosary/rosarylaw15.GiveStops", spec := "giveStops", inPlace := ["slices.overlaps[rosary/api.Item]", "slices.overlaps[*rosary/shelf.node]", "internal/bytealg.IndexByteString", "internal/bytealg.IndexString", "slices.overlaps[rosary/view.part]"], unfollowed := true, recurses := true, named := ["unicode/utf8.first", "unicode/utf8.acceptRanges", "internal/bytealg.MaxLen"], apart := false, laid := [("unicode/utf8.acceptRanges", laid_unicode_utf8_acceptRanges), ("unicode/utf8.first", laid_unicode_utf8_first)] }
def GiveStopsSaid : Prop := giveStopsRow.holds Tryz.pinned (OpenSpec.ofChange giveStopsSpec)

/-- ITS FALSE NEIGHBOUR: 'it returns false'. Refute it at one input. -/
def giveStopsWrong : ChangeSpec := { name := "giveStops", fn := fun _ => fun
  | [d1, d2, d3, d4] => { results := [.lit (.bool false)], args := [d1, d2, d3, d4] }
  | _ => none }
def GiveStopsWrongFalsely : Prop := giveStopsRow.holds Tryz.pinned (OpenSpec.ofChange giveStopsWrong)

/-- 'rosarylaw15.GivePlays': WHATEVER THE INPUT: true; the input reads as it did. -/
def givePlaysSpec : ChangeSpec := { name := "givePlays", fn := fun _ => fun
  | [d1, d2, d3, d4, d5, d6, d7] => { results := [.lit (.bool true)], args := [d1, d2, d3, d4, d5, d6, d7] }
  | _ => none }
def givePlaysRow : OpenClaim := { program := "ytpcmbnbdppembaagreatdoor", sum := "4b1d8d5bb0de1c0771d914aa8df0eea911773afba879620281bb3ef362381a8b", func := "rosary/rosarylaw15.GivePlays", spec := "givePlays", inPlace := ["slices.overlaps[rosary/api.Item]", "slices.overlaps[*rosary/shelf.node]", "internal/bytealg.IndexByteString", "internal/bytealg.IndexString", "slices.overlaps[rosary/view.part]"], unfollowed := true, recurses := true, named := ["unicode/utf8.first", "unicode/utf8.acceptRanges", "internal/bytealg.MaxLen"], apart := false, laid := [("unicode/utf8.acceptRanges", laid_unicode_utf8_acceptRanges), ("unicode/utf8.first", laid_unicode_utf8_first)] }
def GivePlaysSaid : Prop := givePlaysRow.holds Tryz.pinned (OpenSpec.ofChange givePlaysSpec)

/-- ITS FALSE NEIGHBOUR: 'it returns false'. Refute it at one input. -/
def givePlaysWrong : ChangeSpec := { name := "givePlays", fn := fun _ => fun
  | [d1, d2, d3, d4, d5, d6, d7] => { results := [.lit (.bool false)], args := [d1, d2, d3, d4, d5, d6, d7] }
  | _ => none }
def GivePlaysWrongFalsely : Prop := givePlaysRow.holds Tryz.pinned (OpenSpec.ofChange givePlaysWrong)

/-- 'rosarylaw16.TakeGives': WHATEVER THE INPUT: true; the input reads as it did. -/
def takeGivesSpec : ChangeSpec := { name := "takeGives", fn := fun _ => fun
  | [d1, d2, d3] => { results := [.lit (.bool true)], args := [d1, d2, d3] }
  | _ => none }
def takeGivesRow : OpenClaim := { program := "ytpcmbnbdppembaagreatdoor", sum := "4b1d8d5bb0de1c0771d914aa8df0eea911773afba879620281bb3ef362381a8b", func := "rosary/rosarylaw16.TakeGives", spec := "takeGives", inPlace := ["slices.overlaps[rosary/api.Item]", "slices.overlaps[*rosary/shelf.node]", "internal/bytealg.IndexByteString", "internal/bytealg.IndexString", "slices.overlaps[rosary/view.part]"], unfollowed := true, recurses := true, named := ["unicode/utf8.first", "unicode/utf8.acceptRanges", "internal/bytealg.MaxLen"], apart := false, laid := [("unicode/utf8.acceptRanges", laid_unicode_utf8_acceptRanges), ("unicode/utf8.first", laid_unicode_utf8_first)] }
def TakeGivesSaid : Prop := takeGivesRow.holds Tryz.pinned (OpenSpec.ofChange takeGivesSpec)

/-- ITS FALSE NEIGHBOUR: 'it returns false'. Refute it at one input. -/
def takeGivesWrong : ChangeSpec := { name := "takeGives", fn := fun _ => fun
  | [d1, d2, d3] => { results := [.lit (.bool false)], args := [d1, d2, d3] }
  | _ => none }
def TakeGivesWrongFalsely : Prop := takeGivesRow.holds Tryz.pinned (OpenSpec.ofChange takeGivesWrong)

/- THE SECOND FORM. 'bulk': how many values and letters a reading holds, each counted each time it is reached (what is shared counts as often as it is met; a slice's spare places count too). A statement '..UptoSaid' is the law's where the arguments, and the package variables that the reading takes, are together of bulk at most 1048576: NARROWER than '..Said'. Prove '..Said' where nothing that the law and all that it calls make is longer than what came in: it says more and counts as full. Else prove '..UptoSaid'. A law counts once. -/
mutual
def uptoBulk {H : Type} : DataW H → Nat
  | .lit (.string bytes) => bytes.length + 1
  | .lit _ => 1
  | .nil => 1
  | .ptr d => uptoBulk d + 1
  | .slice elems spare => uptoBulkAll elems + uptoBulkAll spare + 1
  | .agg parts => uptoBulkAll parts + 1
  | .iface _ d => uptoBulk d + 1
  | .map entries => uptoBulkEntries entries + 1
  | .held _ => 1
def uptoBulkAll {H : Type} : List (DataW H) → Nat
  | [] => 0
  | d :: r => uptoBulk d + uptoBulkAll r
def uptoBulkEntries {H : Type} : List (Lit × DataW H) → Nat
  | [] => 0
  | x :: r => uptoBulkEntry x + uptoBulkEntries r
def uptoBulkEntry {H : Type} : Lit × DataW H → Nat
  | (.string bytes, d) => bytes.length + uptoBulk d + 1
  | (_, d) => uptoBulk d + 1
 end
def uptoSmall : (H : Type) → List (DataW H) → Bool := fun _ ds => decide (uptoBulkAll ds ≤ 1048576)
def OpenSpec.upto (s : _root_.Go.ChangeSpec) : _root_.Go.OpenSpec := { _root_.Go.OpenSpec.ofChange s with cond := some uptoSmall }

/-- 'rosarylaw15.GiveChunks', WHERE WHAT IT READS IS OF BULK AT MOST 1048576: true; the input reads as it did. -/
def giveChunksUptoRow : OpenClaim := { program := "ytpcmbnbdppembaagreatdoor", sum := "4b1d8d5bb0de1c0771d914aa8df0eea911773afba879620281bb3ef362381a8b", func := "rosary/rosarylaw15.GiveChunks", spec := "giveChunks", inPlace := ["slices.overlaps[rosary/api.Item]", "slices.overlaps[*rosary/shelf.node]", "internal/bytealg.IndexByteString", "internal/bytealg.IndexString"], unfollowed := true, recurses := true, named := ["unicode/utf8.first", "unicode/utf8.acceptRanges", "internal/bytealg.MaxLen"], apart := false, laid := [("unicode/utf8.acceptRanges", laid_unicode_utf8_acceptRanges), ("unicode/utf8.first", laid_unicode_utf8_first)], narrowed := true }
def GiveChunksUptoSaid : Prop := giveChunksUptoRow.holds Tryz.pinned (OpenSpec.upto giveChunksSpec)

/-- 'rosarylaw15.GiveStrange', WHERE WHAT IT READS IS OF BULK AT MOST 1048576: true; the input reads as it did. -/
def giveStrangeUptoRow : OpenClaim := { program := "ytpcmbnbdppembaagreatdoor", sum := "4b1d8d5bb0de1c0771d914aa8df0eea911773afba879620281bb3ef362381a8b", func := "rosary/rosarylaw15.GiveStrange", spec := "giveStrange", inPlace := ["slices.overlaps[rosary/api.Item]", "slices.overlaps[*rosary/shelf.node]", "internal/bytealg.IndexByteString", "internal/bytealg.IndexString"], unfollowed := true, recurses := true, named := ["unicode/utf8.first", "unicode/utf8.acceptRanges", "internal/bytealg.MaxLen"], apart := false, laid := [("unicode/utf8.acceptRanges", laid_unicode_utf8_acceptRanges), ("unicode/utf8.first", laid_unicode_utf8_first)], narrowed := true }
def GiveStrangeUptoSaid : Prop := giveStrangeUptoRow.holds Tryz.pinned (OpenSpec.upto giveStrangeSpec)

/-- 'rosarylaw15.GiveOnce', WHERE WHAT IT READS IS OF BULK AT MOST 1048576: true; the input reads as it did. -/
def giveOnceUptoRow : OpenClaim := { program := "ytpcmbnbdppembaagreatdoor", sum := "4b1d8d5bb0de1c0771d914aa8df0eea911773afba879620281bb3ef362381a8b", func := "rosary/rosarylaw15.GiveOnce", spec := "giveOnce", inPlace := ["slices.overlaps[rosary/api.Item]", "slices.overlaps[*rosary/shelf.node]", "internal/bytealg.IndexByteString", "internal/bytealg.IndexString"], unfollowed := true, recurses := true, named := ["unicode/utf8.first", "unicode/utf8.acceptRanges", "internal/bytealg.MaxLen"], apart := false, laid := [("unicode/utf8.acceptRanges", laid_unicode_utf8_acceptRanges), ("unicode/utf8.first", laid_unicode_utf8_first)], narrowed := true }
def GiveOnceUptoSaid : Prop := giveOnceUptoRow.holds Tryz.pinned (OpenSpec.upto giveOnceSpec)

/-- 'rosarylaw16.TakeRefuses', WHERE WHAT IT READS IS OF BULK AT MOST 1048576: true; the input reads as it did. -/
def takeRefusesUptoRow : OpenClaim := { program := "ytpcmbnbdppembaagreatdoor", sum := "4b1d8d5bb0de1c0771d914aa8df0eea911773afba879620281bb3ef362381a8b", func := "rosary/rosarylaw16.TakeRefuses", spec := "takeRefuses", inPlace := ["slices.overlaps[rosary/api.Item]", "slices.overlaps[*rosary/shelf.node]", "internal/bytealg.IndexByteString", "internal/bytealg.IndexString", "slices.overlaps[rosary/view.part]"], unfollowed := true, recurses := true, named := ["unicode/utf8.first", "unicode/utf8.acceptRanges", "internal/bytealg.MaxLen"], apart := false, laid := [("unicode/utf8.acceptRanges", laid_unicode_utf8_acceptRanges), ("unicode/utf8.first", laid_unicode_utf8_first)], narrowed := true }
def TakeRefusesUptoSaid : Prop := takeRefusesUptoRow.holds Tryz.pinned (OpenSpec.upto takeRefusesSpec)

/-- 'rosarylaw16.TakeUnseen', WHERE WHAT IT READS IS OF BULK AT MOST 1048576: true; the input reads as it did. -/
def takeUnseenUptoRow : OpenClaim := { program := "ytpcmbnbdppembaagreatdoor", sum := "4b1d8d5bb0de1c0771d914aa8df0eea911773afba879620281bb3ef362381a8b", func := "rosary/rosarylaw16.TakeUnseen", spec := "takeUnseen", inPlace := ["slices.overlaps[rosary/api.Item]", "slices.overlaps[*rosary/shelf.node]", "internal/bytealg.IndexByteString", "internal/bytealg.IndexString", "slices.overlaps[rosary/view.part]"], unfollowed := true, recurses := true, named := ["unicode/utf8.first", "unicode/utf8.acceptRanges", "internal/bytealg.MaxLen"], apart := false, laid := [("unicode/utf8.acceptRanges", laid_unicode_utf8_acceptRanges), ("unicode/utf8.first", laid_unicode_utf8_first)], narrowed := true }
def TakeUnseenUptoSaid : Prop := takeUnseenUptoRow.holds Tryz.pinned (OpenSpec.upto takeUnseenSpec)

/-- 'rosarylaw16.TakeWrong', WHERE WHAT IT READS IS OF BULK AT MOST 1048576: true; the input reads as it did. -/
def takeWrongUptoRow : OpenClaim := { program := "ytpcmbnbdppembaagreatdoor", sum := "4b1d8d5bb0de1c0771d914aa8df0eea911773afba879620281bb3ef362381a8b", func := "rosary/rosarylaw16.TakeWrong", spec := "takeWrong", inPlace := ["slices.overlaps[rosary/api.Item]", "slices.overlaps[*rosary/shelf.node]", "internal/bytealg.IndexByteString", "internal/bytealg.IndexString", "slices.overlaps[rosary/view.part]"], unfollowed := true, recurses := true, named := ["unicode/utf8.first", "unicode/utf8.acceptRanges", "internal/bytealg.MaxLen"], apart := false, laid := [("unicode/utf8.acceptRanges", laid_unicode_utf8_acceptRanges), ("unicode/utf8.first", laid_unicode_utf8_first)], narrowed := true }
def TakeWrongUptoSaid : Prop := takeWrongUptoRow.holds Tryz.pinned (OpenSpec.upto takeWrongSpec)

/-- 'rosarylaw15.GiveStops', WHERE WHAT IT READS IS OF BULK AT MOST 1048576: true; the input reads as it did. -/
def giveStopsUptoRow : OpenClaim := { program := "ytpcmbnbdppembaagreatdoor", sum := "4b1d8d5bb0de1c0771d914aa8df0eea911773afba879620281bb3ef362381a8b", func := "rosary/rosarylaw15.GiveStops", spec := "giveStops", inPlace := ["slices.overlaps[rosary/api.Item]", "slices.overlaps[*rosary/shelf.node]", "internal/bytealg.IndexByteString", "internal/bytealg.IndexString", "slices.overlaps[rosary/view.part]"], unfollowed := true, recurses := true, named := ["unicode/utf8.first", "unicode/utf8.acceptRanges", "internal/bytealg.MaxLen"], apart := false, laid := [("unicode/utf8.acceptRanges", laid_unicode_utf8_acceptRanges), ("unicode/utf8.first", laid_unicode_utf8_first)], narrowed := true }
def GiveStopsUptoSaid : Prop := giveStopsUptoRow.holds Tryz.pinned (OpenSpec.upto giveStopsSpec)

/-- 'rosarylaw15.GivePlays', WHERE WHAT IT READS IS OF BULK AT MOST 1048576: true; the input reads as it did. -/
def givePlaysUptoRow : OpenClaim := { program := "ytpcmbnbdppembaagreatdoor", sum := "4b1d8d5bb0de1c0771d914aa8df0eea911773afba879620281bb3ef362381a8b", func := "rosary/rosarylaw15.GivePlays", spec := "givePlays", inPlace := ["slices.overlaps[rosary/api.Item]", "slices.overlaps[*rosary/shelf.node]", "internal/bytealg.IndexByteString", "internal/bytealg.IndexString", "slices.overlaps[rosary/view.part]"], unfollowed := true, recurses := true, named := ["unicode/utf8.first", "unicode/utf8.acceptRanges", "internal/bytealg.MaxLen"], apart := false, laid := [("unicode/utf8.acceptRanges", laid_unicode_utf8_acceptRanges), ("unicode/utf8.first", laid_unicode_utf8_first)], narrowed := true }
def GivePlaysUptoSaid : Prop := givePlaysUptoRow.holds Tryz.pinned (OpenSpec.upto givePlaysSpec)

/-- 'rosarylaw16.TakeGives', WHERE WHAT IT READS IS OF BULK AT MOST 1048576: true; the input reads as it did. -/
def takeGivesUptoRow : OpenClaim := { program := "ytpcmbnbdppembaagreatdoor", sum := "4b1d8d5bb0de1c0771d914aa8df0eea911773afba879620281bb3ef362381a8b", func := "rosary/rosarylaw16.TakeGives", spec := "takeGives", inPlace := ["slices.overlaps[rosary/api.Item]", "slices.overlaps[*rosary/shelf.node]", "internal/bytealg.IndexByteString", "internal/bytealg.IndexString", "slices.overlaps[rosary/view.part]"], unfollowed := true, recurses := true, named := ["unicode/utf8.first", "unicode/utf8.acceptRanges", "internal/bytealg.MaxLen"], apart := false, laid := [("unicode/utf8.acceptRanges", laid_unicode_utf8_acceptRanges), ("unicode/utf8.first", laid_unicode_utf8_first)], narrowed := true }
def TakeGivesUptoSaid : Prop := takeGivesUptoRow.holds Tryz.pinned (OpenSpec.upto takeGivesSpec)

end Rows
end Go.Proofs.YtpcmbnbdppembaaGreatDoor
