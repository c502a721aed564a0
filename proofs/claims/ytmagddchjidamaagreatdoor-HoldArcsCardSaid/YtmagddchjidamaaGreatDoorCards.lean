/-
  DERIVED. GIVEN WITH THE SEED: THE CARDS: each row of YtmagddchjidamaaGreatDoorRows.lean that lists a variable, with what it lists TIED to the program's text (the seventh form; the later family's looks); each row that meets fmt, with fmt's text TOLD by the authors' own Lean function (tested against real Go, not proved from fmt's source: count such statements apart). THE CARD IS WHAT COUNTS. Prove the row's statement (the work); the ties are given (YtmagddchjidamaaGreatDoorTie.lean); close each card by the builder's one call (the guide's Derived/Test/ToyasCard.lean, 'card_holds'). Laid BY PROGRAM, IN A SANDBOX (cutbox-door.mjs). By AI agents, Wed Nov 11 2026. No macro, syntax, notation, axiom, sorry.
-/
import Derived.Test.YtmagddchjidamaaGreatDoorRows
import GoSem.ClaimSeven
namespace Go.Proofs.YtmagddchjidamaaGreatDoor
namespace Rows

/-- THE TIED CARD OF 'rosarylaw14.HoldSees'. -/
def holdSeesCard : Claim7 := { stood := { row := holdSeesRow, standIns := [], harness := (true, "c7c110e04d7d8ceb5ec98da395b859d080d63254ea39ddadffe8b277b74f838b"), looks := false }, kinds := [], alts := [], laidByText := true, laidKinds := [.data, .pinned], laidTests := true, laidLooks := .later }
def HoldSeesCardSaid : Prop := Claim7.holds Tryz.pinned (.plain (OpenSpec.ofChange holdSeesSpec)) holdSeesCard

/-- THE TIED CARD OF 'rosarylaw14.HoldScans'. -/
def holdScansCard : Claim7 := { stood := { row := holdScansRow, standIns := [], harness := (true, "c7c110e04d7d8ceb5ec98da395b859d080d63254ea39ddadffe8b277b74f838b"), looks := false }, kinds := [], alts := [], laidByText := true, laidKinds := [.data, .pinned], laidTests := true, laidLooks := .later }
def HoldScansCardSaid : Prop := Claim7.holds Tryz.pinned (.plain (OpenSpec.ofChange holdScansSpec)) holdScansCard

/-- THE TIED CARD OF 'rosarylaw14.HoldTwo'. -/
def holdTwoCard : Claim7 := { stood := { row := holdTwoRow, standIns := [], harness := (true, "c7c110e04d7d8ceb5ec98da395b859d080d63254ea39ddadffe8b277b74f838b"), looks := false }, kinds := [], alts := [], laidByText := true, laidKinds := [.data, .pinned], laidTests := true, laidLooks := .later }
def HoldTwoCardSaid : Prop := Claim7.holds Tryz.pinned (.plain (OpenSpec.ofChange holdTwoSpec)) holdTwoCard

/-- THE TIED CARD OF 'rosarylaw14.HoldShut'. -/
def holdShutCard : Claim7 := { stood := { row := holdShutRow, standIns := [], harness := (true, "c7c110e04d7d8ceb5ec98da395b859d080d63254ea39ddadffe8b277b74f838b"), looks := false }, kinds := [], alts := [], laidByText := true, laidKinds := [.data, .pinned], laidTests := true, laidLooks := .later }
def HoldShutCardSaid : Prop := Claim7.holds Tryz.pinned (.plain (OpenSpec.ofChange holdShutSpec)) holdShutCard

/-- THE TIED CARD OF 'rosarylaw14.HoldGives'. -/
def holdGivesCard : Claim7 := { stood := { row := holdGivesRow, standIns := [], harness := (true, "c7c110e04d7d8ceb5ec98da395b859d080d63254ea39ddadffe8b277b74f838b"), looks := false }, kinds := [], alts := [], laidByText := true, laidKinds := [.data, .pinned], laidTests := true, laidLooks := .later }
def HoldGivesCardSaid : Prop := Claim7.holds Tryz.pinned (.plain (OpenSpec.ofChange holdGivesSpec)) holdGivesCard

/-- THE TIED CARD OF 'rosarylaw14.HoldKeeps'. -/
def holdKeepsCard : Claim7 := { stood := { row := holdKeepsRow, standIns := [], harness := (true, "c7c110e04d7d8ceb5ec98da395b859d080d63254ea39ddadffe8b277b74f838b"), looks := false }, kinds := [], alts := [], laidByText := true, laidKinds := [.data, .pinned], laidTests := true, laidLooks := .later }
def HoldKeepsCardSaid : Prop := Claim7.holds Tryz.pinned (.plain (OpenSpec.ofChange holdKeepsSpec)) holdKeepsCard

/-- THE TIED CARD OF 'rosarylaw14.HoldArcs'. -/
def holdArcsCard : Claim7 := { stood := { row := holdArcsRow, standIns := [], harness := (true, "c7c110e04d7d8ceb5ec98da395b859d080d63254ea39ddadffe8b277b74f838b"), looks := false }, kinds := [], alts := [], laidByText := true, laidKinds := [.data, .pinned], laidTests := true, laidLooks := .later }
def HoldArcsCardSaid : Prop := Claim7.holds Tryz.pinned (.plain (OpenSpec.ofChange holdArcsSpec)) holdArcsCard

/-- THE TIED CARD OF 'rosarylaw14.HoldPoints'. -/
def holdPointsCard : Claim7 := { stood := { row := holdPointsRow, standIns := [], harness := (true, "c7c110e04d7d8ceb5ec98da395b859d080d63254ea39ddadffe8b277b74f838b"), looks := false }, kinds := [], alts := [], laidByText := true, laidKinds := [.data, .pinned], laidTests := true, laidLooks := .later }
def HoldPointsCardSaid : Prop := Claim7.holds Tryz.pinned (.plain (OpenSpec.ofChange holdPointsSpec)) holdPointsCard

/-- THE SECOND FORM's CARD OF 'rosarylaw14.HoldSees'. -/
def holdSeesUptoCard : Claim7 := { stood := { row := holdSeesUptoRow, standIns := [], harness := (true, "c7c110e04d7d8ceb5ec98da395b859d080d63254ea39ddadffe8b277b74f838b"), looks := false }, kinds := [], alts := [], laidByText := true, laidKinds := [.data, .pinned], laidTests := true, laidLooks := .later }
def HoldSeesUptoCardSaid : Prop := Claim7.holds Tryz.pinned (.plain (OpenSpec.upto holdSeesSpec)) holdSeesUptoCard

/-- THE SECOND FORM's CARD OF 'rosarylaw14.HoldScans'. -/
def holdScansUptoCard : Claim7 := { stood := { row := holdScansUptoRow, standIns := [], harness := (true, "c7c110e04d7d8ceb5ec98da395b859d080d63254ea39ddadffe8b277b74f838b"), looks := false }, kinds := [], alts := [], laidByText := true, laidKinds := [.data, .pinned], laidTests := true, laidLooks := .later }
def HoldScansUptoCardSaid : Prop := Claim7.holds Tryz.pinned (.plain (OpenSpec.upto holdScansSpec)) holdScansUptoCard

/-- THE SECOND FORM's CARD OF 'rosarylaw14.HoldTwo'. -/
def holdTwoUptoCard : Claim7 := { stood := { row := holdTwoUptoRow, standIns := [], harness := (true, "c7c110e04d7d8ceb5ec98da395b859d080d63254ea39ddadffe8b277b74f838b"), looks := false }, kinds := [], alts := [], laidByText := true, laidKinds := [.data, .pinned], laidTests := true, laidLooks := .later }
def HoldTwoUptoCardSaid : Prop := Claim7.holds Tryz.pinned (.plain (OpenSpec.upto holdTwoSpec)) holdTwoUptoCard

/-- THE SECOND FORM's CARD OF 'rosarylaw14.HoldShut'. -/
def holdShutUptoCard : Claim7 := { stood := { row := holdShutUptoRow, standIns := [], harness := (true, "c7c110e04d7d8ceb5ec98da395b859d080d63254ea39ddadffe8b277b74f838b"), looks := false }, kinds := [], alts := [], laidByText := true, laidKinds := [.data, .pinned], laidTests := true, laidLooks := .later }
def HoldShutUptoCardSaid : Prop := Claim7.holds Tryz.pinned (.plain (OpenSpec.upto holdShutSpec)) holdShutUptoCard

/-- THE SECOND FORM's CARD OF 'rosarylaw14.HoldGives'. -/
def holdGivesUptoCard : Claim7 := { stood := { row := holdGivesUptoRow, standIns := [], harness := (true, "c7c110e04d7d8ceb5ec98da395b859d080d63254ea39ddadffe8b277b74f838b"), looks := false }, kinds := [], alts := [], laidByText := true, laidKinds := [.data, .pinned], laidTests := true, laidLooks := .later }
def HoldGivesUptoCardSaid : Prop := Claim7.holds Tryz.pinned (.plain (OpenSpec.upto holdGivesSpec)) holdGivesUptoCard

/-- THE SECOND FORM's CARD OF 'rosarylaw14.HoldKeeps'. -/
def holdKeepsUptoCard : Claim7 := { stood := { row := holdKeepsUptoRow, standIns := [], harness := (true, "c7c110e04d7d8ceb5ec98da395b859d080d63254ea39ddadffe8b277b74f838b"), looks := false }, kinds := [], alts := [], laidByText := true, laidKinds := [.data, .pinned], laidTests := true, laidLooks := .later }
def HoldKeepsUptoCardSaid : Prop := Claim7.holds Tryz.pinned (.plain (OpenSpec.upto holdKeepsSpec)) holdKeepsUptoCard

/-- THE SECOND FORM's CARD OF 'rosarylaw14.HoldArcs'. -/
def holdArcsUptoCard : Claim7 := { stood := { row := holdArcsUptoRow, standIns := [], harness := (true, "c7c110e04d7d8ceb5ec98da395b859d080d63254ea39ddadffe8b277b74f838b"), looks := false }, kinds := [], alts := [], laidByText := true, laidKinds := [.data, .pinned], laidTests := true, laidLooks := .later }
def HoldArcsUptoCardSaid : Prop := Claim7.holds Tryz.pinned (.plain (OpenSpec.upto holdArcsSpec)) holdArcsUptoCard

/-- THE SECOND FORM's CARD OF 'rosarylaw14.HoldPoints'. -/
def holdPointsUptoCard : Claim7 := { stood := { row := holdPointsUptoRow, standIns := [], harness := (true, "c7c110e04d7d8ceb5ec98da395b859d080d63254ea39ddadffe8b277b74f838b"), looks := false }, kinds := [], alts := [], laidByText := true, laidKinds := [.data, .pinned], laidTests := true, laidLooks := .later }
def HoldPointsUptoCardSaid : Prop := Claim7.holds Tryz.pinned (.plain (OpenSpec.upto holdPointsSpec)) holdPointsUptoCard
end Rows
end Go.Proofs.YtmagddchjidamaaGreatDoor
