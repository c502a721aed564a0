/-
  DERIVED. GIVEN WITH THE SEED: THE CARDS: each row of YtpcmbnbdppembaaGreatDoorRows.lean that lists a variable, with what it lists TIED to the program's text (the seventh form; the later family's looks); each row that meets fmt, with fmt's text TOLD by the authors' own Lean function (tested against real Go, not proved from fmt's source: count such statements apart). THE CARD IS WHAT COUNTS. Prove the row's statement (the work); the ties are given (YtpcmbnbdppembaaGreatDoorTie.lean); close each card by the builder's one call (the guide's Derived/Test/ToyasCard.lean, 'card_holds'). Laid BY PROGRAM, IN A SANDBOX (cutbox-door.mjs). By AI agents, Wed Nov 11 2026. No macro, syntax, notation, axiom, sorry.
-/
import Derived.Test.YtpcmbnbdppembaaGreatDoorRows
import GoSem.ClaimSeven
namespace Go.Proofs.YtpcmbnbdppembaaGreatDoor
namespace Rows

/-- THE TIED CARD OF 'rosarylaw15.GiveChunks'. -/
def giveChunksCard : Claim7 := { stood := { row := giveChunksRow, standIns := [], harness := (true, "55bc1f42cbf7f82f0173af94658014485367f3bbd8fc65ed5667143bf4673f97"), looks := false }, kinds := [], alts := [], laidByText := true, laidKinds := [.data, .pinned], laidTests := true, laidLooks := .later }
def GiveChunksCardSaid : Prop := Claim7.holds Tryz.pinned (.plain (OpenSpec.ofChange giveChunksSpec)) giveChunksCard

/-- THE TIED CARD OF 'rosarylaw15.GiveStrange'. -/
def giveStrangeCard : Claim7 := { stood := { row := giveStrangeRow, standIns := [], harness := (true, "55bc1f42cbf7f82f0173af94658014485367f3bbd8fc65ed5667143bf4673f97"), looks := false }, kinds := [], alts := [], laidByText := true, laidKinds := [.data, .pinned], laidTests := true, laidLooks := .later }
def GiveStrangeCardSaid : Prop := Claim7.holds Tryz.pinned (.plain (OpenSpec.ofChange giveStrangeSpec)) giveStrangeCard

/-- THE TIED CARD OF 'rosarylaw15.GiveOnce'. -/
def giveOnceCard : Claim7 := { stood := { row := giveOnceRow, standIns := [], harness := (true, "55bc1f42cbf7f82f0173af94658014485367f3bbd8fc65ed5667143bf4673f97"), looks := false }, kinds := [], alts := [], laidByText := true, laidKinds := [.data, .pinned], laidTests := true, laidLooks := .later }
def GiveOnceCardSaid : Prop := Claim7.holds Tryz.pinned (.plain (OpenSpec.ofChange giveOnceSpec)) giveOnceCard

/-- THE TIED CARD OF 'rosarylaw16.TakeRefuses'. -/
def takeRefusesCard : Claim7 := { stood := { row := takeRefusesRow, standIns := [], harness := (true, "55bc1f42cbf7f82f0173af94658014485367f3bbd8fc65ed5667143bf4673f97"), looks := false }, kinds := [], alts := [], laidByText := true, laidKinds := [.data, .pinned], laidTests := true, laidLooks := .later }
def TakeRefusesCardSaid : Prop := Claim7.holds Tryz.pinned (.plain (OpenSpec.ofChange takeRefusesSpec)) takeRefusesCard

/-- THE TIED CARD OF 'rosarylaw16.TakeUnseen'. -/
def takeUnseenCard : Claim7 := { stood := { row := takeUnseenRow, standIns := [], harness := (true, "55bc1f42cbf7f82f0173af94658014485367f3bbd8fc65ed5667143bf4673f97"), looks := false }, kinds := [], alts := [], laidByText := true, laidKinds := [.data, .pinned], laidTests := true, laidLooks := .later }
def TakeUnseenCardSaid : Prop := Claim7.holds Tryz.pinned (.plain (OpenSpec.ofChange takeUnseenSpec)) takeUnseenCard

/-- THE TIED CARD OF 'rosarylaw16.TakeWrong'. -/
def takeWrongCard : Claim7 := { stood := { row := takeWrongRow, standIns := [], harness := (true, "55bc1f42cbf7f82f0173af94658014485367f3bbd8fc65ed5667143bf4673f97"), looks := false }, kinds := [], alts := [], laidByText := true, laidKinds := [.data, .pinned], laidTests := true, laidLooks := .later }
def TakeWrongCardSaid : Prop := Claim7.holds Tryz.pinned (.plain (OpenSpec.ofChange takeWrongSpec)) takeWrongCard

/-- THE TIED CARD OF 'rosarylaw15.GiveStops'. -/
def giveStopsCard : Claim7 := { stood := { row := giveStopsRow, standIns := [], harness := (true, "55bc1f42cbf7f82f0173af94658014485367f3bbd8fc65ed5667143bf4673f97"), looks := false }, kinds := [], alts := [], laidByText := true, laidKinds := [.data, .pinned], laidTests := true, laidLooks := .later }
def GiveStopsCardSaid : Prop := Claim7.holds Tryz.pinned (.plain (OpenSpec.ofChange giveStopsSpec)) giveStopsCard

/-- THE TIED CARD OF 'rosarylaw15.GivePlays'. -/
def givePlaysCard : Claim7 := { stood := { row := givePlaysRow, standIns := [], harness := (true, "55bc1f42cbf7f82f0173af94658014485367f3bbd8fc65ed5667143bf4673f97"), looks := false }, kinds := [], alts := [], laidByText := true, laidKinds := [.data, .pinned], laidTests := true, laidLooks := .later }
def GivePlaysCardSaid : Prop := Claim7.holds Tryz.pinned (.plain (OpenSpec.ofChange givePlaysSpec)) givePlaysCard

/-- THE TIED CARD OF 'rosarylaw16.TakeGives'. -/
def takeGivesCard : Claim7 := { stood := { row := takeGivesRow, standIns := [], harness := (true, "55bc1f42cbf7f82f0173af94658014485367f3bbd8fc65ed5667143bf4673f97"), looks := false }, kinds := [], alts := [], laidByText := true, laidKinds := [.data, .pinned], laidTests := true, laidLooks := .later }
def TakeGivesCardSaid : Prop := Claim7.holds Tryz.pinned (.plain (OpenSpec.ofChange takeGivesSpec)) takeGivesCard

/-- THE SECOND FORM's CARD OF 'rosarylaw15.GiveChunks'. -/
def giveChunksUptoCard : Claim7 := { stood := { row := giveChunksUptoRow, standIns := [], harness := (true, "55bc1f42cbf7f82f0173af94658014485367f3bbd8fc65ed5667143bf4673f97"), looks := false }, kinds := [], alts := [], laidByText := true, laidKinds := [.data, .pinned], laidTests := true, laidLooks := .later }
def GiveChunksUptoCardSaid : Prop := Claim7.holds Tryz.pinned (.plain (OpenSpec.upto giveChunksSpec)) giveChunksUptoCard

/-- THE SECOND FORM's CARD OF 'rosarylaw15.GiveStrange'. -/
def giveStrangeUptoCard : Claim7 := { stood := { row := giveStrangeUptoRow, standIns := [], harness := (true, "55bc1f42cbf7f82f0173af94658014485367f3bbd8fc65ed5667143bf4673f97"), looks := false }, kinds := [], alts := [], laidByText := true, laidKinds := [.data, .pinned], laidTests := true, laidLooks := .later }
def GiveStrangeUptoCardSaid : Prop := Claim7.holds Tryz.pinned (.plain (OpenSpec.upto giveStrangeSpec)) giveStrangeUptoCard

/-- THE SECOND FORM's CARD OF 'rosarylaw15.GiveOnce'. -/
def giveOnceUptoCard : Claim7 := { stood := { row := giveOnceUptoRow, standIns := [], harness := (true, "55bc1f42cbf7f82f0173af94658014485367f3bbd8fc65ed5667143bf4673f97"), looks := false }, kinds := [], alts := [], laidByText := true, laidKinds := [.data, .pinned], laidTests := true, laidLooks := .later }
def GiveOnceUptoCardSaid : Prop := Claim7.holds Tryz.pinned (.plain (OpenSpec.upto giveOnceSpec)) giveOnceUptoCard

/-- THE SECOND FORM's CARD OF 'rosarylaw16.TakeRefuses'. -/
def takeRefusesUptoCard : Claim7 := { stood := { row := takeRefusesUptoRow, standIns := [], harness := (true, "55bc1f42cbf7f82f0173af94658014485367f3bbd8fc65ed5667143bf4673f97"), looks := false }, kinds := [], alts := [], laidByText := true, laidKinds := [.data, .pinned], laidTests := true, laidLooks := .later }
def TakeRefusesUptoCardSaid : Prop := Claim7.holds Tryz.pinned (.plain (OpenSpec.upto takeRefusesSpec)) takeRefusesUptoCard

/-- THE SECOND FORM's CARD OF 'rosarylaw16.TakeUnseen'. -/
def takeUnseenUptoCard : Claim7 := { stood := { row := takeUnseenUptoRow, standIns := [], harness := (true, "55bc1f42cbf7f82f0173af94658014485367f3bbd8fc65ed5667143bf4673f97"), looks := false }, kinds := [], alts := [], laidByText := true, laidKinds := [.data, .pinned], laidTests := true, laidLooks := .later }
def TakeUnseenUptoCardSaid : Prop := Claim7.holds Tryz.pinned (.plain (OpenSpec.upto takeUnseenSpec)) takeUnseenUptoCard

/-- THE SECOND FORM's CARD OF 'rosarylaw16.TakeWrong'. -/
def takeWrongUptoCard : Claim7 := { stood := { row := takeWrongUptoRow, standIns := [], harness := (true, "55bc1f42cbf7f82f0173af94658014485367f3bbd8fc65ed5667143bf4673f97"), looks := false }, kinds := [], alts := [], laidByText := true, laidKinds := [.data, .pinned], laidTests := true, laidLooks := .later }
def TakeWrongUptoCardSaid : Prop := Claim7.holds Tryz.pinned (.plain (OpenSpec.upto takeWrongSpec)) takeWrongUptoCard

/-- THE SECOND FORM's CARD OF 'rosarylaw15.GiveStops'. -/
def giveStopsUptoCard : Claim7 := { stood := { row := giveStopsUptoRow, standIns := [], harness := (true, "55bc1f42cbf7f82f0173af94658014485367f3bbd8fc65ed5667143bf4673f97"), looks := false }, kinds := [], alts := [], laidByText := true, laidKinds := [.data, .pinned], laidTests := true, laidLooks := .later }
def GiveStopsUptoCardSaid : Prop := Claim7.holds Tryz.pinned (.plain (OpenSpec.upto giveStopsSpec)) giveStopsUptoCard

/-- THE SECOND FORM's CARD OF 'rosarylaw15.GivePlays'. -/
def givePlaysUptoCard : Claim7 := { stood := { row := givePlaysUptoRow, standIns := [], harness := (true, "55bc1f42cbf7f82f0173af94658014485367f3bbd8fc65ed5667143bf4673f97"), looks := false }, kinds := [], alts := [], laidByText := true, laidKinds := [.data, .pinned], laidTests := true, laidLooks := .later }
def GivePlaysUptoCardSaid : Prop := Claim7.holds Tryz.pinned (.plain (OpenSpec.upto givePlaysSpec)) givePlaysUptoCard

/-- THE SECOND FORM's CARD OF 'rosarylaw16.TakeGives'. -/
def takeGivesUptoCard : Claim7 := { stood := { row := takeGivesUptoRow, standIns := [], harness := (true, "55bc1f42cbf7f82f0173af94658014485367f3bbd8fc65ed5667143bf4673f97"), looks := false }, kinds := [], alts := [], laidByText := true, laidKinds := [.data, .pinned], laidTests := true, laidLooks := .later }
def TakeGivesUptoCardSaid : Prop := Claim7.holds Tryz.pinned (.plain (OpenSpec.upto takeGivesSpec)) takeGivesUptoCard
end Rows
end Go.Proofs.YtpcmbnbdppembaaGreatDoor
