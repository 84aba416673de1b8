/-
  DERIVED. GIVEN WITH THE SEED: THE CARDS: each row of YtjfkeknnjjlepaaGreatDoorRows.lean that lists a variable, with what it lists TIED to the program's text (the seventh form; the later family's looks); each row that meets fmt, with fmt's text TOLD by the authors' own Lean function (tested against real Go, not proved from fmt's source: count such statements apart). THE CARD IS WHAT COUNTS. Prove the row's statement (the work); the ties are given (YtjfkeknnjjlepaaGreatDoorTie.lean); close each card by the builder's one call (the guide's Derived/Test/ToyasCard.lean, 'card_holds'). Laid BY PROGRAM, IN A SANDBOX (cutbox-door.mjs). By AI agents, Wed Nov 11 2026. No macro, syntax, notation, axiom, sorry.
-/
import Derived.Test.YtjfkeknnjjlepaaGreatDoorRows
import GoSem.ClaimSeven
namespace Go.Proofs.YtjfkeknnjjlepaaGreatDoor
namespace Rows

/-- THE TIED CARD OF 'laws.FnExactReleaseGet'. -/
def fnExactReleaseGetCard : Claim7 := { stood := { row := fnExactReleaseGetRow, standIns := [], harness := (true, "f2630d52c69334c74f1bedf5748e4d9a908019f179f86bcebd3be4c177d652e3"), looks := true }, kinds := [], alts := [], laidByText := true, laidKinds := [.data, .data, .data, .data, .sentinel, .sentinel, .pinned], laidTests := true, laidLooks := .later }
def FnExactReleaseGetCardSaid : Prop := Claim7.holds Tryz.pinned (.plain (OpenSpec.ofChange fnExactReleaseGetSpec)) fnExactReleaseGetCard

/-- THE TIED CARD OF 'laws.FnReleaseText'. -/
def fnReleaseTextCard : Claim7 := { stood := { row := fnReleaseTextRow, standIns := [], harness := (true, "f2630d52c69334c74f1bedf5748e4d9a908019f179f86bcebd3be4c177d652e3"), looks := true }, kinds := [], alts := [], laidByText := true, laidKinds := [.data, .data, .data, .data, .sentinel, .sentinel, .pinned], laidTests := true, laidLooks := .later }
def FnReleaseTextCardSaid : Prop := Claim7.holds Tryz.pinned (.plain (OpenSpec.ofChange fnReleaseTextSpec)) fnReleaseTextCard

/-- THE TIED CARD OF 'laws.FnReleaseOf'. -/
def fnReleaseOfCard : Claim7 := { stood := { row := fnReleaseOfRow, standIns := [], harness := (true, "f2630d52c69334c74f1bedf5748e4d9a908019f179f86bcebd3be4c177d652e3"), looks := true }, kinds := [], alts := [], laidByText := true, laidKinds := [.data, .data, .data, .data, .sentinel, .sentinel, .data, .pinned], laidTests := true, laidLooks := .later }
def FnReleaseOfCardSaid : Prop := Claim7.holds Tryz.pinned (.plain (OpenSpec.ofChange fnReleaseOfSpec)) fnReleaseOfCard

/-- THE TIED CARD OF 'laws.FnClientNew'. -/
def fnClientNewCard : Claim7 := { stood := { row := fnClientNewRow, standIns := [], harness := (true, "f2630d52c69334c74f1bedf5748e4d9a908019f179f86bcebd3be4c177d652e3"), looks := true }, kinds := [], alts := [], laidByText := true, laidKinds := [.data, .data, .data, .data, .sentinel, .sentinel, .data, .pinned], laidTests := true, laidLooks := .later }
def FnClientNewCardSaid : Prop := Claim7.holds Tryz.pinned (.plain (OpenSpec.ofChange fnClientNewSpec)) fnClientNewCard

/-- THE TIED CARD OF 'laws.FnExactFileGet'. -/
def fnExactFileGetCard : Claim7 := { stood := { row := fnExactFileGetRow, standIns := [], harness := (true, "f2630d52c69334c74f1bedf5748e4d9a908019f179f86bcebd3be4c177d652e3"), looks := true }, kinds := [], alts := [], laidByText := true, laidKinds := [.data, .data, .data, .data, .sentinel, .sentinel, .data, .pinned], laidTests := true, laidLooks := .later }
def FnExactFileGetCardSaid : Prop := Claim7.holds Tryz.pinned (.plain (OpenSpec.ofChange fnExactFileGetSpec)) fnExactFileGetCard

/-- THE TIED CARD OF 'laws.FnExactClientOk'. -/
def fnExactClientOkCard : Claim7 := { stood := { row := fnExactClientOkRow, standIns := [], harness := (true, "f2630d52c69334c74f1bedf5748e4d9a908019f179f86bcebd3be4c177d652e3"), looks := true }, kinds := [], alts := [], laidByText := true, laidKinds := [.data, .data, .data, .data, .sentinel, .sentinel, .data, .pinned], laidTests := true, laidLooks := .later }
def FnExactClientOkCardSaid : Prop := Claim7.holds Tryz.pinned (.plain (OpenSpec.ofChange fnExactClientOkSpec)) fnExactClientOkCard

/-- THE TIED CARD OF 'laws.FnExactClientRise'. -/
def fnExactClientRiseCard : Claim7 := { stood := { row := fnExactClientRiseRow, standIns := [], harness := (true, "f2630d52c69334c74f1bedf5748e4d9a908019f179f86bcebd3be4c177d652e3"), looks := true }, kinds := [], alts := [], laidByText := true, laidKinds := [.data, .data, .data, .data, .sentinel, .sentinel, .data, .pinned], laidTests := true, laidLooks := .later }
def FnExactClientRiseCardSaid : Prop := Claim7.holds Tryz.pinned (.plain (OpenSpec.ofChange fnExactClientRiseSpec)) fnExactClientRiseCard

/-- THE TIED CARD OF 'laws.FnExactClientTake'. -/
def fnExactClientTakeCard : Claim7 := { stood := { row := fnExactClientTakeRow, standIns := [], harness := (true, "f2630d52c69334c74f1bedf5748e4d9a908019f179f86bcebd3be4c177d652e3"), looks := true }, kinds := [], alts := [], laidByText := true, laidKinds := [.data, .data, .data, .data, .sentinel, .sentinel, .data, .pinned], laidTests := true, laidLooks := .later }
def FnExactClientTakeCardSaid : Prop := Claim7.holds Tryz.pinned (.plain (OpenSpec.ofChange fnExactClientTakeSpec)) fnExactClientTakeCard

/-- THE TIED CARD OF 'laws.FnExactClientFall'. -/
def fnExactClientFallCard : Claim7 := { stood := { row := fnExactClientFallRow, standIns := [], harness := (true, "f2630d52c69334c74f1bedf5748e4d9a908019f179f86bcebd3be4c177d652e3"), looks := true }, kinds := [], alts := [], laidByText := true, laidKinds := [.data, .data, .data, .data, .sentinel, .sentinel, .data, .pinned], laidTests := true, laidLooks := .later }
def FnExactClientFallCardSaid : Prop := Claim7.holds Tryz.pinned (.plain (OpenSpec.ofChange fnExactClientFallSpec)) fnExactClientFallCard

/-- THE TIED CARD OF 'laws.FnFileGet'. -/
def fnFileGetCard : Claim7 := { stood := { row := fnFileGetRow, standIns := [], harness := (true, "f2630d52c69334c74f1bedf5748e4d9a908019f179f86bcebd3be4c177d652e3"), looks := true }, kinds := [], alts := [], laidByText := true, laidKinds := [.data, .data, .data, .data, .sentinel, .sentinel, .data, .pinned], laidTests := true, laidLooks := .later }
def FnFileGetCardSaid : Prop := Claim7.holds Tryz.pinned (.plain (OpenSpec.ofChange fnFileGetSpec)) fnFileGetCard

/-- THE TIED CARD OF 'laws.FnClientRise'. -/
def fnClientRiseCard : Claim7 := { stood := { row := fnClientRiseRow, standIns := [], harness := (true, "f2630d52c69334c74f1bedf5748e4d9a908019f179f86bcebd3be4c177d652e3"), looks := true }, kinds := [], alts := [], laidByText := true, laidKinds := [.data, .data, .data, .data, .sentinel, .sentinel, .data, .pinned], laidTests := true, laidLooks := .later }
def FnClientRiseCardSaid : Prop := Claim7.holds Tryz.pinned (.plain (OpenSpec.ofChange fnClientRiseSpec)) fnClientRiseCard

/-- THE TIED CARD OF 'laws.FnClientFile'. -/
def fnClientFileCard : Claim7 := { stood := { row := fnClientFileRow, standIns := [], harness := (true, "f2630d52c69334c74f1bedf5748e4d9a908019f179f86bcebd3be4c177d652e3"), looks := true }, kinds := [], alts := [], laidByText := true, laidKinds := [.data, .data, .data, .data, .sentinel, .sentinel, .data, .pinned], laidTests := true, laidLooks := .later }
def FnClientFileCardSaid : Prop := Claim7.holds Tryz.pinned (.plain (OpenSpec.ofChange fnClientFileSpec)) fnClientFileCard

/-- THE TIED CARD OF 'laws.FnClientTake'. -/
def fnClientTakeCard : Claim7 := { stood := { row := fnClientTakeRow, standIns := [], harness := (true, "f2630d52c69334c74f1bedf5748e4d9a908019f179f86bcebd3be4c177d652e3"), looks := true }, kinds := [], alts := [], laidByText := true, laidKinds := [.data, .data, .data, .data, .sentinel, .sentinel, .data, .pinned], laidTests := true, laidLooks := .later }
def FnClientTakeCardSaid : Prop := Claim7.holds Tryz.pinned (.plain (OpenSpec.ofChange fnClientTakeSpec)) fnClientTakeCard

/-- THE TIED CARD OF 'laws.FnClientFall'. -/
def fnClientFallCard : Claim7 := { stood := { row := fnClientFallRow, standIns := [], harness := (true, "f2630d52c69334c74f1bedf5748e4d9a908019f179f86bcebd3be4c177d652e3"), looks := true }, kinds := [], alts := [], laidByText := true, laidKinds := [.data, .data, .data, .data, .sentinel, .sentinel, .data, .pinned], laidTests := true, laidLooks := .later }
def FnClientFallCardSaid : Prop := Claim7.holds Tryz.pinned (.plain (OpenSpec.ofChange fnClientFallSpec)) fnClientFallCard

/-- THE SECOND FORM's CARD OF 'laws.FnExactReleaseGet'. -/
def fnExactReleaseGetUptoCard : Claim7 := { stood := { row := fnExactReleaseGetUptoRow, standIns := [], harness := (true, "f2630d52c69334c74f1bedf5748e4d9a908019f179f86bcebd3be4c177d652e3"), looks := true }, kinds := [], alts := [], laidByText := true, laidKinds := [.data, .data, .data, .data, .sentinel, .sentinel, .pinned], laidTests := true, laidLooks := .later }
def FnExactReleaseGetUptoCardSaid : Prop := Claim7.holds Tryz.pinned (.plain (OpenSpec.upto fnExactReleaseGetSpec)) fnExactReleaseGetUptoCard

/-- THE SECOND FORM's CARD OF 'laws.FnReleaseText'. -/
def fnReleaseTextUptoCard : Claim7 := { stood := { row := fnReleaseTextUptoRow, standIns := [], harness := (true, "f2630d52c69334c74f1bedf5748e4d9a908019f179f86bcebd3be4c177d652e3"), looks := true }, kinds := [], alts := [], laidByText := true, laidKinds := [.data, .data, .data, .data, .sentinel, .sentinel, .pinned], laidTests := true, laidLooks := .later }
def FnReleaseTextUptoCardSaid : Prop := Claim7.holds Tryz.pinned (.plain (OpenSpec.upto fnReleaseTextSpec)) fnReleaseTextUptoCard

/-- THE SECOND FORM's CARD OF 'laws.FnReleaseOf'. -/
def fnReleaseOfUptoCard : Claim7 := { stood := { row := fnReleaseOfUptoRow, standIns := [], harness := (true, "f2630d52c69334c74f1bedf5748e4d9a908019f179f86bcebd3be4c177d652e3"), looks := true }, kinds := [], alts := [], laidByText := true, laidKinds := [.data, .data, .data, .data, .sentinel, .sentinel, .data, .pinned], laidTests := true, laidLooks := .later }
def FnReleaseOfUptoCardSaid : Prop := Claim7.holds Tryz.pinned (.plain (OpenSpec.upto fnReleaseOfSpec)) fnReleaseOfUptoCard

/-- THE SECOND FORM's CARD OF 'laws.FnClientNew'. -/
def fnClientNewUptoCard : Claim7 := { stood := { row := fnClientNewUptoRow, standIns := [], harness := (true, "f2630d52c69334c74f1bedf5748e4d9a908019f179f86bcebd3be4c177d652e3"), looks := true }, kinds := [], alts := [], laidByText := true, laidKinds := [.data, .data, .data, .data, .sentinel, .sentinel, .data, .pinned], laidTests := true, laidLooks := .later }
def FnClientNewUptoCardSaid : Prop := Claim7.holds Tryz.pinned (.plain (OpenSpec.upto fnClientNewSpec)) fnClientNewUptoCard

/-- THE SECOND FORM's CARD OF 'laws.FnExactFileGet'. -/
def fnExactFileGetUptoCard : Claim7 := { stood := { row := fnExactFileGetUptoRow, standIns := [], harness := (true, "f2630d52c69334c74f1bedf5748e4d9a908019f179f86bcebd3be4c177d652e3"), looks := true }, kinds := [], alts := [], laidByText := true, laidKinds := [.data, .data, .data, .data, .sentinel, .sentinel, .data, .pinned], laidTests := true, laidLooks := .later }
def FnExactFileGetUptoCardSaid : Prop := Claim7.holds Tryz.pinned (.plain (OpenSpec.upto fnExactFileGetSpec)) fnExactFileGetUptoCard

/-- THE SECOND FORM's CARD OF 'laws.FnExactClientOk'. -/
def fnExactClientOkUptoCard : Claim7 := { stood := { row := fnExactClientOkUptoRow, standIns := [], harness := (true, "f2630d52c69334c74f1bedf5748e4d9a908019f179f86bcebd3be4c177d652e3"), looks := true }, kinds := [], alts := [], laidByText := true, laidKinds := [.data, .data, .data, .data, .sentinel, .sentinel, .data, .pinned], laidTests := true, laidLooks := .later }
def FnExactClientOkUptoCardSaid : Prop := Claim7.holds Tryz.pinned (.plain (OpenSpec.upto fnExactClientOkSpec)) fnExactClientOkUptoCard

/-- THE SECOND FORM's CARD OF 'laws.FnExactClientRise'. -/
def fnExactClientRiseUptoCard : Claim7 := { stood := { row := fnExactClientRiseUptoRow, standIns := [], harness := (true, "f2630d52c69334c74f1bedf5748e4d9a908019f179f86bcebd3be4c177d652e3"), looks := true }, kinds := [], alts := [], laidByText := true, laidKinds := [.data, .data, .data, .data, .sentinel, .sentinel, .data, .pinned], laidTests := true, laidLooks := .later }
def FnExactClientRiseUptoCardSaid : Prop := Claim7.holds Tryz.pinned (.plain (OpenSpec.upto fnExactClientRiseSpec)) fnExactClientRiseUptoCard

/-- THE SECOND FORM's CARD OF 'laws.FnExactClientTake'. -/
def fnExactClientTakeUptoCard : Claim7 := { stood := { row := fnExactClientTakeUptoRow, standIns := [], harness := (true, "f2630d52c69334c74f1bedf5748e4d9a908019f179f86bcebd3be4c177d652e3"), looks := true }, kinds := [], alts := [], laidByText := true, laidKinds := [.data, .data, .data, .data, .sentinel, .sentinel, .data, .pinned], laidTests := true, laidLooks := .later }
def FnExactClientTakeUptoCardSaid : Prop := Claim7.holds Tryz.pinned (.plain (OpenSpec.upto fnExactClientTakeSpec)) fnExactClientTakeUptoCard

/-- THE SECOND FORM's CARD OF 'laws.FnExactClientFall'. -/
def fnExactClientFallUptoCard : Claim7 := { stood := { row := fnExactClientFallUptoRow, standIns := [], harness := (true, "f2630d52c69334c74f1bedf5748e4d9a908019f179f86bcebd3be4c177d652e3"), looks := true }, kinds := [], alts := [], laidByText := true, laidKinds := [.data, .data, .data, .data, .sentinel, .sentinel, .data, .pinned], laidTests := true, laidLooks := .later }
def FnExactClientFallUptoCardSaid : Prop := Claim7.holds Tryz.pinned (.plain (OpenSpec.upto fnExactClientFallSpec)) fnExactClientFallUptoCard

/-- THE SECOND FORM's CARD OF 'laws.FnFileGet'. -/
def fnFileGetUptoCard : Claim7 := { stood := { row := fnFileGetUptoRow, standIns := [], harness := (true, "f2630d52c69334c74f1bedf5748e4d9a908019f179f86bcebd3be4c177d652e3"), looks := true }, kinds := [], alts := [], laidByText := true, laidKinds := [.data, .data, .data, .data, .sentinel, .sentinel, .data, .pinned], laidTests := true, laidLooks := .later }
def FnFileGetUptoCardSaid : Prop := Claim7.holds Tryz.pinned (.plain (OpenSpec.upto fnFileGetSpec)) fnFileGetUptoCard

/-- THE SECOND FORM's CARD OF 'laws.FnClientRise'. -/
def fnClientRiseUptoCard : Claim7 := { stood := { row := fnClientRiseUptoRow, standIns := [], harness := (true, "f2630d52c69334c74f1bedf5748e4d9a908019f179f86bcebd3be4c177d652e3"), looks := true }, kinds := [], alts := [], laidByText := true, laidKinds := [.data, .data, .data, .data, .sentinel, .sentinel, .data, .pinned], laidTests := true, laidLooks := .later }
def FnClientRiseUptoCardSaid : Prop := Claim7.holds Tryz.pinned (.plain (OpenSpec.upto fnClientRiseSpec)) fnClientRiseUptoCard

/-- THE SECOND FORM's CARD OF 'laws.FnClientFile'. -/
def fnClientFileUptoCard : Claim7 := { stood := { row := fnClientFileUptoRow, standIns := [], harness := (true, "f2630d52c69334c74f1bedf5748e4d9a908019f179f86bcebd3be4c177d652e3"), looks := true }, kinds := [], alts := [], laidByText := true, laidKinds := [.data, .data, .data, .data, .sentinel, .sentinel, .data, .pinned], laidTests := true, laidLooks := .later }
def FnClientFileUptoCardSaid : Prop := Claim7.holds Tryz.pinned (.plain (OpenSpec.upto fnClientFileSpec)) fnClientFileUptoCard

/-- THE SECOND FORM's CARD OF 'laws.FnClientTake'. -/
def fnClientTakeUptoCard : Claim7 := { stood := { row := fnClientTakeUptoRow, standIns := [], harness := (true, "f2630d52c69334c74f1bedf5748e4d9a908019f179f86bcebd3be4c177d652e3"), looks := true }, kinds := [], alts := [], laidByText := true, laidKinds := [.data, .data, .data, .data, .sentinel, .sentinel, .data, .pinned], laidTests := true, laidLooks := .later }
def FnClientTakeUptoCardSaid : Prop := Claim7.holds Tryz.pinned (.plain (OpenSpec.upto fnClientTakeSpec)) fnClientTakeUptoCard

/-- THE SECOND FORM's CARD OF 'laws.FnClientFall'. -/
def fnClientFallUptoCard : Claim7 := { stood := { row := fnClientFallUptoRow, standIns := [], harness := (true, "f2630d52c69334c74f1bedf5748e4d9a908019f179f86bcebd3be4c177d652e3"), looks := true }, kinds := [], alts := [], laidByText := true, laidKinds := [.data, .data, .data, .data, .sentinel, .sentinel, .data, .pinned], laidTests := true, laidLooks := .later }
def FnClientFallUptoCardSaid : Prop := Claim7.holds Tryz.pinned (.plain (OpenSpec.upto fnClientFallSpec)) fnClientFallUptoCard
end Rows
end Go.Proofs.YtjfkeknnjjlepaaGreatDoor
