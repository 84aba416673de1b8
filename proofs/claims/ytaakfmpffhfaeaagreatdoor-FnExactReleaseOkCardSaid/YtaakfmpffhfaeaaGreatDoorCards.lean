/-
  DERIVED. GIVEN WITH THE SEED: THE CARDS: each row of YtaakfmpffhfaeaaGreatDoorRows.lean that lists a variable, with what it lists TIED to the program's text (the seventh form; the later family's looks); each row that meets fmt, with fmt's text TOLD by the authors' own Lean function (tested against real Go, not proved from fmt's source: count such statements apart). THE CARD IS WHAT COUNTS. Prove the row's statement (the work); the ties are given (YtaakfmpffhfaeaaGreatDoorTie.lean); close each card by the builder's one call (the guide's Derived/Test/ToyasCard.lean, 'card_holds'). Laid BY PROGRAM, IN A SANDBOX (cutbox-door.mjs). By AI agents, Wed Nov 11 2026. No macro, syntax, notation, axiom, sorry.
-/
import Derived.Test.YtaakfmpffhfaeaaGreatDoorRows
import GoSem.ClaimSeven
namespace Go.Proofs.YtaakfmpffhfaeaaGreatDoor
namespace Rows

/-- THE TIED CARD OF 'laws.FnExactReleasePut'. -/
def fnExactReleasePutCard : Claim7 := { stood := { row := fnExactReleasePutRow, standIns := [], harness := (true, "c44203f10b5727a6c79b90add0fb064d05617aebb7538da5c5172d2961d40a0e"), looks := true }, kinds := [], alts := [], laidByText := true, laidKinds := [.data, .data, .data, .data, .pinned], laidTests := true, laidLooks := .later }
def FnExactReleasePutCardSaid : Prop := Claim7.holds Tryz.pinned (.plain (OpenSpec.ofChange fnExactReleasePutSpec)) fnExactReleasePutCard

/-- THE TIED CARD OF 'laws.FnExactReleaseOk'. -/
def fnExactReleaseOkCard : Claim7 := { stood := { row := fnExactReleaseOkRow, standIns := [], harness := (true, "c44203f10b5727a6c79b90add0fb064d05617aebb7538da5c5172d2961d40a0e"), looks := true }, kinds := [], alts := [], laidByText := true, laidKinds := [.data, .data, .data, .data, .data, .pinned], laidTests := true, laidLooks := .later }
def FnExactReleaseOkCardSaid : Prop := Claim7.holds Tryz.pinned (.plain (OpenSpec.ofChange fnExactReleaseOkSpec)) fnExactReleaseOkCard

/-- THE TIED CARD OF 'laws.FnExactReleaseGet'. -/
def fnExactReleaseGetCard : Claim7 := { stood := { row := fnExactReleaseGetRow, standIns := [], harness := (true, "c44203f10b5727a6c79b90add0fb064d05617aebb7538da5c5172d2961d40a0e"), looks := true }, kinds := [], alts := [], laidByText := true, laidKinds := [.data, .data, .data, .data, .sentinel, .sentinel, .pinned], laidTests := true, laidLooks := .later }
def FnExactReleaseGetCardSaid : Prop := Claim7.holds Tryz.pinned (.plain (OpenSpec.ofChange fnExactReleaseGetSpec)) fnExactReleaseGetCard

/-- THE TIED CARD OF 'laws.FnExactReleaseOf'. -/
def fnExactReleaseOfCard : Claim7 := { stood := { row := fnExactReleaseOfRow, standIns := [], harness := (true, "c44203f10b5727a6c79b90add0fb064d05617aebb7538da5c5172d2961d40a0e"), looks := true }, kinds := [], alts := [], laidByText := true, laidKinds := [.data, .data, .data, .data, .data, .pinned], laidTests := true, laidLooks := .later }
def FnExactReleaseOfCardSaid : Prop := Claim7.holds Tryz.pinned (.plain (OpenSpec.ofChange fnExactReleaseOfSpec)) fnExactReleaseOfCard

/-- THE SECOND FORM's CARD OF 'laws.FnExactReleasePut'. -/
def fnExactReleasePutUptoCard : Claim7 := { stood := { row := fnExactReleasePutUptoRow, standIns := [], harness := (true, "c44203f10b5727a6c79b90add0fb064d05617aebb7538da5c5172d2961d40a0e"), looks := true }, kinds := [], alts := [], laidByText := true, laidKinds := [.data, .data, .data, .data, .pinned], laidTests := true, laidLooks := .later }
def FnExactReleasePutUptoCardSaid : Prop := Claim7.holds Tryz.pinned (.plain (OpenSpec.upto fnExactReleasePutSpec)) fnExactReleasePutUptoCard

/-- THE SECOND FORM's CARD OF 'laws.FnExactReleaseOk'. -/
def fnExactReleaseOkUptoCard : Claim7 := { stood := { row := fnExactReleaseOkUptoRow, standIns := [], harness := (true, "c44203f10b5727a6c79b90add0fb064d05617aebb7538da5c5172d2961d40a0e"), looks := true }, kinds := [], alts := [], laidByText := true, laidKinds := [.data, .data, .data, .data, .data, .pinned], laidTests := true, laidLooks := .later }
def FnExactReleaseOkUptoCardSaid : Prop := Claim7.holds Tryz.pinned (.plain (OpenSpec.upto fnExactReleaseOkSpec)) fnExactReleaseOkUptoCard

/-- THE SECOND FORM's CARD OF 'laws.FnExactReleaseGet'. -/
def fnExactReleaseGetUptoCard : Claim7 := { stood := { row := fnExactReleaseGetUptoRow, standIns := [], harness := (true, "c44203f10b5727a6c79b90add0fb064d05617aebb7538da5c5172d2961d40a0e"), looks := true }, kinds := [], alts := [], laidByText := true, laidKinds := [.data, .data, .data, .data, .sentinel, .sentinel, .pinned], laidTests := true, laidLooks := .later }
def FnExactReleaseGetUptoCardSaid : Prop := Claim7.holds Tryz.pinned (.plain (OpenSpec.upto fnExactReleaseGetSpec)) fnExactReleaseGetUptoCard

/-- THE SECOND FORM's CARD OF 'laws.FnExactReleaseOf'. -/
def fnExactReleaseOfUptoCard : Claim7 := { stood := { row := fnExactReleaseOfUptoRow, standIns := [], harness := (true, "c44203f10b5727a6c79b90add0fb064d05617aebb7538da5c5172d2961d40a0e"), looks := true }, kinds := [], alts := [], laidByText := true, laidKinds := [.data, .data, .data, .data, .data, .pinned], laidTests := true, laidLooks := .later }
def FnExactReleaseOfUptoCardSaid : Prop := Claim7.holds Tryz.pinned (.plain (OpenSpec.upto fnExactReleaseOfSpec)) fnExactReleaseOfUptoCard
end Rows
end Go.Proofs.YtaakfmpffhfaeaaGreatDoor
