/-
  DERIVED. GIVEN WITH THE SEED: THE CARDS: each row of YtabindnaedchgaaDoorRows.lean that lists a variable, with what it lists TIED to the program's text (the seventh form; the later family's looks); each row that meets fmt, with fmt's text TOLD by the authors' own Lean function (tested against real Go, not proved from fmt's source: count such statements apart). THE CARD IS WHAT COUNTS. Prove the row's statement (the work); the ties are given (YtabindnaedchgaaDoorTie.lean); close each card by the builder's one call (the guide's Derived/Test/ToyasCard.lean, 'card_holds'). Laid BY PROGRAM, IN A SANDBOX (cutbox-door.mjs). By AI agents, Wed Nov 11 2026. No macro, syntax, notation, axiom, sorry.
-/
import Derived.Test.YtabindnaedchgaaDoorRows
import GoSem.ClaimSeven
namespace Go.Proofs.YtabindnaedchgaaDoor
namespace Rows

/-- THE TIED CARD OF 'laws.FnExactDeltaGet'. -/
def fnExactDeltaGetCard : Claim7 := { stood := { row := fnExactDeltaGetRow, standIns := [], harness := (true, "40a3fb54a50c693cc568ec53f2f570158fa536b8ae9aa2228fffb39a9f870627"), looks := false }, kinds := [], alts := [], laidByText := true, laidKinds := [.data, .pinned], laidTests := true, laidLooks := .later }
def FnExactDeltaGetCardSaid : Prop := Claim7.holds Tryd.pinned (.plain (OpenSpec.ofChange fnExactDeltaGetSpec)) fnExactDeltaGetCard

/-- THE TIED CARD OF 'laws.FnDeltaText'. -/
def fnDeltaTextCard : Claim7 := { stood := { row := fnDeltaTextRow, standIns := [], harness := (true, "40a3fb54a50c693cc568ec53f2f570158fa536b8ae9aa2228fffb39a9f870627"), looks := false }, kinds := [], alts := [], laidByText := true, laidKinds := [.data, .pinned], laidTests := true, laidLooks := .later }
def FnDeltaTextCardSaid : Prop := Claim7.holds Tryd.pinned (.plain (OpenSpec.ofChange fnDeltaTextSpec)) fnDeltaTextCard

/-- THE SECOND FORM's CARD OF 'laws.FnExactDeltaGet'. -/
def fnExactDeltaGetUptoCard : Claim7 := { stood := { row := fnExactDeltaGetUptoRow, standIns := [], harness := (true, "40a3fb54a50c693cc568ec53f2f570158fa536b8ae9aa2228fffb39a9f870627"), looks := false }, kinds := [], alts := [], laidByText := true, laidKinds := [.data, .pinned], laidTests := true, laidLooks := .later }
def FnExactDeltaGetUptoCardSaid : Prop := Claim7.holds Tryd.pinned (.plain (OpenSpec.upto fnExactDeltaGetSpec)) fnExactDeltaGetUptoCard

/-- THE SECOND FORM's CARD OF 'laws.FnDeltaText'. -/
def fnDeltaTextUptoCard : Claim7 := { stood := { row := fnDeltaTextUptoRow, standIns := [], harness := (true, "40a3fb54a50c693cc568ec53f2f570158fa536b8ae9aa2228fffb39a9f870627"), looks := false }, kinds := [], alts := [], laidByText := true, laidKinds := [.data, .pinned], laidTests := true, laidLooks := .later }
def FnDeltaTextUptoCardSaid : Prop := Claim7.holds Tryd.pinned (.plain (OpenSpec.upto fnDeltaTextSpec)) fnDeltaTextUptoCard
end Rows
end Go.Proofs.YtabindnaedchgaaDoor
