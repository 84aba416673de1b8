/-
  DERIVED. GIVEN WITH THE SEED: THE CARDS: each row of YtnjdoinlnbjedaaGreatDoorRows.lean that lists a variable, with what it lists TIED to the program's text (the seventh form; the later family's looks); each row that meets fmt, with fmt's text TOLD by the authors' own Lean function (tested against real Go, not proved from fmt's source: count such statements apart). THE CARD IS WHAT COUNTS. Prove the row's statement (the work); the ties are given (YtnjdoinlnbjedaaGreatDoorTie.lean); close each card by the builder's one call (the guide's Derived/Test/ToyasCard.lean, 'card_holds'). Laid BY PROGRAM, IN A SANDBOX (cutbox-door.mjs). By AI agents, Wed Nov 11 2026. No macro, syntax, notation, axiom, sorry.
-/
import Derived.Test.YtnjdoinlnbjedaaGreatDoorRows
import GoSem.ClaimSeven
namespace Go.Proofs.YtnjdoinlnbjedaaGreatDoor
namespace Rows

/-- THE TIED CARD OF 'laws.FnReleaseOk'. -/
def fnReleaseOkCard : Claim7 := { stood := { row := fnReleaseOkRow, standIns := [], harness := (true, "498ce25c311f4a7a92883e367033d331d458f42d3a061696ecb2a10f0211efd4"), looks := false }, kinds := [], alts := [], laidByText := true, laidKinds := [.data, .data, .data, .data, .data, .pinned], laidTests := true, laidLooks := .later }
def FnReleaseOkCardSaid : Prop := Claim7.holds Tryz.pinned (.plain (OpenSpec.ofChange fnReleaseOkSpec)) fnReleaseOkCard

/-- THE TIED CARD OF 'laws.FnExactReleaseOf'. -/
def fnExactReleaseOfCard : Claim7 := { stood := { row := fnExactReleaseOfRow, standIns := [], harness := (true, "498ce25c311f4a7a92883e367033d331d458f42d3a061696ecb2a10f0211efd4"), looks := false }, kinds := [], alts := [], laidByText := true, laidKinds := [.data, .data, .data, .data, .data, .pinned], laidTests := true, laidLooks := .later }
def FnExactReleaseOfCardSaid : Prop := Claim7.holds Tryz.pinned (.plain (OpenSpec.ofChange fnExactReleaseOfSpec)) fnExactReleaseOfCard

/-- THE TIED CARD OF 'laws.FnReleaseDo'. -/
def fnReleaseDoCard : Claim7 := { stood := { row := fnReleaseDoRow, standIns := [], harness := (true, "498ce25c311f4a7a92883e367033d331d458f42d3a061696ecb2a10f0211efd4"), looks := false }, kinds := [], alts := [], laidByText := true, laidKinds := [.data, .data, .data, .data, .data, .pinned], laidTests := true, laidLooks := .later }
def FnReleaseDoCardSaid : Prop := Claim7.holds Tryz.pinned (.plain (OpenSpec.ofChange fnReleaseDoSpec)) fnReleaseDoCard

/-- THE TIED CARD OF 'laws.FnExactReleaseDo'. -/
def fnExactReleaseDoCard : Claim7 := { stood := { row := fnExactReleaseDoRow, standIns := [], harness := (true, "498ce25c311f4a7a92883e367033d331d458f42d3a061696ecb2a10f0211efd4"), looks := false }, kinds := [], alts := [], laidByText := true, laidKinds := [.data, .data, .data, .data, .data, .pinned], laidTests := true, laidLooks := .later }
def FnExactReleaseDoCardSaid : Prop := Claim7.holds Tryz.pinned (.plain (OpenSpec.ofChange fnExactReleaseDoSpec)) fnExactReleaseDoCard

/-- THE SECOND FORM's CARD OF 'laws.FnReleaseOk'. -/
def fnReleaseOkUptoCard : Claim7 := { stood := { row := fnReleaseOkUptoRow, standIns := [], harness := (true, "498ce25c311f4a7a92883e367033d331d458f42d3a061696ecb2a10f0211efd4"), looks := false }, kinds := [], alts := [], laidByText := true, laidKinds := [.data, .data, .data, .data, .data, .pinned], laidTests := true, laidLooks := .later }
def FnReleaseOkUptoCardSaid : Prop := Claim7.holds Tryz.pinned (.plain (OpenSpec.upto fnReleaseOkSpec)) fnReleaseOkUptoCard

/-- THE SECOND FORM's CARD OF 'laws.FnExactReleaseOf'. -/
def fnExactReleaseOfUptoCard : Claim7 := { stood := { row := fnExactReleaseOfUptoRow, standIns := [], harness := (true, "498ce25c311f4a7a92883e367033d331d458f42d3a061696ecb2a10f0211efd4"), looks := false }, kinds := [], alts := [], laidByText := true, laidKinds := [.data, .data, .data, .data, .data, .pinned], laidTests := true, laidLooks := .later }
def FnExactReleaseOfUptoCardSaid : Prop := Claim7.holds Tryz.pinned (.plain (OpenSpec.upto fnExactReleaseOfSpec)) fnExactReleaseOfUptoCard

/-- THE SECOND FORM's CARD OF 'laws.FnReleaseDo'. -/
def fnReleaseDoUptoCard : Claim7 := { stood := { row := fnReleaseDoUptoRow, standIns := [], harness := (true, "498ce25c311f4a7a92883e367033d331d458f42d3a061696ecb2a10f0211efd4"), looks := false }, kinds := [], alts := [], laidByText := true, laidKinds := [.data, .data, .data, .data, .data, .pinned], laidTests := true, laidLooks := .later }
def FnReleaseDoUptoCardSaid : Prop := Claim7.holds Tryz.pinned (.plain (OpenSpec.upto fnReleaseDoSpec)) fnReleaseDoUptoCard

/-- THE SECOND FORM's CARD OF 'laws.FnExactReleaseDo'. -/
def fnExactReleaseDoUptoCard : Claim7 := { stood := { row := fnExactReleaseDoUptoRow, standIns := [], harness := (true, "498ce25c311f4a7a92883e367033d331d458f42d3a061696ecb2a10f0211efd4"), looks := false }, kinds := [], alts := [], laidByText := true, laidKinds := [.data, .data, .data, .data, .data, .pinned], laidTests := true, laidLooks := .later }
def FnExactReleaseDoUptoCardSaid : Prop := Claim7.holds Tryz.pinned (.plain (OpenSpec.upto fnExactReleaseDoSpec)) fnExactReleaseDoUptoCard
end Rows
end Go.Proofs.YtnjdoinlnbjedaaGreatDoor
