/-
  DERIVED. GIVEN WITH THE SEED: THE CARDS: each row of YtndjhgjakdkkaaaDoorRows.lean that lists a variable, with what it lists TIED to the program's text (the seventh form; the later family's looks); each row that meets fmt, with fmt's text TOLD by the authors' own Lean function (tested against real Go, not proved from fmt's source: count such statements apart). THE CARD IS WHAT COUNTS. Prove the row's statement (the work); the ties are given (YtndjhgjakdkkaaaDoorTie.lean); close each card by the builder's one call (the guide's Derived/Test/ToyasCard.lean, 'card_holds'). Laid BY PROGRAM, IN A SANDBOX (cutbox-door.mjs). By AI agents, Wed Nov 11 2026. No macro, syntax, notation, axiom, sorry.
-/
import Derived.Test.YtndjhgjakdkkaaaDoorRows
import GoSem.ClaimSeven
namespace Go.Proofs.YtndjhgjakdkkaaaDoor
namespace Rows

/-- THE TIED CARD OF 'laws.FnExactHashSum'. -/
def fnExactHashSumCard : Claim7 := { stood := { row := fnExactHashSumRow, standIns := [], harness := (true, "b603008497dc4d2233525165c61e1b9febc52fb0ae47104738ca444bf20d2780"), looks := false }, kinds := [], alts := [], laidByText := true, laidKinds := [.data], laidTests := true, laidLooks := .later }
def FnExactHashSumCardSaid : Prop := Claim7.holds Tryd.pinned (.plain (OpenSpec.ofChange fnExactHashSumSpec)) fnExactHashSumCard

/-- THE TIED CARD OF 'laws.FnExactSealOf'. -/
def fnExactSealOfCard : Claim7 := { stood := { row := fnExactSealOfRow, standIns := [], harness := (true, "b603008497dc4d2233525165c61e1b9febc52fb0ae47104738ca444bf20d2780"), looks := false }, kinds := [], alts := [], laidByText := true, laidKinds := [.data], laidTests := true, laidLooks := .later }
def FnExactSealOfCardSaid : Prop := Claim7.holds Tryd.pinned (.plain (OpenSpec.ofChange fnExactSealOfSpec)) fnExactSealOfCard

/-- THE TIED CARD OF 'laws.FnHashSum'. -/
def fnHashSumCard : Claim7 := { stood := { row := fnHashSumRow, standIns := [], harness := (true, "b603008497dc4d2233525165c61e1b9febc52fb0ae47104738ca444bf20d2780"), looks := false }, kinds := [], alts := [], laidByText := true, laidKinds := [.data], laidTests := true, laidLooks := .later }
def FnHashSumCardSaid : Prop := Claim7.holds Tryd.pinned (.plain (OpenSpec.ofChange fnHashSumSpec)) fnHashSumCard

/-- THE TIED CARD OF 'laws.FnSealOf'. -/
def fnSealOfCard : Claim7 := { stood := { row := fnSealOfRow, standIns := [], harness := (true, "b603008497dc4d2233525165c61e1b9febc52fb0ae47104738ca444bf20d2780"), looks := false }, kinds := [], alts := [], laidByText := true, laidKinds := [.data], laidTests := true, laidLooks := .later }
def FnSealOfCardSaid : Prop := Claim7.holds Tryd.pinned (.plain (OpenSpec.ofChange fnSealOfSpec)) fnSealOfCard

/-- THE TIED CARD OF 'laws.FnExactSplitBack'. -/
def fnExactSplitBackCard : Claim7 := { stood := { row := fnExactSplitBackRow, standIns := [], harness := (true, "b603008497dc4d2233525165c61e1b9febc52fb0ae47104738ca444bf20d2780"), looks := false }, kinds := [], alts := [], laidByText := true, laidKinds := [.data, .pinned], laidTests := true, laidLooks := .later }
def FnExactSplitBackCardSaid : Prop := Claim7.holds Tryd.pinned (.plain (OpenSpec.ofChange fnExactSplitBackSpec)) fnExactSplitBackCard

/-- THE TIED CARD OF 'laws.FnUnwrap'. -/
def fnUnwrapCard : Claim7 := { stood := { row := fnUnwrapRow, standIns := [], harness := (true, "b603008497dc4d2233525165c61e1b9febc52fb0ae47104738ca444bf20d2780"), looks := false }, kinds := [], alts := [], laidByText := true, laidKinds := [.data, .pinned], laidTests := true, laidLooks := .later }
def FnUnwrapCardSaid : Prop := Claim7.holds Tryd.pinned (.plain (OpenSpec.ofChange fnUnwrapSpec)) fnUnwrapCard

/-- THE TIED CARD OF 'laws.FnExactPatternPut'. -/
def fnExactPatternPutCard : Claim7 := { stood := { row := fnExactPatternPutRow, standIns := [], harness := (true, "b603008497dc4d2233525165c61e1b9febc52fb0ae47104738ca444bf20d2780"), looks := false }, kinds := [], alts := [], laidByText := true, laidKinds := [.data, .data, .data], laidTests := true, laidLooks := .later }
def FnExactPatternPutCardSaid : Prop := Claim7.holds Tryd.pinned (.plain (OpenSpec.ofChange fnExactPatternPutSpec)) fnExactPatternPutCard

/-- THE TIED CARD OF 'laws.FnExactPatternGet'. -/
def fnExactPatternGetCard : Claim7 := { stood := { row := fnExactPatternGetRow, standIns := [], harness := (true, "b603008497dc4d2233525165c61e1b9febc52fb0ae47104738ca444bf20d2780"), looks := false }, kinds := [], alts := [], laidByText := true, laidKinds := [.data, .data, .data], laidTests := true, laidLooks := .later }
def FnExactPatternGetCardSaid : Prop := Claim7.holds Tryd.pinned (.plain (OpenSpec.ofChange fnExactPatternGetSpec)) fnExactPatternGetCard

/-- THE TIED CARD OF 'laws.FnPattern'. -/
def fnPatternCard : Claim7 := { stood := { row := fnPatternRow, standIns := [], harness := (true, "b603008497dc4d2233525165c61e1b9febc52fb0ae47104738ca444bf20d2780"), looks := false }, kinds := [], alts := [], laidByText := true, laidKinds := [.data, .data, .data], laidTests := true, laidLooks := .later }
def FnPatternCardSaid : Prop := Claim7.holds Tryd.pinned (.plain (OpenSpec.ofChange fnPatternSpec)) fnPatternCard

/-- THE SECOND FORM's CARD OF 'laws.FnExactHashSum'. -/
def fnExactHashSumUptoCard : Claim7 := { stood := { row := fnExactHashSumUptoRow, standIns := [], harness := (true, "b603008497dc4d2233525165c61e1b9febc52fb0ae47104738ca444bf20d2780"), looks := false }, kinds := [], alts := [], laidByText := true, laidKinds := [.data], laidTests := true, laidLooks := .later }
def FnExactHashSumUptoCardSaid : Prop := Claim7.holds Tryd.pinned (.plain (OpenSpec.upto fnExactHashSumSpec)) fnExactHashSumUptoCard

/-- THE SECOND FORM's CARD OF 'laws.FnExactSealOf'. -/
def fnExactSealOfUptoCard : Claim7 := { stood := { row := fnExactSealOfUptoRow, standIns := [], harness := (true, "b603008497dc4d2233525165c61e1b9febc52fb0ae47104738ca444bf20d2780"), looks := false }, kinds := [], alts := [], laidByText := true, laidKinds := [.data], laidTests := true, laidLooks := .later }
def FnExactSealOfUptoCardSaid : Prop := Claim7.holds Tryd.pinned (.plain (OpenSpec.upto fnExactSealOfSpec)) fnExactSealOfUptoCard

/-- THE SECOND FORM's CARD OF 'laws.FnHashSum'. -/
def fnHashSumUptoCard : Claim7 := { stood := { row := fnHashSumUptoRow, standIns := [], harness := (true, "b603008497dc4d2233525165c61e1b9febc52fb0ae47104738ca444bf20d2780"), looks := false }, kinds := [], alts := [], laidByText := true, laidKinds := [.data], laidTests := true, laidLooks := .later }
def FnHashSumUptoCardSaid : Prop := Claim7.holds Tryd.pinned (.plain (OpenSpec.upto fnHashSumSpec)) fnHashSumUptoCard

/-- THE SECOND FORM's CARD OF 'laws.FnSealOf'. -/
def fnSealOfUptoCard : Claim7 := { stood := { row := fnSealOfUptoRow, standIns := [], harness := (true, "b603008497dc4d2233525165c61e1b9febc52fb0ae47104738ca444bf20d2780"), looks := false }, kinds := [], alts := [], laidByText := true, laidKinds := [.data], laidTests := true, laidLooks := .later }
def FnSealOfUptoCardSaid : Prop := Claim7.holds Tryd.pinned (.plain (OpenSpec.upto fnSealOfSpec)) fnSealOfUptoCard

/-- THE SECOND FORM's CARD OF 'laws.FnExactSplitBack'. -/
def fnExactSplitBackUptoCard : Claim7 := { stood := { row := fnExactSplitBackUptoRow, standIns := [], harness := (true, "b603008497dc4d2233525165c61e1b9febc52fb0ae47104738ca444bf20d2780"), looks := false }, kinds := [], alts := [], laidByText := true, laidKinds := [.data, .pinned], laidTests := true, laidLooks := .later }
def FnExactSplitBackUptoCardSaid : Prop := Claim7.holds Tryd.pinned (.plain (OpenSpec.upto fnExactSplitBackSpec)) fnExactSplitBackUptoCard

/-- THE SECOND FORM's CARD OF 'laws.FnUnwrap'. -/
def fnUnwrapUptoCard : Claim7 := { stood := { row := fnUnwrapUptoRow, standIns := [], harness := (true, "b603008497dc4d2233525165c61e1b9febc52fb0ae47104738ca444bf20d2780"), looks := false }, kinds := [], alts := [], laidByText := true, laidKinds := [.data, .pinned], laidTests := true, laidLooks := .later }
def FnUnwrapUptoCardSaid : Prop := Claim7.holds Tryd.pinned (.plain (OpenSpec.upto fnUnwrapSpec)) fnUnwrapUptoCard

/-- THE SECOND FORM's CARD OF 'laws.FnExactPatternPut'. -/
def fnExactPatternPutUptoCard : Claim7 := { stood := { row := fnExactPatternPutUptoRow, standIns := [], harness := (true, "b603008497dc4d2233525165c61e1b9febc52fb0ae47104738ca444bf20d2780"), looks := false }, kinds := [], alts := [], laidByText := true, laidKinds := [.data, .data, .data], laidTests := true, laidLooks := .later }
def FnExactPatternPutUptoCardSaid : Prop := Claim7.holds Tryd.pinned (.plain (OpenSpec.upto fnExactPatternPutSpec)) fnExactPatternPutUptoCard

/-- THE SECOND FORM's CARD OF 'laws.FnExactPatternGet'. -/
def fnExactPatternGetUptoCard : Claim7 := { stood := { row := fnExactPatternGetUptoRow, standIns := [], harness := (true, "b603008497dc4d2233525165c61e1b9febc52fb0ae47104738ca444bf20d2780"), looks := false }, kinds := [], alts := [], laidByText := true, laidKinds := [.data, .data, .data], laidTests := true, laidLooks := .later }
def FnExactPatternGetUptoCardSaid : Prop := Claim7.holds Tryd.pinned (.plain (OpenSpec.upto fnExactPatternGetSpec)) fnExactPatternGetUptoCard

/-- THE SECOND FORM's CARD OF 'laws.FnPattern'. -/
def fnPatternUptoCard : Claim7 := { stood := { row := fnPatternUptoRow, standIns := [], harness := (true, "b603008497dc4d2233525165c61e1b9febc52fb0ae47104738ca444bf20d2780"), looks := false }, kinds := [], alts := [], laidByText := true, laidKinds := [.data, .data, .data], laidTests := true, laidLooks := .later }
def FnPatternUptoCardSaid : Prop := Claim7.holds Tryd.pinned (.plain (OpenSpec.upto fnPatternSpec)) fnPatternUptoCard
end Rows
end Go.Proofs.YtndjhgjakdkkaaaDoor
