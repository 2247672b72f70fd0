/-
  DERIVED. GIVEN WITH THE SEED: THE CARDS: each row of YtemokppdnkiejaaDoorRows.lean that lists a variable, with what it lists TIED to the program's text (the seventh form; the later family's looks); each row that meets fmt, with fmt's text TOLD by the authors' own Lean function (tested against real Go, not proved from fmt's source: count such statements apart). THE CARD IS WHAT COUNTS. Prove the row's statement (the work); the ties are given (YtemokppdnkiejaaDoorTie.lean); close each card by the builder's one call (the guide's Derived/Test/ToyasCard.lean, 'card_holds'). Laid BY PROGRAM, IN A SANDBOX (cutbox-door.mjs). By AI agents, Wed Nov 11 2026. No macro, syntax, notation, axiom, sorry.
-/
import Derived.Test.YtemokppdnkiejaaDoorRows
import GoSem.ClaimSeven
namespace Go.Proofs.YtemokppdnkiejaaDoor
namespace Rows

/-- THE TIED CARD OF 'tidepolelaw10.SyntaxQuotes'. -/
def syntaxQuotesCard : Claim7 := { stood := { row := syntaxQuotesRow, standIns := [], harness := (true, "ffa0e9d683c4b80a6fe23105046211a647f0468843d989af9cfc9c92e0f1e237"), looks := false }, kinds := [], alts := [], laidByText := true, laidKinds := [.data], laidTests := true, laidLooks := .later }
def SyntaxQuotesCardSaid : Prop := Claim7.holds Tryd.pinned (.plain (OpenSpec.ofChange syntaxQuotesSpec)) syntaxQuotesCard

/-- THE TIED CARD OF 'tidepolelaw11.ProgMakes'. -/
def progMakesCard : Claim7 := { stood := { row := progMakesRow, standIns := [], harness := (true, "ffa0e9d683c4b80a6fe23105046211a647f0468843d989af9cfc9c92e0f1e237"), looks := false }, kinds := [], alts := [], laidByText := true, laidKinds := [.data, .data, .data], laidTests := true, laidLooks := .later }
def ProgMakesCardSaid : Prop := Claim7.holds Tryd.pinned (.plain (OpenSpec.ofChange progMakesSpec)) progMakesCard

/-- THE TIED CARD OF 'tidepolelaw11.ProgTells'. -/
def progTellsCard : Claim7 := { stood := { row := progTellsRow, standIns := [], harness := (true, "ffa0e9d683c4b80a6fe23105046211a647f0468843d989af9cfc9c92e0f1e237"), looks := false }, kinds := [], alts := [], laidByText := true, laidKinds := [.data, .data, .data], laidTests := true, laidLooks := .later }
def ProgTellsCardSaid : Prop := Claim7.holds Tryd.pinned (.plain (OpenSpec.ofChange progTellsSpec)) progTellsCard

/-- THE TIED CARD OF 'tidepolelaw11.ProgReads'. -/
def progReadsCard : Claim7 := { stood := { row := progReadsRow, standIns := [], harness := (true, "ffa0e9d683c4b80a6fe23105046211a647f0468843d989af9cfc9c92e0f1e237"), looks := false }, kinds := [], alts := [], laidByText := true, laidKinds := [.data, .data, .data], laidTests := true, laidLooks := .later }
def ProgReadsCardSaid : Prop := Claim7.holds Tryd.pinned (.plain (OpenSpec.ofChange progReadsSpec)) progReadsCard

/-- THE TIED CARD OF 'tidepolelaw11.ProgReaches'. -/
def progReachesCard : Claim7 := { stood := { row := progReachesRow, standIns := [], harness := (true, "ffa0e9d683c4b80a6fe23105046211a647f0468843d989af9cfc9c92e0f1e237"), looks := false }, kinds := [], alts := [], laidByText := true, laidKinds := [.data, .data, .data], laidTests := true, laidLooks := .later }
def ProgReachesCardSaid : Prop := Claim7.holds Tryd.pinned (.plain (OpenSpec.ofChange progReachesSpec)) progReachesCard

/-- THE TIED CARD OF 'tidepolelaw11.ProgParts'. -/
def progPartsCard : Claim7 := { stood := { row := progPartsRow, standIns := [], harness := (true, "ffa0e9d683c4b80a6fe23105046211a647f0468843d989af9cfc9c92e0f1e237"), looks := false }, kinds := [], alts := [], laidByText := true, laidKinds := [.data, .data, .data], laidTests := true, laidLooks := .later }
def ProgPartsCardSaid : Prop := Claim7.holds Tryd.pinned (.plain (OpenSpec.ofChange progPartsSpec)) progPartsCard

/-- THE SECOND FORM's CARD OF 'tidepolelaw10.SyntaxQuotes'. -/
def syntaxQuotesUptoCard : Claim7 := { stood := { row := syntaxQuotesUptoRow, standIns := [], harness := (true, "ffa0e9d683c4b80a6fe23105046211a647f0468843d989af9cfc9c92e0f1e237"), looks := false }, kinds := [], alts := [], laidByText := true, laidKinds := [.data], laidTests := true, laidLooks := .later }
def SyntaxQuotesUptoCardSaid : Prop := Claim7.holds Tryd.pinned (.plain (OpenSpec.upto syntaxQuotesSpec)) syntaxQuotesUptoCard

/-- THE SECOND FORM's CARD OF 'tidepolelaw11.ProgMakes'. -/
def progMakesUptoCard : Claim7 := { stood := { row := progMakesUptoRow, standIns := [], harness := (true, "ffa0e9d683c4b80a6fe23105046211a647f0468843d989af9cfc9c92e0f1e237"), looks := false }, kinds := [], alts := [], laidByText := true, laidKinds := [.data, .data, .data], laidTests := true, laidLooks := .later }
def ProgMakesUptoCardSaid : Prop := Claim7.holds Tryd.pinned (.plain (OpenSpec.upto progMakesSpec)) progMakesUptoCard

/-- THE SECOND FORM's CARD OF 'tidepolelaw11.ProgTells'. -/
def progTellsUptoCard : Claim7 := { stood := { row := progTellsUptoRow, standIns := [], harness := (true, "ffa0e9d683c4b80a6fe23105046211a647f0468843d989af9cfc9c92e0f1e237"), looks := false }, kinds := [], alts := [], laidByText := true, laidKinds := [.data, .data, .data], laidTests := true, laidLooks := .later }
def ProgTellsUptoCardSaid : Prop := Claim7.holds Tryd.pinned (.plain (OpenSpec.upto progTellsSpec)) progTellsUptoCard

/-- THE SECOND FORM's CARD OF 'tidepolelaw11.ProgReads'. -/
def progReadsUptoCard : Claim7 := { stood := { row := progReadsUptoRow, standIns := [], harness := (true, "ffa0e9d683c4b80a6fe23105046211a647f0468843d989af9cfc9c92e0f1e237"), looks := false }, kinds := [], alts := [], laidByText := true, laidKinds := [.data, .data, .data], laidTests := true, laidLooks := .later }
def ProgReadsUptoCardSaid : Prop := Claim7.holds Tryd.pinned (.plain (OpenSpec.upto progReadsSpec)) progReadsUptoCard

/-- THE SECOND FORM's CARD OF 'tidepolelaw11.ProgReaches'. -/
def progReachesUptoCard : Claim7 := { stood := { row := progReachesUptoRow, standIns := [], harness := (true, "ffa0e9d683c4b80a6fe23105046211a647f0468843d989af9cfc9c92e0f1e237"), looks := false }, kinds := [], alts := [], laidByText := true, laidKinds := [.data, .data, .data], laidTests := true, laidLooks := .later }
def ProgReachesUptoCardSaid : Prop := Claim7.holds Tryd.pinned (.plain (OpenSpec.upto progReachesSpec)) progReachesUptoCard

/-- THE SECOND FORM's CARD OF 'tidepolelaw11.ProgParts'. -/
def progPartsUptoCard : Claim7 := { stood := { row := progPartsUptoRow, standIns := [], harness := (true, "ffa0e9d683c4b80a6fe23105046211a647f0468843d989af9cfc9c92e0f1e237"), looks := false }, kinds := [], alts := [], laidByText := true, laidKinds := [.data, .data, .data], laidTests := true, laidLooks := .later }
def ProgPartsUptoCardSaid : Prop := Claim7.holds Tryd.pinned (.plain (OpenSpec.upto progPartsSpec)) progPartsUptoCard
end Rows
end Go.Proofs.YtemokppdnkiejaaDoor
