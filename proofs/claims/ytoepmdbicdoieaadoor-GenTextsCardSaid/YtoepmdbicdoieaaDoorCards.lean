/-
  DERIVED. GIVEN WITH THE SEED: THE CARDS: each row of YtoepmdbicdoieaaDoorRows.lean that lists a variable, with what it lists TIED to the program's text (the seventh form; the later family's looks); each row that meets fmt, with fmt's text TOLD by the authors' own Lean function (tested against real Go, not proved from fmt's source: count such statements apart). THE CARD IS WHAT COUNTS. Prove the row's statement (the work); the ties are given (YtoepmdbicdoieaaDoorTie.lean); close each card by the builder's one call (the guide's Derived/Test/ToyasCard.lean, 'card_holds'). Laid BY PROGRAM, IN A SANDBOX (cutbox-door.mjs). By AI agents, Wed Nov 11 2026. No macro, syntax, notation, axiom, sorry.
-/
import Derived.Test.YtoepmdbicdoieaaDoorRows
import GoSem.ClaimSeven
namespace Go.Proofs.YtoepmdbicdoieaaDoor
namespace Rows

/-- THE TIED CARD OF 'middenlaw13.GenCompiles'. -/
def genCompilesCard : Claim7 := { stood := { row := genCompilesRow, standIns := [], harness := (true, "e033ac2c0aab478651bb78d410eeaa5861f1825dbf5907acff4586c69d3b5f5f"), looks := false }, kinds := [], alts := [], laidByText := true, laidKinds := [.data], laidTests := true, laidLooks := .later }
def GenCompilesCardSaid : Prop := Claim7.holds Tryd.pinned (.plain (OpenSpec.ofChange genCompilesSpec)) genCompilesCard

/-- THE TIED CARD OF 'middenlaw13.GenRight'. -/
def genRightCard : Claim7 := { stood := { row := genRightRow, standIns := [], harness := (true, "e033ac2c0aab478651bb78d410eeaa5861f1825dbf5907acff4586c69d3b5f5f"), looks := false }, kinds := [], alts := [], laidByText := true, laidKinds := [.data], laidTests := true, laidLooks := .later }
def GenRightCardSaid : Prop := Claim7.holds Tryd.pinned (.plain (OpenSpec.ofChange genRightSpec)) genRightCard

/-- THE TIED CARD OF 'middenlaw13.GenNames'. -/
def genNamesCard : Claim7 := { stood := { row := genNamesRow, standIns := [], harness := (true, "e033ac2c0aab478651bb78d410eeaa5861f1825dbf5907acff4586c69d3b5f5f"), looks := false }, kinds := [], alts := [], laidByText := true, laidKinds := [.data], laidTests := true, laidLooks := .later }
def GenNamesCardSaid : Prop := Claim7.holds Tryd.pinned (.plain (OpenSpec.ofChange genNamesSpec)) genNamesCard

/-- THE TIED CARD OF 'middenlaw13.GenTexts'. -/
def genTextsCard : Claim7 := { stood := { row := genTextsRow, standIns := [], harness := (true, "e033ac2c0aab478651bb78d410eeaa5861f1825dbf5907acff4586c69d3b5f5f"), looks := false }, kinds := [], alts := [], laidByText := true, laidKinds := [.data], laidTests := true, laidLooks := .later }
def GenTextsCardSaid : Prop := Claim7.holds Tryd.pinned (.plain (OpenSpec.ofChange genTextsSpec)) genTextsCard

/-- THE SECOND FORM's CARD OF 'middenlaw13.GenCompiles'. -/
def genCompilesUptoCard : Claim7 := { stood := { row := genCompilesUptoRow, standIns := [], harness := (true, "e033ac2c0aab478651bb78d410eeaa5861f1825dbf5907acff4586c69d3b5f5f"), looks := false }, kinds := [], alts := [], laidByText := true, laidKinds := [.data], laidTests := true, laidLooks := .later }
def GenCompilesUptoCardSaid : Prop := Claim7.holds Tryd.pinned (.plain (OpenSpec.upto genCompilesSpec)) genCompilesUptoCard

/-- THE SECOND FORM's CARD OF 'middenlaw13.GenRight'. -/
def genRightUptoCard : Claim7 := { stood := { row := genRightUptoRow, standIns := [], harness := (true, "e033ac2c0aab478651bb78d410eeaa5861f1825dbf5907acff4586c69d3b5f5f"), looks := false }, kinds := [], alts := [], laidByText := true, laidKinds := [.data], laidTests := true, laidLooks := .later }
def GenRightUptoCardSaid : Prop := Claim7.holds Tryd.pinned (.plain (OpenSpec.upto genRightSpec)) genRightUptoCard

/-- THE SECOND FORM's CARD OF 'middenlaw13.GenNames'. -/
def genNamesUptoCard : Claim7 := { stood := { row := genNamesUptoRow, standIns := [], harness := (true, "e033ac2c0aab478651bb78d410eeaa5861f1825dbf5907acff4586c69d3b5f5f"), looks := false }, kinds := [], alts := [], laidByText := true, laidKinds := [.data], laidTests := true, laidLooks := .later }
def GenNamesUptoCardSaid : Prop := Claim7.holds Tryd.pinned (.plain (OpenSpec.upto genNamesSpec)) genNamesUptoCard

/-- THE SECOND FORM's CARD OF 'middenlaw13.GenTexts'. -/
def genTextsUptoCard : Claim7 := { stood := { row := genTextsUptoRow, standIns := [], harness := (true, "e033ac2c0aab478651bb78d410eeaa5861f1825dbf5907acff4586c69d3b5f5f"), looks := false }, kinds := [], alts := [], laidByText := true, laidKinds := [.data], laidTests := true, laidLooks := .later }
def GenTextsUptoCardSaid : Prop := Claim7.holds Tryd.pinned (.plain (OpenSpec.upto genTextsSpec)) genTextsUptoCard
end Rows
end Go.Proofs.YtoepmdbicdoieaaDoor
