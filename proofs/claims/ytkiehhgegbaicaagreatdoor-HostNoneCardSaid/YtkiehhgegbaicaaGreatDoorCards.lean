/-
  DERIVED. GIVEN WITH THE SEED: THE CARDS: each row of YtkiehhgegbaicaaGreatDoorRows.lean that lists a variable, with what it lists TIED to the program's text (the seventh form; the later family's looks); each row that meets fmt, with fmt's text TOLD by the authors' own Lean function (tested against real Go, not proved from fmt's source: count such statements apart). THE CARD IS WHAT COUNTS. Prove the row's statement (the work); the ties are given (YtkiehhgegbaicaaGreatDoorTie.lean); close each card by the builder's one call (the guide's Derived/Test/ToyasCard.lean, 'card_holds'). Laid BY PROGRAM, IN A SANDBOX (cutbox-door.mjs). By AI agents, Wed Nov 11 2026. No macro, syntax, notation, axiom, sorry.
-/
import Derived.Test.YtkiehhgegbaicaaGreatDoorRows
import GoSem.ClaimSeven
namespace Go.Proofs.YtkiehhgegbaicaaGreatDoor
namespace Rows

/-- THE TIED CARD OF 'middenlaw23.HostNone'. -/
def hostNoneCard : Claim7 := { stood := { row := hostNoneRow, standIns := [], harness := (true, "3f1d400f3403e4838c2adebeb2b29ffe09c3eeda710c82fa4871f5d773c5e94b"), looks := true }, kinds := [], alts := [], laidByText := true, laidKinds := [.data, .data], laidTests := true, laidLooks := .later }
def HostNoneCardSaid : Prop := Claim7.holds Tryz.pinned (.plain (OpenSpec.ofChange hostNoneSpec)) hostNoneCard

/-- THE SECOND FORM's CARD OF 'middenlaw23.HostNone'. -/
def hostNoneUptoCard : Claim7 := { stood := { row := hostNoneUptoRow, standIns := [], harness := (true, "3f1d400f3403e4838c2adebeb2b29ffe09c3eeda710c82fa4871f5d773c5e94b"), looks := true }, kinds := [], alts := [], laidByText := true, laidKinds := [.data, .data], laidTests := true, laidLooks := .later }
def HostNoneUptoCardSaid : Prop := Claim7.holds Tryz.pinned (.plain (OpenSpec.upto hostNoneSpec)) hostNoneUptoCard
end Rows
end Go.Proofs.YtkiehhgegbaicaaGreatDoor
