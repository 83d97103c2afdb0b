/-
  DERIVED. GIVEN WITH THE SEED: THE CARDS: each row of YtidoomdkoipaeaaGreatDoorRows.lean that lists a variable, with what it lists TIED to the program's text (the seventh form; the later family's looks); each row that meets fmt, with fmt's text TOLD by the authors' own Lean function (tested against real Go, not proved from fmt's source: count such statements apart). THE CARD IS WHAT COUNTS. Prove the row's statement (the work); the ties are given (YtidoomdkoipaeaaGreatDoorTie.lean); close each card by the builder's one call (the guide's Derived/Test/ToyasCard.lean, 'card_holds'). Laid BY PROGRAM, IN A SANDBOX (cutbox-door.mjs). By AI agents, Wed Nov 11 2026. No macro, syntax, notation, axiom, sorry.
-/
import Derived.Test.YtidoomdkoipaeaaGreatDoorRows
import GoSem.ClaimSeven
namespace Go.Proofs.YtidoomdkoipaeaaGreatDoor
namespace Rows

/-- THE TIED CARD OF 'middenlaw18.HeapLists'. -/
def heapListsCard : Claim7 := { stood := { row := heapListsRow, standIns := [], harness := (true, "774c068763772cb04609c549cde68f02c8ae65f95750a9d878cf447f7eeaec81"), looks := false }, kinds := [], alts := [], laidByText := true, laidKinds := [.data], laidTests := true, laidLooks := .later }
def HeapListsCardSaid : Prop := Claim7.holds Tryz.pinned (.plain (OpenSpec.ofChange heapListsSpec)) heapListsCard

/-- THE TIED CARD OF 'middenlaw18.HeapKeeps'. -/
def heapKeepsCard : Claim7 := { stood := { row := heapKeepsRow, standIns := [], harness := (true, "774c068763772cb04609c549cde68f02c8ae65f95750a9d878cf447f7eeaec81"), looks := false }, kinds := [], alts := [], laidByText := true, laidKinds := [.data], laidTests := true, laidLooks := .later }
def HeapKeepsCardSaid : Prop := Claim7.holds Tryz.pinned (.plain (OpenSpec.ofChange heapKeepsSpec)) heapKeepsCard

/-- THE TIED CARD OF 'middenlaw18.HeapApart'. -/
def heapApartCard : Claim7 := { stood := { row := heapApartRow, standIns := [], harness := (true, "774c068763772cb04609c549cde68f02c8ae65f95750a9d878cf447f7eeaec81"), looks := false }, kinds := [], alts := [], laidByText := true, laidKinds := [.data], laidTests := true, laidLooks := .later }
def HeapApartCardSaid : Prop := Claim7.holds Tryz.pinned (.plain (OpenSpec.ofChange heapApartSpec)) heapApartCard

/-- THE TIED CARD OF 'middenlaw18.HeapNone'. -/
def heapNoneCard : Claim7 := { stood := { row := heapNoneRow, standIns := [], harness := (true, "774c068763772cb04609c549cde68f02c8ae65f95750a9d878cf447f7eeaec81"), looks := false }, kinds := [], alts := [], laidByText := true, laidKinds := [.data], laidTests := true, laidLooks := .later }
def HeapNoneCardSaid : Prop := Claim7.holds Tryz.pinned (.plain (OpenSpec.ofChange heapNoneSpec)) heapNoneCard

/-- THE TIED CARD OF 'middenlaw18.HeapDoes'. -/
def heapDoesCard : Claim7 := { stood := { row := heapDoesRow, standIns := [], harness := (true, "774c068763772cb04609c549cde68f02c8ae65f95750a9d878cf447f7eeaec81"), looks := false }, kinds := [], alts := [], laidByText := true, laidKinds := [.data], laidTests := true, laidLooks := .later }
def HeapDoesCardSaid : Prop := Claim7.holds Tryz.pinned (.plain (OpenSpec.ofChange heapDoesSpec)) heapDoesCard

/-- THE SECOND FORM's CARD OF 'middenlaw18.HeapLists'. -/
def heapListsUptoCard : Claim7 := { stood := { row := heapListsUptoRow, standIns := [], harness := (true, "774c068763772cb04609c549cde68f02c8ae65f95750a9d878cf447f7eeaec81"), looks := false }, kinds := [], alts := [], laidByText := true, laidKinds := [.data], laidTests := true, laidLooks := .later }
def HeapListsUptoCardSaid : Prop := Claim7.holds Tryz.pinned (.plain (OpenSpec.upto heapListsSpec)) heapListsUptoCard

/-- THE SECOND FORM's CARD OF 'middenlaw18.HeapKeeps'. -/
def heapKeepsUptoCard : Claim7 := { stood := { row := heapKeepsUptoRow, standIns := [], harness := (true, "774c068763772cb04609c549cde68f02c8ae65f95750a9d878cf447f7eeaec81"), looks := false }, kinds := [], alts := [], laidByText := true, laidKinds := [.data], laidTests := true, laidLooks := .later }
def HeapKeepsUptoCardSaid : Prop := Claim7.holds Tryz.pinned (.plain (OpenSpec.upto heapKeepsSpec)) heapKeepsUptoCard

/-- THE SECOND FORM's CARD OF 'middenlaw18.HeapApart'. -/
def heapApartUptoCard : Claim7 := { stood := { row := heapApartUptoRow, standIns := [], harness := (true, "774c068763772cb04609c549cde68f02c8ae65f95750a9d878cf447f7eeaec81"), looks := false }, kinds := [], alts := [], laidByText := true, laidKinds := [.data], laidTests := true, laidLooks := .later }
def HeapApartUptoCardSaid : Prop := Claim7.holds Tryz.pinned (.plain (OpenSpec.upto heapApartSpec)) heapApartUptoCard

/-- THE SECOND FORM's CARD OF 'middenlaw18.HeapNone'. -/
def heapNoneUptoCard : Claim7 := { stood := { row := heapNoneUptoRow, standIns := [], harness := (true, "774c068763772cb04609c549cde68f02c8ae65f95750a9d878cf447f7eeaec81"), looks := false }, kinds := [], alts := [], laidByText := true, laidKinds := [.data], laidTests := true, laidLooks := .later }
def HeapNoneUptoCardSaid : Prop := Claim7.holds Tryz.pinned (.plain (OpenSpec.upto heapNoneSpec)) heapNoneUptoCard

/-- THE SECOND FORM's CARD OF 'middenlaw18.HeapDoes'. -/
def heapDoesUptoCard : Claim7 := { stood := { row := heapDoesUptoRow, standIns := [], harness := (true, "774c068763772cb04609c549cde68f02c8ae65f95750a9d878cf447f7eeaec81"), looks := false }, kinds := [], alts := [], laidByText := true, laidKinds := [.data], laidTests := true, laidLooks := .later }
def HeapDoesUptoCardSaid : Prop := Claim7.holds Tryz.pinned (.plain (OpenSpec.upto heapDoesSpec)) heapDoesUptoCard
end Rows
end Go.Proofs.YtidoomdkoipaeaaGreatDoor
