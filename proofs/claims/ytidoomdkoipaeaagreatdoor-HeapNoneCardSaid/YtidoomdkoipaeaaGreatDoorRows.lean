/-
  NARROWER THAN 'FOR EVERY INPUT', by the rows' own cells (each row's printed sentence says how): HeapLists: laid · HeapKeeps: laid · HeapApart: laid · HeapNone: laid · HeapDoes: laid.
  DERIVED. THE GIVEN ROWS OF THIS SEAT. 5 by the template 'for every input the law returns true; each argument reads behind the call as it read before'; 0 by the template 'total and deterministic' (their statements: YtidoomdkoipaeaaGreatDoorTotals.lean).
  GIVEN WITH THE SEED: the statements are not yours to turn. If you find one false, say at which input.
  Laid BY PROGRAM, IN A SANDBOX (cutbox-rows.mjs): the forced cells as the released guide's own fill.sh prints them over the translation 5d7176448e0c6684… (all of the seat's roots in one cut). By AI agents, Wed Nov 11 2026. No macro, syntax, notation, axiom, sorry.
-/
import Derived.Test.YtidoomdkoipaeaaGreatDoorChecked
import GoSem.Claim
import GoSem.ClaimJoined
import GoSem.ClaimMapViews
import Derived.JoinedTies
import Derived.KernelRfl
namespace Go.Proofs.YtidoomdkoipaeaaGreatDoor
/- THE CELL 'sum', in the pinned program and in every row, IS THE sha256 OF THE DUMP (.gsa) THAT YtidoomdkoipaeaaGreatDoorProg.lean LOADS. Nothing in Lean hashes anything: it is a label: what it is worth is what the hold of that sum in a sandbox is worth. -/
noncomputable def Tryz.pinned : Pinned := { name := "ytidoomdkoipaeaagreatdoor", sum := "5d7176448e0c66841cec190665ba9a74c6612613c3a82817614215a255f3e19d", checked := Tryz.checked }
namespace Rows
def none {H : Type} : Left H := { results := [], args := [] }

/- WHAT THE LISTED PACKAGE-LEVEL VARIABLES READ AS WHEN THE CALL BEGINS. Each datum BY PROGRAM (the guide's laid-datum.mjs) off the statement by which the dump's own 'gosem.cut.vars' lays the variable. In a bare row this is a premise. The card (YtidoomdkoipaeaaGreatDoorCards.lean) ties it to the program's text. -/
def laid_midden_word_masks {H : Type} : DataW H := .agg [.lit (.int .u64 15), .lit (.int .u64 4095), .lit (.int .u64 4095), .lit (.int .u64 1048575)]

/-- 'middenlaw18.HeapLists': WHATEVER THE INPUT: true; the input reads as it did. -/
def heapListsSpec : ChangeSpec := { name := "heapLists", fn := fun _ => fun
  | [d1, d2] => { results := [.lit (.bool true)], args := [d1, d2] }
  | _ => none }
def heapListsRow : OpenClaim := { program := "ytidoomdkoipaeaagreatdoor", sum := "5d7176448e0c66841cec190665ba9a74c6612613c3a82817614215a255f3e19d", func := "midden/middenlaw18.HeapLists", spec := "heapLists", unfollowed := true, recurses := true, named := ["midden/word.masks"], apart := false, laid := [("midden/word.masks", laid_midden_word_masks)] }
def HeapListsSaid : Prop := heapListsRow.holds Tryz.pinned (OpenSpec.ofChange heapListsSpec)

/-- ITS FALSE NEIGHBOUR: 'it returns false'. Refute it at one input. -/
def heapListsWrong : ChangeSpec := { name := "heapLists", fn := fun _ => fun
  | [d1, d2] => { results := [.lit (.bool false)], args := [d1, d2] }
  | _ => none }
def HeapListsWrongFalsely : Prop := heapListsRow.holds Tryz.pinned (OpenSpec.ofChange heapListsWrong)

/-- 'middenlaw18.HeapKeeps': WHATEVER THE INPUT: true; the input reads as it did. -/
def heapKeepsSpec : ChangeSpec := { name := "heapKeeps", fn := fun _ => fun
  | [d1, d2, d3] => { results := [.lit (.bool true)], args := [d1, d2, d3] }
  | _ => none }
def heapKeepsRow : OpenClaim := { program := "ytidoomdkoipaeaagreatdoor", sum := "5d7176448e0c66841cec190665ba9a74c6612613c3a82817614215a255f3e19d", func := "midden/middenlaw18.HeapKeeps", spec := "heapKeeps", unfollowed := true, recurses := true, named := ["midden/word.masks"], apart := false, laid := [("midden/word.masks", laid_midden_word_masks)] }
def HeapKeepsSaid : Prop := heapKeepsRow.holds Tryz.pinned (OpenSpec.ofChange heapKeepsSpec)

/-- ITS FALSE NEIGHBOUR: 'it returns false'. Refute it at one input. -/
def heapKeepsWrong : ChangeSpec := { name := "heapKeeps", fn := fun _ => fun
  | [d1, d2, d3] => { results := [.lit (.bool false)], args := [d1, d2, d3] }
  | _ => none }
def HeapKeepsWrongFalsely : Prop := heapKeepsRow.holds Tryz.pinned (OpenSpec.ofChange heapKeepsWrong)

/-- 'middenlaw18.HeapApart': WHATEVER THE INPUT: true; the input reads as it did. -/
def heapApartSpec : ChangeSpec := { name := "heapApart", fn := fun _ => fun
  | [d1, d2] => { results := [.lit (.bool true)], args := [d1, d2] }
  | _ => none }
def heapApartRow : OpenClaim := { program := "ytidoomdkoipaeaagreatdoor", sum := "5d7176448e0c66841cec190665ba9a74c6612613c3a82817614215a255f3e19d", func := "midden/middenlaw18.HeapApart", spec := "heapApart", unfollowed := true, recurses := true, named := ["midden/word.masks"], apart := false, laid := [("midden/word.masks", laid_midden_word_masks)] }
def HeapApartSaid : Prop := heapApartRow.holds Tryz.pinned (OpenSpec.ofChange heapApartSpec)

/-- ITS FALSE NEIGHBOUR: 'it returns false'. Refute it at one input. -/
def heapApartWrong : ChangeSpec := { name := "heapApart", fn := fun _ => fun
  | [d1, d2] => { results := [.lit (.bool false)], args := [d1, d2] }
  | _ => none }
def HeapApartWrongFalsely : Prop := heapApartRow.holds Tryz.pinned (OpenSpec.ofChange heapApartWrong)

/-- 'middenlaw18.HeapNone': WHATEVER THE INPUT: true; the input reads as it did. -/
def heapNoneSpec : ChangeSpec := { name := "heapNone", fn := fun _ => fun
  | [d] => { results := [.lit (.bool true)], args := [d] }
  | _ => none }
def heapNoneRow : OpenClaim := { program := "ytidoomdkoipaeaagreatdoor", sum := "5d7176448e0c66841cec190665ba9a74c6612613c3a82817614215a255f3e19d", func := "midden/middenlaw18.HeapNone", spec := "heapNone", unfollowed := true, recurses := true, named := ["midden/word.masks"], apart := false, laid := [("midden/word.masks", laid_midden_word_masks)] }
def HeapNoneSaid : Prop := heapNoneRow.holds Tryz.pinned (OpenSpec.ofChange heapNoneSpec)

/-- ITS FALSE NEIGHBOUR: 'it returns false'. Refute it at one input. -/
def heapNoneWrong : ChangeSpec := { name := "heapNone", fn := fun _ => fun
  | [d] => { results := [.lit (.bool false)], args := [d] }
  | _ => none }
def HeapNoneWrongFalsely : Prop := heapNoneRow.holds Tryz.pinned (OpenSpec.ofChange heapNoneWrong)

/-- 'middenlaw18.HeapDoes': WHATEVER THE INPUT: true; the input reads as it did. -/
def heapDoesSpec : ChangeSpec := { name := "heapDoes", fn := fun _ => fun
  | [d1, d2] => { results := [.lit (.bool true)], args := [d1, d2] }
  | _ => none }
def heapDoesRow : OpenClaim := { program := "ytidoomdkoipaeaagreatdoor", sum := "5d7176448e0c66841cec190665ba9a74c6612613c3a82817614215a255f3e19d", func := "midden/middenlaw18.HeapDoes", spec := "heapDoes", unfollowed := true, recurses := true, named := ["midden/word.masks"], apart := false, laid := [("midden/word.masks", laid_midden_word_masks)] }
def HeapDoesSaid : Prop := heapDoesRow.holds Tryz.pinned (OpenSpec.ofChange heapDoesSpec)

/-- ITS FALSE NEIGHBOUR: 'it returns false'. Refute it at one input. -/
def heapDoesWrong : ChangeSpec := { name := "heapDoes", fn := fun _ => fun
  | [d1, d2] => { results := [.lit (.bool false)], args := [d1, d2] }
  | _ => none }
def HeapDoesWrongFalsely : Prop := heapDoesRow.holds Tryz.pinned (OpenSpec.ofChange heapDoesWrong)

/- THE SECOND FORM. 'bulk': how many values and letters a reading holds, each counted each time it is reached (what is shared counts as often as it is met; a slice's spare places count too). A statement '..UptoSaid' is the law's where the arguments, and the package variables that the reading takes, are together of bulk at most 1048576: NARROWER than '..Said'. Prove '..Said' where nothing that the law and all that it calls make is longer than what came in: it says more and counts as full. Else prove '..UptoSaid'. A law counts once. -/
mutual
def uptoBulk {H : Type} : DataW H → Nat
  | .lit (.string bytes) => bytes.length + 1
  | .lit _ => 1
  | .nil => 1
  | .ptr d => uptoBulk d + 1
  | .slice elems spare => uptoBulkAll elems + uptoBulkAll spare + 1
  | .agg parts => uptoBulkAll parts + 1
  | .iface _ d => uptoBulk d + 1
  | .map entries => uptoBulkEntries entries + 1
  | .held _ => 1
def uptoBulkAll {H : Type} : List (DataW H) → Nat
  | [] => 0
  | d :: r => uptoBulk d + uptoBulkAll r
def uptoBulkEntries {H : Type} : List (Lit × DataW H) → Nat
  | [] => 0
  | x :: r => uptoBulkEntry x + uptoBulkEntries r
def uptoBulkEntry {H : Type} : Lit × DataW H → Nat
  | (.string bytes, d) => bytes.length + uptoBulk d + 1
  | (_, d) => uptoBulk d + 1
 end
def uptoSmall : (H : Type) → List (DataW H) → Bool := fun _ ds => decide (uptoBulkAll ds ≤ 1048576)
def OpenSpec.upto (s : _root_.Go.ChangeSpec) : _root_.Go.OpenSpec := { _root_.Go.OpenSpec.ofChange s with cond := some uptoSmall }

/-- 'middenlaw18.HeapLists', WHERE WHAT IT READS IS OF BULK AT MOST 1048576: true; the input reads as it did. -/
def heapListsUptoRow : OpenClaim := { program := "ytidoomdkoipaeaagreatdoor", sum := "5d7176448e0c66841cec190665ba9a74c6612613c3a82817614215a255f3e19d", func := "midden/middenlaw18.HeapLists", spec := "heapLists", unfollowed := true, recurses := true, named := ["midden/word.masks"], apart := false, laid := [("midden/word.masks", laid_midden_word_masks)], narrowed := true }
def HeapListsUptoSaid : Prop := heapListsUptoRow.holds Tryz.pinned (OpenSpec.upto heapListsSpec)

/-- 'middenlaw18.HeapKeeps', WHERE WHAT IT READS IS OF BULK AT MOST 1048576: true; the input reads as it did. -/
def heapKeepsUptoRow : OpenClaim := { program := "ytidoomdkoipaeaagreatdoor", sum := "5d7176448e0c66841cec190665ba9a74c6612613c3a82817614215a255f3e19d", func := "midden/middenlaw18.HeapKeeps", spec := "heapKeeps", unfollowed := true, recurses := true, named := ["midden/word.masks"], apart := false, laid := [("midden/word.masks", laid_midden_word_masks)], narrowed := true }
def HeapKeepsUptoSaid : Prop := heapKeepsUptoRow.holds Tryz.pinned (OpenSpec.upto heapKeepsSpec)

/-- 'middenlaw18.HeapApart', WHERE WHAT IT READS IS OF BULK AT MOST 1048576: true; the input reads as it did. -/
def heapApartUptoRow : OpenClaim := { program := "ytidoomdkoipaeaagreatdoor", sum := "5d7176448e0c66841cec190665ba9a74c6612613c3a82817614215a255f3e19d", func := "midden/middenlaw18.HeapApart", spec := "heapApart", unfollowed := true, recurses := true, named := ["midden/word.masks"], apart := false, laid := [("midden/word.masks", laid_midden_word_masks)], narrowed := true }
def HeapApartUptoSaid : Prop := heapApartUptoRow.holds Tryz.pinned (OpenSpec.upto heapApartSpec)

/-- 'middenlaw18.HeapNone', WHERE WHAT IT READS IS OF BULK AT MOST 1048576: true; the input reads as it did. -/
def heapNoneUptoRow : OpenClaim := { program := "ytidoomdkoipaeaagreatdoor", sum := "5d7176448e0c66841cec190665ba9a74c6612613c3a82817614215a255f3e19d", func := "midden/middenlaw18.HeapNone", spec := "heapNone", unfollowed := true, recurses := true, named := ["midden/word.masks"], apart := false, laid := [("midden/word.masks", laid_midden_word_masks)], narrowed := true }
def HeapNoneUptoSaid : Prop := heapNoneUptoRow.holds Tryz.pinned (OpenSpec.upto heapNoneSpec)

/-- 'middenlaw18.HeapDoes', WHERE WHAT IT READS IS OF BULK AT MOST 1048576: true; the input reads as it did. -/
def heapDoesUptoRow : OpenClaim := { program := "ytidoomdkoipaeaagreatdoor", sum := "5d7176448e0c66841cec190665ba9a74c6612613c3a82817614215a255f3e19d", func := "midden/middenlaw18.HeapDoes", spec := "heapDoes", unfollowed := true, recurses := true, named := ["midden/word.masks"], apart := false, laid := [("midden/word.masks", laid_midden_word_masks)], narrowed := true }
def HeapDoesUptoSaid : Prop := heapDoesUptoRow.holds Tryz.pinned (OpenSpec.upto heapDoesSpec)

end Rows
end Go.Proofs.YtidoomdkoipaeaaGreatDoor
