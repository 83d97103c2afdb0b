/-
  NARROWER THAN 'FOR EVERY INPUT', by the rows' own cells (each row's printed sentence says how): VarsClass: loops · VarsArgs: loops · VarsRight: loops.
  DERIVED. THE GIVEN ROWS OF THIS SEAT. 6 by the template 'for every input the law returns true; each argument reads behind the call as it read before'; 0 by the template 'total and deterministic' (their statements: YtlgfajdedmajcaaTotals.lean).
  GIVEN WITH THE SEED: the statements are not yours to turn. If you find one false, say at which input.
  Laid BY PROGRAM, IN A SANDBOX (cutbox-rows.mjs): the forced cells as the released guide's own fill.sh prints them over the translation c51c3bc0c6088767… (all of the seat's roots in one cut). By AI agents, Wed Nov 11 2026. No macro, syntax, notation, axiom, sorry.
-/
import Derived.Test.YtlgfajdedmajcaaChecked
import GoSem.Claim
import GoSem.ClaimJoined
import GoSem.ClaimMapViews
import Derived.JoinedTies
import Derived.KernelRfl
namespace Go.Proofs.Ytlgfajdedmajcaa
/- THE CELL 'sum', in the pinned program and in every row, IS THE sha256 OF THE DUMP (.gsa) THAT YtlgfajdedmajcaaProg.lean LOADS. Nothing in Lean hashes anything: it is a label: what it is worth is what the hold of that sum in a sandbox is worth. -/
noncomputable def Try.pinned : Pinned := { name := "ytlgfajdedmajcaa", sum := "c51c3bc0c6088767c8bc533be0cbe7f0e22c0ef6a54aa111bdad03674c7b6ab7", checked := Try.checked }
namespace Rows
def none {H : Type} : Left H := { results := [], args := [] }

/-- 'middenlaw22.BudgetBlocks': WHATEVER THE INPUT: true; the input reads as it did. -/
def budgetBlocksSpec : ChangeSpec := { name := "budgetBlocks", fn := fun _ => fun
  | [d1, d2] => { results := [.lit (.bool true)], args := [d1, d2] }
  | _ => none }
def budgetBlocksRow : OpenClaim := { program := "ytlgfajdedmajcaa", sum := "c51c3bc0c6088767c8bc533be0cbe7f0e22c0ef6a54aa111bdad03674c7b6ab7", func := "midden/middenlaw22.BudgetBlocks", spec := "budgetBlocks", apart := false }
def BudgetBlocksSaid : Prop := budgetBlocksRow.holds Try.pinned (OpenSpec.ofChange budgetBlocksSpec)

/-- ITS FALSE NEIGHBOUR: 'it returns false'. Refute it at one input. -/
def budgetBlocksWrong : ChangeSpec := { name := "budgetBlocks", fn := fun _ => fun
  | [d1, d2] => { results := [.lit (.bool false)], args := [d1, d2] }
  | _ => none }
def BudgetBlocksWrongFalsely : Prop := budgetBlocksRow.holds Try.pinned (OpenSpec.ofChange budgetBlocksWrong)

/-- 'middenlaw22.BudgetFuel': WHATEVER THE INPUT: true; the input reads as it did. -/
def budgetFuelSpec : ChangeSpec := { name := "budgetFuel", fn := fun _ => fun
  | [d1, d2] => { results := [.lit (.bool true)], args := [d1, d2] }
  | _ => none }
def budgetFuelRow : OpenClaim := { program := "ytlgfajdedmajcaa", sum := "c51c3bc0c6088767c8bc533be0cbe7f0e22c0ef6a54aa111bdad03674c7b6ab7", func := "midden/middenlaw22.BudgetFuel", spec := "budgetFuel", apart := false }
def BudgetFuelSaid : Prop := budgetFuelRow.holds Try.pinned (OpenSpec.ofChange budgetFuelSpec)

/-- ITS FALSE NEIGHBOUR: 'it returns false'. Refute it at one input. -/
def budgetFuelWrong : ChangeSpec := { name := "budgetFuel", fn := fun _ => fun
  | [d1, d2] => { results := [.lit (.bool false)], args := [d1, d2] }
  | _ => none }
def BudgetFuelWrongFalsely : Prop := budgetFuelRow.holds Try.pinned (OpenSpec.ofChange budgetFuelWrong)

/-- 'middenlaw22.BudgetMore': WHATEVER THE INPUT: true; the input reads as it did. -/
def budgetMoreSpec : ChangeSpec := { name := "budgetMore", fn := fun _ => fun
  | [d1, d2, d3] => { results := [.lit (.bool true)], args := [d1, d2, d3] }
  | _ => none }
def budgetMoreRow : OpenClaim := { program := "ytlgfajdedmajcaa", sum := "c51c3bc0c6088767c8bc533be0cbe7f0e22c0ef6a54aa111bdad03674c7b6ab7", func := "midden/middenlaw22.BudgetMore", spec := "budgetMore", apart := false }
def BudgetMoreSaid : Prop := budgetMoreRow.holds Try.pinned (OpenSpec.ofChange budgetMoreSpec)

/-- ITS FALSE NEIGHBOUR: 'it returns false'. Refute it at one input. -/
def budgetMoreWrong : ChangeSpec := { name := "budgetMore", fn := fun _ => fun
  | [d1, d2, d3] => { results := [.lit (.bool false)], args := [d1, d2, d3] }
  | _ => none }
def BudgetMoreWrongFalsely : Prop := budgetMoreRow.holds Try.pinned (OpenSpec.ofChange budgetMoreWrong)

/-- 'middenlaw10.VarsClass': WHATEVER THE INPUT: true; the input reads as it did. -/
def varsClassSpec : ChangeSpec := { name := "varsClass", fn := fun _ => fun
  | [d] => { results := [.lit (.bool true)], args := [d] }
  | _ => none }
def varsClassRow : OpenClaim := { program := "ytlgfajdedmajcaa", sum := "c51c3bc0c6088767c8bc533be0cbe7f0e22c0ef6a54aa111bdad03674c7b6ab7", func := "midden/middenlaw10.VarsClass", spec := "varsClass", unfollowed := true, recurses := true, loops := true, apart := false }
def VarsClassSaid : Prop := varsClassRow.holds Try.pinned (OpenSpec.ofChange varsClassSpec)

/-- ITS FALSE NEIGHBOUR: 'it returns false'. Refute it at one input. -/
def varsClassWrong : ChangeSpec := { name := "varsClass", fn := fun _ => fun
  | [d] => { results := [.lit (.bool false)], args := [d] }
  | _ => none }
def VarsClassWrongFalsely : Prop := varsClassRow.holds Try.pinned (OpenSpec.ofChange varsClassWrong)

/-- 'middenlaw10.VarsArgs': WHATEVER THE INPUT: true; the input reads as it did. -/
def varsArgsSpec : ChangeSpec := { name := "varsArgs", fn := fun _ => fun
  | [d1, d2] => { results := [.lit (.bool true)], args := [d1, d2] }
  | _ => none }
def varsArgsRow : OpenClaim := { program := "ytlgfajdedmajcaa", sum := "c51c3bc0c6088767c8bc533be0cbe7f0e22c0ef6a54aa111bdad03674c7b6ab7", func := "midden/middenlaw10.VarsArgs", spec := "varsArgs", unfollowed := true, recurses := true, loops := true, apart := false }
def VarsArgsSaid : Prop := varsArgsRow.holds Try.pinned (OpenSpec.ofChange varsArgsSpec)

/-- ITS FALSE NEIGHBOUR: 'it returns false'. Refute it at one input. -/
def varsArgsWrong : ChangeSpec := { name := "varsArgs", fn := fun _ => fun
  | [d1, d2] => { results := [.lit (.bool false)], args := [d1, d2] }
  | _ => none }
def VarsArgsWrongFalsely : Prop := varsArgsRow.holds Try.pinned (OpenSpec.ofChange varsArgsWrong)

/-- 'middenlaw10.VarsRight': WHATEVER THE INPUT: true; the input reads as it did. -/
def varsRightSpec : ChangeSpec := { name := "varsRight", fn := fun _ => fun
  | [d] => { results := [.lit (.bool true)], args := [d] }
  | _ => none }
def varsRightRow : OpenClaim := { program := "ytlgfajdedmajcaa", sum := "c51c3bc0c6088767c8bc533be0cbe7f0e22c0ef6a54aa111bdad03674c7b6ab7", func := "midden/middenlaw10.VarsRight", spec := "varsRight", unfollowed := true, recurses := true, loops := true, apart := false }
def VarsRightSaid : Prop := varsRightRow.holds Try.pinned (OpenSpec.ofChange varsRightSpec)

/-- ITS FALSE NEIGHBOUR: 'it returns false'. Refute it at one input. -/
def varsRightWrong : ChangeSpec := { name := "varsRight", fn := fun _ => fun
  | [d] => { results := [.lit (.bool false)], args := [d] }
  | _ => none }
def VarsRightWrongFalsely : Prop := varsRightRow.holds Try.pinned (OpenSpec.ofChange varsRightWrong)

/- THE SECOND FORM. 'bulk': how many values and letters a reading holds, each counted each time it is reached (what is shared counts as often as it is met; a slice's spare places count too). A statement '..UptoSaid' is the law's where the arguments, and the package variables that the reading takes, are together of bulk at most 1048576: NARROWER than '..Said'. Prove '..Said' where nothing that the law and all that it calls make is longer than what came in: it says more and counts as full. Else prove '..UptoSaid'. A law counts once. -/
mutual
def uptoBulk {H : Type} : DataW H → Nat
  | .lit (.string bytes) => bytes.length + 1
  | .lit _ => 1
  | .nil => 1
  | .ptr d => uptoBulk d + 1
  | .slice elems spare => uptoBulkAll elems + uptoBulkAll spare + 1
  | .agg parts => uptoBulkAll parts + 1
  | .iface _ d => uptoBulk d + 1
  | .map entries => uptoBulkEntries entries + 1
  | .held _ => 1
def uptoBulkAll {H : Type} : List (DataW H) → Nat
  | [] => 0
  | d :: r => uptoBulk d + uptoBulkAll r
def uptoBulkEntries {H : Type} : List (Lit × DataW H) → Nat
  | [] => 0
  | x :: r => uptoBulkEntry x + uptoBulkEntries r
def uptoBulkEntry {H : Type} : Lit × DataW H → Nat
  | (.string bytes, d) => bytes.length + uptoBulk d + 1
  | (_, d) => uptoBulk d + 1
 end
def uptoSmall : (H : Type) → List (DataW H) → Bool := fun _ ds => decide (uptoBulkAll ds ≤ 1048576)
def OpenSpec.upto (s : _root_.Go.ChangeSpec) : _root_.Go.OpenSpec := { _root_.Go.OpenSpec.ofChange s with cond := some uptoSmall }

/-- 'middenlaw22.BudgetBlocks', WHERE WHAT IT READS IS OF BULK AT MOST 1048576: true; the input reads as it did. -/
def budgetBlocksUptoRow : OpenClaim := { program := "ytlgfajdedmajcaa", sum := "c51c3bc0c6088767c8bc533be0cbe7f0e22c0ef6a54aa111bdad03674c7b6ab7", func := "midden/middenlaw22.BudgetBlocks", spec := "budgetBlocks", apart := false, narrowed := true }
def BudgetBlocksUptoSaid : Prop := budgetBlocksUptoRow.holds Try.pinned (OpenSpec.upto budgetBlocksSpec)

/-- 'middenlaw22.BudgetFuel', WHERE WHAT IT READS IS OF BULK AT MOST 1048576: true; the input reads as it did. -/
def budgetFuelUptoRow : OpenClaim := { program := "ytlgfajdedmajcaa", sum := "c51c3bc0c6088767c8bc533be0cbe7f0e22c0ef6a54aa111bdad03674c7b6ab7", func := "midden/middenlaw22.BudgetFuel", spec := "budgetFuel", apart := false, narrowed := true }
def BudgetFuelUptoSaid : Prop := budgetFuelUptoRow.holds Try.pinned (OpenSpec.upto budgetFuelSpec)

/-- 'middenlaw22.BudgetMore', WHERE WHAT IT READS IS OF BULK AT MOST 1048576: true; the input reads as it did. -/
def budgetMoreUptoRow : OpenClaim := { program := "ytlgfajdedmajcaa", sum := "c51c3bc0c6088767c8bc533be0cbe7f0e22c0ef6a54aa111bdad03674c7b6ab7", func := "midden/middenlaw22.BudgetMore", spec := "budgetMore", apart := false, narrowed := true }
def BudgetMoreUptoSaid : Prop := budgetMoreUptoRow.holds Try.pinned (OpenSpec.upto budgetMoreSpec)

/-- 'middenlaw10.VarsClass', WHERE WHAT IT READS IS OF BULK AT MOST 1048576: true; the input reads as it did. -/
def varsClassUptoRow : OpenClaim := { program := "ytlgfajdedmajcaa", sum := "c51c3bc0c6088767c8bc533be0cbe7f0e22c0ef6a54aa111bdad03674c7b6ab7", func := "midden/middenlaw10.VarsClass", spec := "varsClass", unfollowed := true, recurses := true, loops := true, apart := false, narrowed := true }
def VarsClassUptoSaid : Prop := varsClassUptoRow.holds Try.pinned (OpenSpec.upto varsClassSpec)

/-- 'middenlaw10.VarsArgs', WHERE WHAT IT READS IS OF BULK AT MOST 1048576: true; the input reads as it did. -/
def varsArgsUptoRow : OpenClaim := { program := "ytlgfajdedmajcaa", sum := "c51c3bc0c6088767c8bc533be0cbe7f0e22c0ef6a54aa111bdad03674c7b6ab7", func := "midden/middenlaw10.VarsArgs", spec := "varsArgs", unfollowed := true, recurses := true, loops := true, apart := false, narrowed := true }
def VarsArgsUptoSaid : Prop := varsArgsUptoRow.holds Try.pinned (OpenSpec.upto varsArgsSpec)

/-- 'middenlaw10.VarsRight', WHERE WHAT IT READS IS OF BULK AT MOST 1048576: true; the input reads as it did. -/
def varsRightUptoRow : OpenClaim := { program := "ytlgfajdedmajcaa", sum := "c51c3bc0c6088767c8bc533be0cbe7f0e22c0ef6a54aa111bdad03674c7b6ab7", func := "midden/middenlaw10.VarsRight", spec := "varsRight", unfollowed := true, recurses := true, loops := true, apart := false, narrowed := true }
def VarsRightUptoSaid : Prop := varsRightUptoRow.holds Try.pinned (OpenSpec.upto varsRightSpec)

end Rows
end Go.Proofs.Ytlgfajdedmajcaa
