/-
  NARROWER THAN 'FOR EVERY INPUT', by the rows' own cells (each row's printed sentence says how): GenCompiles: loops, laid · GenRight: loops, laid · GenNames: loops, laid · GenTexts: laid.
  DERIVED. THE GIVEN ROWS OF THIS SEAT. 4 by the template 'for every input the law returns true; each argument reads behind the call as it read before'; 0 by the template 'total and deterministic' (their statements: YtoepmdbicdoieaaDoorTotals.lean).
  GIVEN WITH THE SEED: the statements are not yours to turn. If you find one false, say at which input.
  Laid BY PROGRAM, IN A SANDBOX (cutbox-rows.mjs): the forced cells as the released guide's own fill.sh prints them over the translation 5136ac1f4bb9dec8… (all of the seat's roots in one cut). By AI agents, Wed Nov 11 2026. No macro, syntax, notation, axiom, sorry.
-/
import Derived.Test.YtoepmdbicdoieaaDoorChecked
import GoSem.Claim
import GoSem.ClaimJoined
import GoSem.ClaimMapViews
import Derived.JoinedTies
import Derived.KernelRfl
namespace Go.Proofs.YtoepmdbicdoieaaDoor
/- THE CELL 'sum', in the pinned program and in every row, IS THE sha256 OF THE DUMP (.gsa) THAT YtoepmdbicdoieaaDoorProg.lean LOADS. Nothing in Lean hashes anything: it is a label: what it is worth is what the hold of that sum in a sandbox is worth. -/
noncomputable def Tryd.pinned : Pinned := { name := "ytoepmdbicdoieaadoor", sum := "5136ac1f4bb9dec8b93a21f74f050465df8dc48b347d239b29dddb0a7468d2ab", checked := Tryd.checked }
namespace Rows
def none {H : Type} : Left H := { results := [], args := [] }

/- WHAT THE LISTED PACKAGE-LEVEL VARIABLES READ AS WHEN THE CALL BEGINS. Each datum BY PROGRAM (the guide's laid-datum.mjs) off the statement by which the dump's own 'gosem.cut.vars' lays the variable. In a bare row this is a premise. The card (YtoepmdbicdoieaaDoorCards.lean) ties it to the program's text. -/
def laid_midden_prim_table {H : Type} : DataW H := .agg [.agg [.lit (.string []), .lit (.int .i64 0), .agg [.lit (.int .i64 0), .lit (.int .i64 0), .lit (.int .i64 0)]], .agg [.lit (.string [35, 97, 100, 100]), .lit (.int .i64 2), .agg [.lit (.int .i64 2), .lit (.int .i64 2), .lit (.int .i64 0)]], .agg [.lit (.string [35, 115, 117, 98]), .lit (.int .i64 2), .agg [.lit (.int .i64 2), .lit (.int .i64 2), .lit (.int .i64 0)]], .agg [.lit (.string [35, 109, 117, 108]), .lit (.int .i64 2), .agg [.lit (.int .i64 2), .lit (.int .i64 2), .lit (.int .i64 0)]], .agg [.lit (.string [35, 100, 105, 118]), .lit (.int .i64 2), .agg [.lit (.int .i64 2), .lit (.int .i64 2), .lit (.int .i64 0)]], .agg [.lit (.string [35, 114, 101, 109]), .lit (.int .i64 2), .agg [.lit (.int .i64 2), .lit (.int .i64 2), .lit (.int .i64 0)]], .agg [.lit (.string [35, 101, 113]), .lit (.int .i64 2), .agg [.lit (.int .i64 2), .lit (.int .i64 2), .lit (.int .i64 0)]], .agg [.lit (.string [35, 108, 116]), .lit (.int .i64 2), .agg [.lit (.int .i64 2), .lit (.int .i64 2), .lit (.int .i64 0)]], .agg [.lit (.string [35, 101, 109, 105, 116]), .lit (.int .i64 1), .agg [.lit (.int .i64 2), .lit (.int .i64 0), .lit (.int .i64 0)]], .agg [.lit (.string [35, 115, 101, 113]), .lit (.int .i64 2), .agg [.lit (.int .i64 1), .lit (.int .i64 0), .lit (.int .i64 0)]], .agg [.lit (.string [35, 114, 101, 102]), .lit (.int .i64 1), .agg [.lit (.int .i64 0), .lit (.int .i64 0), .lit (.int .i64 0)]], .agg [.lit (.string [35, 103, 101, 116]), .lit (.int .i64 1), .agg [.lit (.int .i64 3), .lit (.int .i64 0), .lit (.int .i64 0)]], .agg [.lit (.string [35, 115, 101, 116]), .lit (.int .i64 2), .agg [.lit (.int .i64 3), .lit (.int .i64 0), .lit (.int .i64 0)]], .agg [.lit (.string [35, 97, 114, 114]), .lit (.int .i64 2), .agg [.lit (.int .i64 2), .lit (.int .i64 0), .lit (.int .i64 0)]], .agg [.lit (.string [35, 97, 116]), .lit (.int .i64 2), .agg [.lit (.int .i64 4), .lit (.int .i64 2), .lit (.int .i64 0)]], .agg [.lit (.string [35, 112, 117, 116]), .lit (.int .i64 3), .agg [.lit (.int .i64 4), .lit (.int .i64 2), .lit (.int .i64 0)]], .agg [.lit (.string [35, 108, 101, 110]), .lit (.int .i64 1), .agg [.lit (.int .i64 4), .lit (.int .i64 0), .lit (.int .i64 0)]]]

/-- 'middenlaw13.GenCompiles': WHATEVER THE INPUT: true; the input reads as it did. -/
def genCompilesSpec : ChangeSpec := { name := "genCompiles", fn := fun _ => fun
  | [d] => { results := [.lit (.bool true)], args := [d] }
  | _ => none }
def genCompilesRow : OpenClaim := { program := "ytoepmdbicdoieaadoor", sum := "5136ac1f4bb9dec8b93a21f74f050465df8dc48b347d239b29dddb0a7468d2ab", func := "midden/middenlaw13.GenCompiles", spec := "genCompiles", unfollowed := true, recurses := true, named := ["midden/prim.table"], loops := true, apart := false, laid := [("midden/prim.table", laid_midden_prim_table)] }
def GenCompilesSaid : Prop := genCompilesRow.holds Tryd.pinned (OpenSpec.ofChange genCompilesSpec)

/-- ITS FALSE NEIGHBOUR: 'it returns false'. Refute it at one input. -/
def genCompilesWrong : ChangeSpec := { name := "genCompiles", fn := fun _ => fun
  | [d] => { results := [.lit (.bool false)], args := [d] }
  | _ => none }
def GenCompilesWrongFalsely : Prop := genCompilesRow.holds Tryd.pinned (OpenSpec.ofChange genCompilesWrong)

/-- 'middenlaw13.GenRight': WHATEVER THE INPUT: true; the input reads as it did. -/
def genRightSpec : ChangeSpec := { name := "genRight", fn := fun _ => fun
  | [d] => { results := [.lit (.bool true)], args := [d] }
  | _ => none }
def genRightRow : OpenClaim := { program := "ytoepmdbicdoieaadoor", sum := "5136ac1f4bb9dec8b93a21f74f050465df8dc48b347d239b29dddb0a7468d2ab", func := "midden/middenlaw13.GenRight", spec := "genRight", unfollowed := true, recurses := true, named := ["midden/prim.table"], loops := true, apart := false, laid := [("midden/prim.table", laid_midden_prim_table)] }
def GenRightSaid : Prop := genRightRow.holds Tryd.pinned (OpenSpec.ofChange genRightSpec)

/-- ITS FALSE NEIGHBOUR: 'it returns false'. Refute it at one input. -/
def genRightWrong : ChangeSpec := { name := "genRight", fn := fun _ => fun
  | [d] => { results := [.lit (.bool false)], args := [d] }
  | _ => none }
def GenRightWrongFalsely : Prop := genRightRow.holds Tryd.pinned (OpenSpec.ofChange genRightWrong)

/-- 'middenlaw13.GenNames': WHATEVER THE INPUT: true; the input reads as it did. -/
def genNamesSpec : ChangeSpec := { name := "genNames", fn := fun _ => fun
  | [d] => { results := [.lit (.bool true)], args := [d] }
  | _ => none }
def genNamesRow : OpenClaim := { program := "ytoepmdbicdoieaadoor", sum := "5136ac1f4bb9dec8b93a21f74f050465df8dc48b347d239b29dddb0a7468d2ab", func := "midden/middenlaw13.GenNames", spec := "genNames", unfollowed := true, recurses := true, named := ["midden/prim.table"], loops := true, apart := false, laid := [("midden/prim.table", laid_midden_prim_table)] }
def GenNamesSaid : Prop := genNamesRow.holds Tryd.pinned (OpenSpec.ofChange genNamesSpec)

/-- ITS FALSE NEIGHBOUR: 'it returns false'. Refute it at one input. -/
def genNamesWrong : ChangeSpec := { name := "genNames", fn := fun _ => fun
  | [d] => { results := [.lit (.bool false)], args := [d] }
  | _ => none }
def GenNamesWrongFalsely : Prop := genNamesRow.holds Tryd.pinned (OpenSpec.ofChange genNamesWrong)

/-- 'middenlaw13.GenTexts': WHATEVER THE INPUT: true; the input reads as it did. -/
def genTextsSpec : ChangeSpec := { name := "genTexts", fn := fun _ => fun
  | [d] => { results := [.lit (.bool true)], args := [d] }
  | _ => none }
def genTextsRow : OpenClaim := { program := "ytoepmdbicdoieaadoor", sum := "5136ac1f4bb9dec8b93a21f74f050465df8dc48b347d239b29dddb0a7468d2ab", func := "midden/middenlaw13.GenTexts", spec := "genTexts", unfollowed := true, recurses := true, named := ["midden/prim.table"], apart := false, laid := [("midden/prim.table", laid_midden_prim_table)] }
def GenTextsSaid : Prop := genTextsRow.holds Tryd.pinned (OpenSpec.ofChange genTextsSpec)

/-- ITS FALSE NEIGHBOUR: 'it returns false'. Refute it at one input. -/
def genTextsWrong : ChangeSpec := { name := "genTexts", fn := fun _ => fun
  | [d] => { results := [.lit (.bool false)], args := [d] }
  | _ => none }
def GenTextsWrongFalsely : Prop := genTextsRow.holds Tryd.pinned (OpenSpec.ofChange genTextsWrong)

/- THE SECOND FORM. 'bulk': how many values and letters a reading holds, each counted each time it is reached (what is shared counts as often as it is met; a slice's spare places count too). A statement '..UptoSaid' is the law's where the arguments, and the package variables that the reading takes, are together of bulk at most 1048576: NARROWER than '..Said'. Prove '..Said' where nothing that the law and all that it calls make is longer than what came in: it says more and counts as full. Else prove '..UptoSaid'. A law counts once. -/
mutual
def uptoBulk {H : Type} : DataW H → Nat
  | .lit (.string bytes) => bytes.length + 1
  | .lit _ => 1
  | .nil => 1
  | .ptr d => uptoBulk d + 1
  | .slice elems spare => uptoBulkAll elems + uptoBulkAll spare + 1
  | .agg parts => uptoBulkAll parts + 1
  | .iface _ d => uptoBulk d + 1
  | .map entries => uptoBulkEntries entries + 1
  | .held _ => 1
def uptoBulkAll {H : Type} : List (DataW H) → Nat
  | [] => 0
  | d :: r => uptoBulk d + uptoBulkAll r
def uptoBulkEntries {H : Type} : List (Lit × DataW H) → Nat
  | [] => 0
  | x :: r => uptoBulkEntry x + uptoBulkEntries r
def uptoBulkEntry {H : Type} : Lit × DataW H → Nat
  | (.string bytes, d) => bytes.length + uptoBulk d + 1
  | (_, d) => uptoBulk d + 1
 end
def uptoSmall : (H : Type) → List (DataW H) → Bool := fun _ ds => decide (uptoBulkAll ds ≤ 1048576)
def OpenSpec.upto (s : _root_.Go.ChangeSpec) : _root_.Go.OpenSpec := { _root_.Go.OpenSpec.ofChange s with cond := some uptoSmall }

/-- 'middenlaw13.GenCompiles', WHERE WHAT IT READS IS OF BULK AT MOST 1048576: true; the input reads as it did. -/
def genCompilesUptoRow : OpenClaim := { program := "ytoepmdbicdoieaadoor", sum := "5136ac1f4bb9dec8b93a21f74f050465df8dc48b347d239b29dddb0a7468d2ab", func := "midden/middenlaw13.GenCompiles", spec := "genCompiles", unfollowed := true, recurses := true, named := ["midden/prim.table"], loops := true, apart := false, laid := [("midden/prim.table", laid_midden_prim_table)], narrowed := true }
def GenCompilesUptoSaid : Prop := genCompilesUptoRow.holds Tryd.pinned (OpenSpec.upto genCompilesSpec)

/-- 'middenlaw13.GenRight', WHERE WHAT IT READS IS OF BULK AT MOST 1048576: true; the input reads as it did. -/
def genRightUptoRow : OpenClaim := { program := "ytoepmdbicdoieaadoor", sum := "5136ac1f4bb9dec8b93a21f74f050465df8dc48b347d239b29dddb0a7468d2ab", func := "midden/middenlaw13.GenRight", spec := "genRight", unfollowed := true, recurses := true, named := ["midden/prim.table"], loops := true, apart := false, laid := [("midden/prim.table", laid_midden_prim_table)], narrowed := true }
def GenRightUptoSaid : Prop := genRightUptoRow.holds Tryd.pinned (OpenSpec.upto genRightSpec)

/-- 'middenlaw13.GenNames', WHERE WHAT IT READS IS OF BULK AT MOST 1048576: true; the input reads as it did. -/
def genNamesUptoRow : OpenClaim := { program := "ytoepmdbicdoieaadoor", sum := "5136ac1f4bb9dec8b93a21f74f050465df8dc48b347d239b29dddb0a7468d2ab", func := "midden/middenlaw13.GenNames", spec := "genNames", unfollowed := true, recurses := true, named := ["midden/prim.table"], loops := true, apart := false, laid := [("midden/prim.table", laid_midden_prim_table)], narrowed := true }
def GenNamesUptoSaid : Prop := genNamesUptoRow.holds Tryd.pinned (OpenSpec.upto genNamesSpec)

/-- 'middenlaw13.GenTexts', WHERE WHAT IT READS IS OF BULK AT MOST 1048576: true; the input reads as it did. -/
def genTextsUptoRow : OpenClaim := { program := "ytoepmdbicdoieaadoor", sum := "5136ac1f4bb9dec8b93a21f74f050465df8dc48b347d239b29dddb0a7468d2ab", func := "midden/middenlaw13.GenTexts", spec := "genTexts", unfollowed := true, recurses := true, named := ["midden/prim.table"], apart := false, laid := [("midden/prim.table", laid_midden_prim_table)], narrowed := true }
def GenTextsUptoSaid : Prop := genTextsUptoRow.holds Tryd.pinned (OpenSpec.upto genTextsSpec)

end Rows
end Go.Proofs.YtoepmdbicdoieaaDoor
