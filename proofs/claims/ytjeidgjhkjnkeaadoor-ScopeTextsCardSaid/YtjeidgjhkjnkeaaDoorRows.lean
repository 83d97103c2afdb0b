/-
  NARROWER THAN 'FOR EVERY INPUT', by the rows' own cells (each row's printed sentence says how): ScopeChecks: loops, laid · ScopeTexts: laid · ScopeNames: loops, laid · ScopeMore: loops, laid · ScopeArity: loops, laid.
  DERIVED. THE GIVEN ROWS OF THIS SEAT. 5 by the template 'for every input the law returns true; each argument reads behind the call as it read before'; 0 by the template 'total and deterministic' (their statements: YtjeidgjhkjnkeaaDoorTotals.lean).
  GIVEN WITH THE SEED: the statements are not yours to turn. If you find one false, say at which input.
  Laid BY PROGRAM, IN A SANDBOX (cutbox-rows.mjs): the forced cells as the released guide's own fill.sh prints them over the translation 97be7779ffdb3d62… (all of the seat's roots in one cut). By AI agents, Wed Nov 11 2026. No macro, syntax, notation, axiom, sorry.
-/
import Derived.Test.YtjeidgjhkjnkeaaDoorChecked
import GoSem.Claim
import GoSem.ClaimJoined
import GoSem.ClaimMapViews
import Derived.JoinedTies
import Derived.KernelRfl
namespace Go.Proofs.YtjeidgjhkjnkeaaDoor
/- THE CELL 'sum', in the pinned program and in every row, IS THE sha256 OF THE DUMP (.gsa) THAT YtjeidgjhkjnkeaaDoorProg.lean LOADS. Nothing in Lean hashes anything: it is a label: what it is worth is what the hold of that sum in a sandbox is worth. -/
noncomputable def Tryd.pinned : Pinned := { name := "ytjeidgjhkjnkeaadoor", sum := "97be7779ffdb3d62e64b6251543563c76f3e11e123aa17a6e83da6c49e21fdbb", checked := Tryd.checked }
namespace Rows
def none {H : Type} : Left H := { results := [], args := [] }

/- WHAT THE LISTED PACKAGE-LEVEL VARIABLES READ AS WHEN THE CALL BEGINS. Each datum BY PROGRAM (the guide's laid-datum.mjs) off the statement by which the dump's own 'gosem.cut.vars' lays the variable. In a bare row this is a premise. The card (YtjeidgjhkjnkeaaDoorCards.lean) ties it to the program's text. -/
def laid_midden_prim_table {H : Type} : DataW H := .agg [.agg [.lit (.string []), .lit (.int .i64 0), .agg [.lit (.int .i64 0), .lit (.int .i64 0), .lit (.int .i64 0)]], .agg [.lit (.string [35, 97, 100, 100]), .lit (.int .i64 2), .agg [.lit (.int .i64 2), .lit (.int .i64 2), .lit (.int .i64 0)]], .agg [.lit (.string [35, 115, 117, 98]), .lit (.int .i64 2), .agg [.lit (.int .i64 2), .lit (.int .i64 2), .lit (.int .i64 0)]], .agg [.lit (.string [35, 109, 117, 108]), .lit (.int .i64 2), .agg [.lit (.int .i64 2), .lit (.int .i64 2), .lit (.int .i64 0)]], .agg [.lit (.string [35, 100, 105, 118]), .lit (.int .i64 2), .agg [.lit (.int .i64 2), .lit (.int .i64 2), .lit (.int .i64 0)]], .agg [.lit (.string [35, 114, 101, 109]), .lit (.int .i64 2), .agg [.lit (.int .i64 2), .lit (.int .i64 2), .lit (.int .i64 0)]], .agg [.lit (.string [35, 101, 113]), .lit (.int .i64 2), .agg [.lit (.int .i64 2), .lit (.int .i64 2), .lit (.int .i64 0)]], .agg [.lit (.string [35, 108, 116]), .lit (.int .i64 2), .agg [.lit (.int .i64 2), .lit (.int .i64 2), .lit (.int .i64 0)]], .agg [.lit (.string [35, 101, 109, 105, 116]), .lit (.int .i64 1), .agg [.lit (.int .i64 2), .lit (.int .i64 0), .lit (.int .i64 0)]], .agg [.lit (.string [35, 115, 101, 113]), .lit (.int .i64 2), .agg [.lit (.int .i64 1), .lit (.int .i64 0), .lit (.int .i64 0)]], .agg [.lit (.string [35, 114, 101, 102]), .lit (.int .i64 1), .agg [.lit (.int .i64 0), .lit (.int .i64 0), .lit (.int .i64 0)]], .agg [.lit (.string [35, 103, 101, 116]), .lit (.int .i64 1), .agg [.lit (.int .i64 3), .lit (.int .i64 0), .lit (.int .i64 0)]], .agg [.lit (.string [35, 115, 101, 116]), .lit (.int .i64 2), .agg [.lit (.int .i64 3), .lit (.int .i64 0), .lit (.int .i64 0)]], .agg [.lit (.string [35, 97, 114, 114]), .lit (.int .i64 2), .agg [.lit (.int .i64 2), .lit (.int .i64 0), .lit (.int .i64 0)]], .agg [.lit (.string [35, 97, 116]), .lit (.int .i64 2), .agg [.lit (.int .i64 4), .lit (.int .i64 2), .lit (.int .i64 0)]], .agg [.lit (.string [35, 112, 117, 116]), .lit (.int .i64 3), .agg [.lit (.int .i64 4), .lit (.int .i64 2), .lit (.int .i64 0)]], .agg [.lit (.string [35, 108, 101, 110]), .lit (.int .i64 1), .agg [.lit (.int .i64 4), .lit (.int .i64 0), .lit (.int .i64 0)]]]

/-- 'middenlaw09.ScopeChecks': WHATEVER THE INPUT: true; the input reads as it did. -/
def scopeChecksSpec : ChangeSpec := { name := "scopeChecks", fn := fun _ => fun
  | [d] => { results := [.lit (.bool true)], args := [d] }
  | _ => none }
def scopeChecksRow : OpenClaim := { program := "ytjeidgjhkjnkeaadoor", sum := "97be7779ffdb3d62e64b6251543563c76f3e11e123aa17a6e83da6c49e21fdbb", func := "midden/middenlaw09.ScopeChecks", spec := "scopeChecks", unfollowed := true, recurses := true, named := ["midden/prim.table"], loops := true, apart := false, laid := [("midden/prim.table", laid_midden_prim_table)] }
def ScopeChecksSaid : Prop := scopeChecksRow.holds Tryd.pinned (OpenSpec.ofChange scopeChecksSpec)

/-- ITS FALSE NEIGHBOUR: 'it returns false'. Refute it at one input. -/
def scopeChecksWrong : ChangeSpec := { name := "scopeChecks", fn := fun _ => fun
  | [d] => { results := [.lit (.bool false)], args := [d] }
  | _ => none }
def ScopeChecksWrongFalsely : Prop := scopeChecksRow.holds Tryd.pinned (OpenSpec.ofChange scopeChecksWrong)

/-- 'middenlaw09.ScopeTexts': WHATEVER THE INPUT: true; the input reads as it did. -/
def scopeTextsSpec : ChangeSpec := { name := "scopeTexts", fn := fun _ => fun
  | [d] => { results := [.lit (.bool true)], args := [d] }
  | _ => none }
def scopeTextsRow : OpenClaim := { program := "ytjeidgjhkjnkeaadoor", sum := "97be7779ffdb3d62e64b6251543563c76f3e11e123aa17a6e83da6c49e21fdbb", func := "midden/middenlaw09.ScopeTexts", spec := "scopeTexts", unfollowed := true, recurses := true, named := ["midden/prim.table"], apart := false, laid := [("midden/prim.table", laid_midden_prim_table)] }
def ScopeTextsSaid : Prop := scopeTextsRow.holds Tryd.pinned (OpenSpec.ofChange scopeTextsSpec)

/-- ITS FALSE NEIGHBOUR: 'it returns false'. Refute it at one input. -/
def scopeTextsWrong : ChangeSpec := { name := "scopeTexts", fn := fun _ => fun
  | [d] => { results := [.lit (.bool false)], args := [d] }
  | _ => none }
def ScopeTextsWrongFalsely : Prop := scopeTextsRow.holds Tryd.pinned (OpenSpec.ofChange scopeTextsWrong)

/-- 'middenlaw09.ScopeNames': WHATEVER THE INPUT: true; the input reads as it did. -/
def scopeNamesSpec : ChangeSpec := { name := "scopeNames", fn := fun _ => fun
  | [d] => { results := [.lit (.bool true)], args := [d] }
  | _ => none }
def scopeNamesRow : OpenClaim := { program := "ytjeidgjhkjnkeaadoor", sum := "97be7779ffdb3d62e64b6251543563c76f3e11e123aa17a6e83da6c49e21fdbb", func := "midden/middenlaw09.ScopeNames", spec := "scopeNames", unfollowed := true, recurses := true, named := ["midden/prim.table"], loops := true, apart := false, laid := [("midden/prim.table", laid_midden_prim_table)] }
def ScopeNamesSaid : Prop := scopeNamesRow.holds Tryd.pinned (OpenSpec.ofChange scopeNamesSpec)

/-- ITS FALSE NEIGHBOUR: 'it returns false'. Refute it at one input. -/
def scopeNamesWrong : ChangeSpec := { name := "scopeNames", fn := fun _ => fun
  | [d] => { results := [.lit (.bool false)], args := [d] }
  | _ => none }
def ScopeNamesWrongFalsely : Prop := scopeNamesRow.holds Tryd.pinned (OpenSpec.ofChange scopeNamesWrong)

/-- 'middenlaw09.ScopeMore': WHATEVER THE INPUT: true; the input reads as it did. -/
def scopeMoreSpec : ChangeSpec := { name := "scopeMore", fn := fun _ => fun
  | [d1, d2] => { results := [.lit (.bool true)], args := [d1, d2] }
  | _ => none }
def scopeMoreRow : OpenClaim := { program := "ytjeidgjhkjnkeaadoor", sum := "97be7779ffdb3d62e64b6251543563c76f3e11e123aa17a6e83da6c49e21fdbb", func := "midden/middenlaw09.ScopeMore", spec := "scopeMore", unfollowed := true, recurses := true, named := ["midden/prim.table"], loops := true, apart := false, laid := [("midden/prim.table", laid_midden_prim_table)] }
def ScopeMoreSaid : Prop := scopeMoreRow.holds Tryd.pinned (OpenSpec.ofChange scopeMoreSpec)

/-- ITS FALSE NEIGHBOUR: 'it returns false'. Refute it at one input. -/
def scopeMoreWrong : ChangeSpec := { name := "scopeMore", fn := fun _ => fun
  | [d1, d2] => { results := [.lit (.bool false)], args := [d1, d2] }
  | _ => none }
def ScopeMoreWrongFalsely : Prop := scopeMoreRow.holds Tryd.pinned (OpenSpec.ofChange scopeMoreWrong)

/-- 'middenlaw09.ScopeArity': WHATEVER THE INPUT: true; the input reads as it did. -/
def scopeAritySpec : ChangeSpec := { name := "scopeArity", fn := fun _ => fun
  | [d1, d2] => { results := [.lit (.bool true)], args := [d1, d2] }
  | _ => none }
def scopeArityRow : OpenClaim := { program := "ytjeidgjhkjnkeaadoor", sum := "97be7779ffdb3d62e64b6251543563c76f3e11e123aa17a6e83da6c49e21fdbb", func := "midden/middenlaw09.ScopeArity", spec := "scopeArity", unfollowed := true, recurses := true, named := ["midden/prim.table"], loops := true, apart := false, laid := [("midden/prim.table", laid_midden_prim_table)] }
def ScopeAritySaid : Prop := scopeArityRow.holds Tryd.pinned (OpenSpec.ofChange scopeAritySpec)

/-- ITS FALSE NEIGHBOUR: 'it returns false'. Refute it at one input. -/
def scopeArityWrong : ChangeSpec := { name := "scopeArity", fn := fun _ => fun
  | [d1, d2] => { results := [.lit (.bool false)], args := [d1, d2] }
  | _ => none }
def ScopeArityWrongFalsely : Prop := scopeArityRow.holds Tryd.pinned (OpenSpec.ofChange scopeArityWrong)

/- THE SECOND FORM. 'bulk': how many values and letters a reading holds, each counted each time it is reached (what is shared counts as often as it is met; a slice's spare places count too). A statement '..UptoSaid' is the law's where the arguments, and the package variables that the reading takes, are together of bulk at most 1048576: NARROWER than '..Said'. Prove '..Said' where nothing that the law and all that it calls make is longer than what came in: it says more and counts as full. Else prove '..UptoSaid'. A law counts once. -/
mutual
def uptoBulk {H : Type} : DataW H → Nat
  | .lit (.string bytes) => bytes.length + 1
  | .lit _ => 1
  | .nil => 1
  | .ptr d => uptoBulk d + 1
  | .slice elems spare => uptoBulkAll elems + uptoBulkAll spare + 1
  | .agg parts => uptoBulkAll parts + 1
  | .iface _ d => uptoBulk d + 1
  | .map entries => uptoBulkEntries entries + 1
  | .held _ => 1
def uptoBulkAll {H : Type} : List (DataW H) → Nat
  | [] => 0
  | d :: r => uptoBulk d + uptoBulkAll r
def uptoBulkEntries {H : Type} : List (Lit × DataW H) → Nat
  | [] => 0
  | x :: r => uptoBulkEntry x + uptoBulkEntries r
def uptoBulkEntry {H : Type} : Lit × DataW H → Nat
  | (.string bytes, d) => bytes.length + uptoBulk d + 1
  | (_, d) => uptoBulk d + 1
 end
def uptoSmall : (H : Type) → List (DataW H) → Bool := fun _ ds => decide (uptoBulkAll ds ≤ 1048576)
def OpenSpec.upto (s : _root_.Go.ChangeSpec) : _root_.Go.OpenSpec := { _root_.Go.OpenSpec.ofChange s with cond := some uptoSmall }

/-- 'middenlaw09.ScopeChecks', WHERE WHAT IT READS IS OF BULK AT MOST 1048576: true; the input reads as it did. -/
def scopeChecksUptoRow : OpenClaim := { program := "ytjeidgjhkjnkeaadoor", sum := "97be7779ffdb3d62e64b6251543563c76f3e11e123aa17a6e83da6c49e21fdbb", func := "midden/middenlaw09.ScopeChecks", spec := "scopeChecks", unfollowed := true, recurses := true, named := ["midden/prim.table"], loops := true, apart := false, laid := [("midden/prim.table", laid_midden_prim_table)], narrowed := true }
def ScopeChecksUptoSaid : Prop := scopeChecksUptoRow.holds Tryd.pinned (OpenSpec.upto scopeChecksSpec)

/-- 'middenlaw09.ScopeTexts', WHERE WHAT IT READS IS OF BULK AT MOST 1048576: true; the input reads as it did. -/
def scopeTextsUptoRow : OpenClaim := { program := "ytjeidgjhkjnkeaadoor", sum := "97be7779ffdb3d62e64b6251543563c76f3e11e123aa17a6e83da6c49e21fdbb", func := "midden/middenlaw09.ScopeTexts", spec := "scopeTexts", unfollowed := true, recurses := true, named := ["midden/prim.table"], apart := false, laid := [("midden/prim.table", laid_midden_prim_table)], narrowed := true }
def ScopeTextsUptoSaid : Prop := scopeTextsUptoRow.holds Tryd.pinned (OpenSpec.upto scopeTextsSpec)

/-- 'middenlaw09.ScopeNames', WHERE WHAT IT READS IS OF BULK AT MOST 1048576: true; the input reads as it did. -/
def scopeNamesUptoRow : OpenClaim := { program := "ytjeidgjhkjnkeaadoor", sum := "97be7779ffdb3d62e64b6251543563c76f3e11e123aa17a6e83da6c49e21fdbb", func := "midden/middenlaw09.ScopeNames", spec := "scopeNames", unfollowed := true, recurses := true, named := ["midden/prim.table"], loops := true, apart := false, laid := [("midden/prim.table", laid_midden_prim_table)], narrowed := true }
def ScopeNamesUptoSaid : Prop := scopeNamesUptoRow.holds Tryd.pinned (OpenSpec.upto scopeNamesSpec)

/-- 'middenlaw09.ScopeMore', WHERE WHAT IT READS IS OF BULK AT MOST 1048576: true; the input reads as it did. -/
def scopeMoreUptoRow : OpenClaim := { program := "ytjeidgjhkjnkeaadoor", sum := "97be7779ffdb3d62e64b6251543563c76f3e11e123aa17a6e83da6c49e21fdbb", func := "midden/middenlaw09.ScopeMore", spec := "scopeMore", unfollowed := true, recurses := true, named := ["midden/prim.table"], loops := true, apart := false, laid := [("midden/prim.table", laid_midden_prim_table)], narrowed := true }
def ScopeMoreUptoSaid : Prop := scopeMoreUptoRow.holds Tryd.pinned (OpenSpec.upto scopeMoreSpec)

/-- 'middenlaw09.ScopeArity', WHERE WHAT IT READS IS OF BULK AT MOST 1048576: true; the input reads as it did. -/
def scopeArityUptoRow : OpenClaim := { program := "ytjeidgjhkjnkeaadoor", sum := "97be7779ffdb3d62e64b6251543563c76f3e11e123aa17a6e83da6c49e21fdbb", func := "midden/middenlaw09.ScopeArity", spec := "scopeArity", unfollowed := true, recurses := true, named := ["midden/prim.table"], loops := true, apart := false, laid := [("midden/prim.table", laid_midden_prim_table)], narrowed := true }
def ScopeArityUptoSaid : Prop := scopeArityUptoRow.holds Tryd.pinned (OpenSpec.upto scopeAritySpec)

end Rows
end Go.Proofs.YtjeidgjhkjnkeaaDoor
