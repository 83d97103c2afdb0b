/-
  NARROWER THAN 'FOR EVERY INPUT', by the rows' own cells (each row's printed sentence says how): ScriptParses: laid · ScriptTrees: loops, laid · ScriptWrites: laid · ScriptBack: laid.
  DERIVED. THE GIVEN ROWS OF THIS SEAT. 4 by the template 'for every input the law returns true; each argument reads behind the call as it read before'; 0 by the template 'total and deterministic' (their statements: YtmiekonofocboaaGreatDoorTotals.lean).
  GIVEN WITH THE SEED: the statements are not yours to turn. If you find one false, say at which input.
  Laid BY PROGRAM, IN A SANDBOX (cutbox-rows.mjs): the forced cells as the released guide's own fill.sh prints them over the translation 55977abf226c89f1… (all of the seat's roots in one cut). By AI agents, Wed Nov 11 2026. No macro, syntax, notation, axiom, sorry.
-/
import Derived.Test.YtmiekonofocboaaGreatDoorChecked
import GoSem.Claim
import GoSem.ClaimJoined
import GoSem.ClaimMapViews
import Derived.JoinedTies
import Derived.KernelRfl
namespace Go.Proofs.YtmiekonofocboaaGreatDoor
/- THE CELL 'sum', in the pinned program and in every row, IS THE sha256 OF THE DUMP (.gsa) THAT YtmiekonofocboaaGreatDoorProg.lean LOADS. Nothing in Lean hashes anything: it is a label: what it is worth is what the hold of that sum in a sandbox is worth. -/
noncomputable def Tryz.pinned : Pinned := { name := "ytmiekonofocboaagreatdoor", sum := "55977abf226c89f1d4c23d576daea38cc03188cda26c6b0fdbca02348d601dc4", checked := Tryz.checked }
namespace Rows
def none {H : Type} : Left H := { results := [], args := [] }

/- WHAT THE LISTED PACKAGE-LEVEL VARIABLES READ AS WHEN THE CALL BEGINS. Each datum BY PROGRAM (the guide's laid-datum.mjs) off the statement by which the dump's own 'gosem.cut.vars' lays the variable. In a bare row this is a premise. The card (YtmiekonofocboaaGreatDoorCards.lean) ties it to the program's text. -/
def laid_midden_prim_table {H : Type} : DataW H := .agg [.agg [.lit (.string []), .lit (.int .i64 0), .agg [.lit (.int .i64 0), .lit (.int .i64 0), .lit (.int .i64 0)]], .agg [.lit (.string [35, 97, 100, 100]), .lit (.int .i64 2), .agg [.lit (.int .i64 2), .lit (.int .i64 2), .lit (.int .i64 0)]], .agg [.lit (.string [35, 115, 117, 98]), .lit (.int .i64 2), .agg [.lit (.int .i64 2), .lit (.int .i64 2), .lit (.int .i64 0)]], .agg [.lit (.string [35, 109, 117, 108]), .lit (.int .i64 2), .agg [.lit (.int .i64 2), .lit (.int .i64 2), .lit (.int .i64 0)]], .agg [.lit (.string [35, 100, 105, 118]), .lit (.int .i64 2), .agg [.lit (.int .i64 2), .lit (.int .i64 2), .lit (.int .i64 0)]], .agg [.lit (.string [35, 114, 101, 109]), .lit (.int .i64 2), .agg [.lit (.int .i64 2), .lit (.int .i64 2), .lit (.int .i64 0)]], .agg [.lit (.string [35, 101, 113]), .lit (.int .i64 2), .agg [.lit (.int .i64 2), .lit (.int .i64 2), .lit (.int .i64 0)]], .agg [.lit (.string [35, 108, 116]), .lit (.int .i64 2), .agg [.lit (.int .i64 2), .lit (.int .i64 2), .lit (.int .i64 0)]], .agg [.lit (.string [35, 101, 109, 105, 116]), .lit (.int .i64 1), .agg [.lit (.int .i64 2), .lit (.int .i64 0), .lit (.int .i64 0)]], .agg [.lit (.string [35, 115, 101, 113]), .lit (.int .i64 2), .agg [.lit (.int .i64 1), .lit (.int .i64 0), .lit (.int .i64 0)]], .agg [.lit (.string [35, 114, 101, 102]), .lit (.int .i64 1), .agg [.lit (.int .i64 0), .lit (.int .i64 0), .lit (.int .i64 0)]], .agg [.lit (.string [35, 103, 101, 116]), .lit (.int .i64 1), .agg [.lit (.int .i64 3), .lit (.int .i64 0), .lit (.int .i64 0)]], .agg [.lit (.string [35, 115, 101, 116]), .lit (.int .i64 2), .agg [.lit (.int .i64 3), .lit (.int .i64 0), .lit (.int .i64 0)]], .agg [.lit (.string [35, 97, 114, 114]), .lit (.int .i64 2), .agg [.lit (.int .i64 2), .lit (.int .i64 0), .lit (.int .i64 0)]], .agg [.lit (.string [35, 97, 116]), .lit (.int .i64 2), .agg [.lit (.int .i64 4), .lit (.int .i64 2), .lit (.int .i64 0)]], .agg [.lit (.string [35, 112, 117, 116]), .lit (.int .i64 3), .agg [.lit (.int .i64 4), .lit (.int .i64 2), .lit (.int .i64 0)]], .agg [.lit (.string [35, 108, 101, 110]), .lit (.int .i64 1), .agg [.lit (.int .i64 4), .lit (.int .i64 0), .lit (.int .i64 0)]]]
def laid_midden_word_masks {H : Type} : DataW H := .agg [.lit (.int .u64 15), .lit (.int .u64 4095), .lit (.int .u64 4095), .lit (.int .u64 1048575)]

/-- 'middenlaw24.ScriptParses': WHATEVER THE INPUT: true; the input reads as it did. -/
def scriptParsesSpec : ChangeSpec := { name := "scriptParses", fn := fun _ => fun
  | [d] => { results := [.lit (.bool true)], args := [d] }
  | _ => none }
def scriptParsesRow : OpenClaim := { program := "ytmiekonofocboaagreatdoor", sum := "55977abf226c89f1d4c23d576daea38cc03188cda26c6b0fdbca02348d601dc4", func := "midden/middenlaw24.ScriptParses", spec := "scriptParses", unfollowed := true, recurses := true, named := ["midden/prim.table", "midden/word.masks"], apart := false, laid := [("midden/prim.table", laid_midden_prim_table), ("midden/word.masks", laid_midden_word_masks)] }
def ScriptParsesSaid : Prop := scriptParsesRow.holds Tryz.pinned (OpenSpec.ofChange scriptParsesSpec)

/-- ITS FALSE NEIGHBOUR: 'it returns false'. Refute it at one input. -/
def scriptParsesWrong : ChangeSpec := { name := "scriptParses", fn := fun _ => fun
  | [d] => { results := [.lit (.bool false)], args := [d] }
  | _ => none }
def ScriptParsesWrongFalsely : Prop := scriptParsesRow.holds Tryz.pinned (OpenSpec.ofChange scriptParsesWrong)

/-- 'middenlaw24.ScriptTrees': WHATEVER THE INPUT: true; the input reads as it did. -/
def scriptTreesSpec : ChangeSpec := { name := "scriptTrees", fn := fun _ => fun
  | [d] => { results := [.lit (.bool true)], args := [d] }
  | _ => none }
def scriptTreesRow : OpenClaim := { program := "ytmiekonofocboaagreatdoor", sum := "55977abf226c89f1d4c23d576daea38cc03188cda26c6b0fdbca02348d601dc4", func := "midden/middenlaw24.ScriptTrees", spec := "scriptTrees", unfollowed := true, recurses := true, named := ["midden/prim.table", "midden/word.masks"], loops := true, apart := false, laid := [("midden/prim.table", laid_midden_prim_table), ("midden/word.masks", laid_midden_word_masks)] }
def ScriptTreesSaid : Prop := scriptTreesRow.holds Tryz.pinned (OpenSpec.ofChange scriptTreesSpec)

/-- ITS FALSE NEIGHBOUR: 'it returns false'. Refute it at one input. -/
def scriptTreesWrong : ChangeSpec := { name := "scriptTrees", fn := fun _ => fun
  | [d] => { results := [.lit (.bool false)], args := [d] }
  | _ => none }
def ScriptTreesWrongFalsely : Prop := scriptTreesRow.holds Tryz.pinned (OpenSpec.ofChange scriptTreesWrong)

/-- 'middenlaw24.ScriptWrites': WHATEVER THE INPUT: true; the input reads as it did. -/
def scriptWritesSpec : ChangeSpec := { name := "scriptWrites", fn := fun _ => fun
  | [d] => { results := [.lit (.bool true)], args := [d] }
  | _ => none }
def scriptWritesRow : OpenClaim := { program := "ytmiekonofocboaagreatdoor", sum := "55977abf226c89f1d4c23d576daea38cc03188cda26c6b0fdbca02348d601dc4", func := "midden/middenlaw24.ScriptWrites", spec := "scriptWrites", unfollowed := true, recurses := true, named := ["midden/prim.table", "midden/word.masks"], apart := false, laid := [("midden/prim.table", laid_midden_prim_table), ("midden/word.masks", laid_midden_word_masks)] }
def ScriptWritesSaid : Prop := scriptWritesRow.holds Tryz.pinned (OpenSpec.ofChange scriptWritesSpec)

/-- ITS FALSE NEIGHBOUR: 'it returns false'. Refute it at one input. -/
def scriptWritesWrong : ChangeSpec := { name := "scriptWrites", fn := fun _ => fun
  | [d] => { results := [.lit (.bool false)], args := [d] }
  | _ => none }
def ScriptWritesWrongFalsely : Prop := scriptWritesRow.holds Tryz.pinned (OpenSpec.ofChange scriptWritesWrong)

/-- 'middenlaw24.ScriptBack': WHATEVER THE INPUT: true; the input reads as it did. -/
def scriptBackSpec : ChangeSpec := { name := "scriptBack", fn := fun _ => fun
  | [d1, d2] => { results := [.lit (.bool true)], args := [d1, d2] }
  | _ => none }
def scriptBackRow : OpenClaim := { program := "ytmiekonofocboaagreatdoor", sum := "55977abf226c89f1d4c23d576daea38cc03188cda26c6b0fdbca02348d601dc4", func := "midden/middenlaw24.ScriptBack", spec := "scriptBack", unfollowed := true, recurses := true, named := ["midden/prim.table", "midden/word.masks"], apart := false, laid := [("midden/prim.table", laid_midden_prim_table), ("midden/word.masks", laid_midden_word_masks)] }
def ScriptBackSaid : Prop := scriptBackRow.holds Tryz.pinned (OpenSpec.ofChange scriptBackSpec)

/-- ITS FALSE NEIGHBOUR: 'it returns false'. Refute it at one input. -/
def scriptBackWrong : ChangeSpec := { name := "scriptBack", fn := fun _ => fun
  | [d1, d2] => { results := [.lit (.bool false)], args := [d1, d2] }
  | _ => none }
def ScriptBackWrongFalsely : Prop := scriptBackRow.holds Tryz.pinned (OpenSpec.ofChange scriptBackWrong)

/- THE SECOND FORM. 'bulk': how many values and letters a reading holds, each counted each time it is reached (what is shared counts as often as it is met; a slice's spare places count too). A statement '..UptoSaid' is the law's where the arguments, and the package variables that the reading takes, are together of bulk at most 1048576: NARROWER than '..Said'. Prove '..Said' where nothing that the law and all that it calls make is longer than what came in: it says more and counts as full. Else prove '..UptoSaid'. A law counts once. -/
mutual
def uptoBulk {H : Type} : DataW H → Nat
  | .lit (.string bytes) => bytes.length + 1
  | .lit _ => 1
  | .nil => 1
  | .ptr d => uptoBulk d + 1
  | .slice elems spare => uptoBulkAll elems + uptoBulkAll spare + 1
  | .agg parts => uptoBulkAll parts + 1
  | .iface _ d => uptoBulk d + 1
  | .map entries => uptoBulkEntries entries + 1
  | .held _ => 1
def uptoBulkAll {H : Type} : List (DataW H) → Nat
  | [] => 0
  | d :: r => uptoBulk d + uptoBulkAll r
def uptoBulkEntries {H : Type} : List (Lit × DataW H) → Nat
  | [] => 0
  | x :: r => uptoBulkEntry x + uptoBulkEntries r
def uptoBulkEntry {H : Type} : Lit × DataW H → Nat
  | (.string bytes, d) => bytes.length + uptoBulk d + 1
  | (_, d) => uptoBulk d + 1
 end
def uptoSmall : (H : Type) → List (DataW H) → Bool := fun _ ds => decide (uptoBulkAll ds ≤ 1048576)
def OpenSpec.upto (s : _root_.Go.ChangeSpec) : _root_.Go.OpenSpec := { _root_.Go.OpenSpec.ofChange s with cond := some uptoSmall }

/-- 'middenlaw24.ScriptParses', WHERE WHAT IT READS IS OF BULK AT MOST 1048576: true; the input reads as it did. -/
def scriptParsesUptoRow : OpenClaim := { program := "ytmiekonofocboaagreatdoor", sum := "55977abf226c89f1d4c23d576daea38cc03188cda26c6b0fdbca02348d601dc4", func := "midden/middenlaw24.ScriptParses", spec := "scriptParses", unfollowed := true, recurses := true, named := ["midden/prim.table", "midden/word.masks"], apart := false, laid := [("midden/prim.table", laid_midden_prim_table), ("midden/word.masks", laid_midden_word_masks)], narrowed := true }
def ScriptParsesUptoSaid : Prop := scriptParsesUptoRow.holds Tryz.pinned (OpenSpec.upto scriptParsesSpec)

/-- 'middenlaw24.ScriptTrees', WHERE WHAT IT READS IS OF BULK AT MOST 1048576: true; the input reads as it did. -/
def scriptTreesUptoRow : OpenClaim := { program := "ytmiekonofocboaagreatdoor", sum := "55977abf226c89f1d4c23d576daea38cc03188cda26c6b0fdbca02348d601dc4", func := "midden/middenlaw24.ScriptTrees", spec := "scriptTrees", unfollowed := true, recurses := true, named := ["midden/prim.table", "midden/word.masks"], loops := true, apart := false, laid := [("midden/prim.table", laid_midden_prim_table), ("midden/word.masks", laid_midden_word_masks)], narrowed := true }
def ScriptTreesUptoSaid : Prop := scriptTreesUptoRow.holds Tryz.pinned (OpenSpec.upto scriptTreesSpec)

/-- 'middenlaw24.ScriptWrites', WHERE WHAT IT READS IS OF BULK AT MOST 1048576: true; the input reads as it did. -/
def scriptWritesUptoRow : OpenClaim := { program := "ytmiekonofocboaagreatdoor", sum := "55977abf226c89f1d4c23d576daea38cc03188cda26c6b0fdbca02348d601dc4", func := "midden/middenlaw24.ScriptWrites", spec := "scriptWrites", unfollowed := true, recurses := true, named := ["midden/prim.table", "midden/word.masks"], apart := false, laid := [("midden/prim.table", laid_midden_prim_table), ("midden/word.masks", laid_midden_word_masks)], narrowed := true }
def ScriptWritesUptoSaid : Prop := scriptWritesUptoRow.holds Tryz.pinned (OpenSpec.upto scriptWritesSpec)

/-- 'middenlaw24.ScriptBack', WHERE WHAT IT READS IS OF BULK AT MOST 1048576: true; the input reads as it did. -/
def scriptBackUptoRow : OpenClaim := { program := "ytmiekonofocboaagreatdoor", sum := "55977abf226c89f1d4c23d576daea38cc03188cda26c6b0fdbca02348d601dc4", func := "midden/middenlaw24.ScriptBack", spec := "scriptBack", unfollowed := true, recurses := true, named := ["midden/prim.table", "midden/word.masks"], apart := false, laid := [("midden/prim.table", laid_midden_prim_table), ("midden/word.masks", laid_midden_word_masks)], narrowed := true }
def ScriptBackUptoSaid : Prop := scriptBackUptoRow.holds Tryz.pinned (OpenSpec.upto scriptBackSpec)

end Rows
end Go.Proofs.YtmiekonofocboaaGreatDoor
