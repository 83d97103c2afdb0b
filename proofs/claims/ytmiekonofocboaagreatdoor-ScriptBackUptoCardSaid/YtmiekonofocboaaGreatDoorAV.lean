/- 'middenlaw24.awake': what the evaluator says of it, its run in parts (AT). -/
import Derived.Test.YtmiekonofocboaaGreatDoorAT
import Derived.Test.YtmiekonofocboaaGreatDoorM0
namespace Go.Proofs.YtmiekonofocboaaGreatDoor.AV
open Go Go.Eng Go.AM Go.Proofs Go.RowKit
set_option linter.unusedVariables false
set_option linter.unusedSectionVars false
set_option maxRecDepth 1000000
set_option maxHeartbeats 0
theorem runs : runE Tryz.prog AW.tau AW.fns 100000 (tabOf AT.lst) 300 ⟨9, 1024, .nl, M.gl.map fun p => (p.1, Blk.r p.2), [(.b true, [], 32551)]⟩ = true := by kernel_rfl
theorem awake {F : PH} (hgl : GlobIn F M.gl) : PFn Tryz.prog 9 [] F (fun v F' => v = .bool true ∧ F' = F) :=
  EntOk.law (y := .b true) (args := .nl) (FnsOk.call AW.fns_ok (by kernel_rfl)) (AT.top runs) (fun _ => .bool true) rfl (fun p hp => by cases List.mem_singleton.1 hp; rfl) rfl hgl
end Go.Proofs.YtmiekonofocboaaGreatDoor.AV
