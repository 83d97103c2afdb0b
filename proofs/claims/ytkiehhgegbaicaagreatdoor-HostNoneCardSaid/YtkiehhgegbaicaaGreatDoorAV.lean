/- 'middenlaw23.HostNone': what the evaluator says of it, its run in parts (AT). -/
import Derived.Test.YtkiehhgegbaicaaGreatDoorAT
import Derived.Test.YtkiehhgegbaicaaGreatDoorM0
namespace Go.Proofs.YtkiehhgegbaicaaGreatDoor.AV
open Go Go.Eng Go.AM Go.Proofs Go.RowKit
set_option linter.unusedVariables false
set_option linter.unusedSectionVars false
set_option maxRecDepth 1000000
set_option maxHeartbeats 0
theorem runs : runE Tryz.prog AW.tau AW.fns 100000 (tabOf AT.lst) 300 ⟨3, 1024, .cs (.agg (argX 900 7)) .nl, M.gl.map fun p => (p.1, Blk.r p.2), [(.b true, [], 45784)]⟩ = true := by kernel_rfl
theorem law {F : PH} {cs : List Value} (h1 : ∀ c ∈ cs, c.oneCell' = true) (hl : cs.length = 7) (hgl : GlobIn F M.gl) : PFn Tryz.prog 3 [.agg cs.toArray] F (fun v F' => v = .bool true ∧ F' = F) :=
  EntOk.law (y := .b true) (FnsOk.call AW.fns_ok (by kernel_rfl)) (AT.top runs) (valsOf cs) (arg_den h1 hl (by decide)) (fun p hp => by cases List.mem_singleton.1 hp; rfl) rfl hgl
end Go.Proofs.YtkiehhgegbaicaaGreatDoor.AV
