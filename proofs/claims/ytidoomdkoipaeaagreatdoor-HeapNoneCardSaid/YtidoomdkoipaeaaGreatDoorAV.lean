/- 'middenlaw18.HeapNone': what the evaluator says of it. -/
import Derived.Test.YtidoomdkoipaeaaGreatDoorAW
import Derived.Test.YtidoomdkoipaeaaGreatDoorM0
namespace Go.Proofs.YtidoomdkoipaeaaGreatDoor.AV
open Go Go.Eng Go.AM Go.Proofs Go.RowKit
set_option linter.unusedVariables false
set_option linter.unusedSectionVars false
set_option maxRecDepth 1000000
set_option maxHeartbeats 0
theorem follows : Tryz.prog.follows .mixedOrders = true := by kernel_rfl
theorem runs : (match acall Tryz.prog AW.tau AW.fns 100000 60 (fun _ _ _ _ => none) 6 (.cs (.agg (argX 900 10)) .nl) (hp0 M.gl) 1024 with | some outs => outs.all (fun p => sameX p.1 (.b true)) | none => false) = true := by kernel_rfl
theorem law {F : PH} {cs : List Value} (h1 : ∀ c ∈ cs, c.oneCell' = true) (hl : cs.length = 10) (hgl : GlobIn F M.gl) : PFn Tryz.prog 6 [.agg cs.toArray] F (fun v F' => v = .bool true ∧ F' = F) := by
  have h := runs
  cases ho : acall Tryz.prog AW.tau AW.fns 100000 60 (fun _ _ _ _ => none) 6 (.cs (.agg (argX 900 10)) .nl) (hp0 M.gl) 1024 with
  | none => rw [ho] at h; cases h
  | some outs =>
    rw [ho] at h
    exact closed_ok (y := .b true) follows AW.tau_ok AW.fns_ok (valsOf cs) ho (arg_den h1 hl (by decide)) (fun p hp => sameX_eq (List.all_eq_true.1 h p hp)) rfl hgl
end Go.Proofs.YtidoomdkoipaeaaGreatDoor.AV
