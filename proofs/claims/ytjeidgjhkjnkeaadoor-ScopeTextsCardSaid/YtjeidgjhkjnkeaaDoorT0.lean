/- A world in which the table of primitives lies, for the rows' witnesses. -/
import Derived.Test.YtjeidgjhkjnkeaaDoorQ1
import Derived.Test.YtjeidgjhkjnkeaaDoorCards
import Derived.Test.YtjeidgjhkjnkeaaDoorTie
import Derived.WalkKit
import Derived.ProofKit
namespace Go.Proofs.YtjeidgjhkjnkeaaDoor.L
open Go Go.Eng Go.Proofs Go.Proofs.YtjeidgjhkjnkeaaDoor.K Go.Proofs.YtjeidgjhkjnkeaaDoor.P Go.Proofs.YtjeidgjhkjnkeaaDoor.R
open Go.ChangeShapes Go.WideShapes Go.ChangeAt Go.RowKit
set_option linter.unusedVariables false
set_option maxRecDepth 100000
noncomputable def tabCells : Array Value := ((List.range 17).flatMap rowC).toArray
noncomputable def laidWorld (os : Os) : World :=
  { World.holding Tryd.prog os ⟨#[], #[], []⟩ with heap := (World.holding Tryd.prog os ⟨#[], #[], []⟩).heap.modify 0 fun
      | .cells _ t frozen => .cells tabCells t frozen
      | o => o }
theorem laid_met (os : Os) (args : Array Value) : laidMet Tryd.prog [("midden/prim.table", Rows.laid_midden_prim_table)] ((laidWorld os).forCall (fun _ _ => 0) ⟨#[], args, []⟩).memory :=
  laidMet_of_run' 8 (by kernel_rfl) (by kernel_rfl)
end Go.Proofs.YtjeidgjhkjnkeaaDoor.L
