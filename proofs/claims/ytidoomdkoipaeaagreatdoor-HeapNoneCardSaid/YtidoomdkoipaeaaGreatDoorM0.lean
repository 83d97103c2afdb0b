/- What lies in the program's variable word.masks, as the rows list it; a world in which it lies so. -/
import Derived.Test.YtidoomdkoipaeaaGreatDoorF19
import Derived.Test.YtidoomdkoipaeaaGreatDoorProg
import Derived.Test.YtidoomdkoipaeaaGreatDoorChecked
import Derived.Test.YtidoomdkoipaeaaGreatDoorCards
import Derived.Test.YtidoomdkoipaeaaGreatDoorTie
import Derived.WalkKit
import Derived.ProofKit
import Derived.OpenShut
import Derived.ShutString
import Derived.ChangeOld
import Derived.Below
import Derived.SizedLaws
import Derived.JoinedCond
import Derived.Carry
import Derived.Deep.DeepHandedRow
import Derived.Lib.LaidTab
namespace Go.Proofs.YtidoomdkoipaeaaGreatDoor.M
open Go Go.Eng Go.AM Go.Proofs
open Go.ChangeShapes Go.WideShapes Go.ChangeAt Go.RowKit
set_option linter.unusedSimpArgs false
set_option linter.unusedVariables false
set_option linter.unusedSectionVars false
set_option maxRecDepth 100000
theorem own : ownKnob Tryz.prog.godebug = none := by kernel_rfl
theorem laidOut : laidOutB Tryz.prog = true := by kernel_rfl
/-- The masks. -/
def gl : List (Nat × X) := [(0, .cs (.i .u64 15) (.cs (.i .u64 4095) (.cs (.i .u64 4095) (.cs (.i .u64 1048575) .nl))))]
theorem u64Cs : Tryz.prog.cellsOf 58 = 1 := by kernel_rfl
theorem gMasks : Tryz.prog.globalNamed "midden/word.masks" = some 0 := by kernel_rfl
theorem gMasksType : (Tryz.prog.globals[0]?).map (·.type) = some 174 := by kernel_rfl
def lits {H : Type} : List (DataW H) := [.lit (.int .u64 15), .lit (.int .u64 4095), .lit (.int .u64 4095), .lit (.int .u64 1048575)]
theorem laid_lits {H : Type} : (Rows.laid_midden_word_masks : DataW H) = .agg lits := by kernel_rfl
theorem masks_of_laid {W : World} (h : laidMetH Tryz.prog [("midden/word.masks", Rows.laid_midden_word_masks)] W) : GlobIn (whole W) gl := by
  have h' : laidMet Tryz.prog [("midden/word.masks", Rows.laid_midden_word_masks)] W := h
  obtain ⟨ps, ⟨g, t, cs, fuel, p, q, hg, ht, hvar, hd, _, _⟩, _⟩ := h'
  obtain rfl := Option.some.inj (gMasks.symm.trans hg)
  obtain rfl := Option.some.inj (gMasksType.symm.trans ht)
  rw [laid_lits] at hd
  obtain ⟨xs, n, _, hx, hl, hm, hgt⟩ := DataW.trod_array Tryz.underlying174 hd
  simp only [Prod.mk.injEq, DataW.agg.injEq] at hx
  have hcs : cs.toList = [.int .u64 15, .int .u64 4095, .int .u64 4095, .int .u64 1048575] := by
    have hlen : cs.toList.length = 4 := hl.trans (by kernel_rfl)
    obtain ⟨hx1, _⟩ := hx
    match cs.toList, hlen, xs, hm, hgt, hx1 with
    | [c0, c1, c2, c3], _, [y0, y1, y2, y3], _, hgt, hx1 =>
      have b0 := hgt 0 (by decide)
      have b1 := hgt 1 (by decide)
      have b2 := hgt 2 (by decide)
      have b3 := hgt 3 (by decide)
      simp only [u64Cs, Nat.zero_mul, Nat.one_mul, Nat.reduceMul, List.drop_zero, List.drop_succ_cons, List.take_succ_cons, List.take_zero, List.take_nil, List.getElem?_cons_zero, List.getElem?_cons_succ] at b0 b1 b2 b3
      obtain ⟨k0, f0, q0, _⟩ := DataW.trod_int Tryz.underlying58 b0
      obtain ⟨k1, f1, q1, _⟩ := DataW.trod_int Tryz.underlying58 b1
      obtain ⟨k2, f2, q2, _⟩ := DataW.trod_int Tryz.underlying58 b2
      obtain ⟨k3, f3, q3, _⟩ := DataW.trod_int Tryz.underlying58 b3
      cases f0; cases f1; cases f2; cases f3
      subst q0 q1 q2 q3
      simp only [lits, List.map_cons, List.map_nil, List.cons.injEq, DataW.lit.injEq, Lit.int.injEq, true_and, and_true] at hx1
      obtain ⟨t0, t1, t2, t3⟩ := hx1
      rw [← t0, ← t1, ← t2, ← t3]
  refine glob_mk (vs := [.int .u64 15, .int .u64 4095, .int .u64 4095, .int .u64 1048575]) (by decide) (fun vals => rfl) (by simp) fun j v hj => ?_
  have hcell := World.var?_cell gMasks hvar j
  rw [← hcs] at hj
  have hw : W.cell? ⟨0, j, none⟩ = some v := by rw [hcell, ← hj]; simp
  unfold PH.cell whole
  unfold World.cell? at hw
  cases hb : W.heap[0]? with
  | none => rw [hb] at hw; cases hw
  | some ob =>
    rw [hb] at hw
    cases ob <;> first | exact hw | (simp at hw)
noncomputable def laidWorld (os : Os) : World :=
  { World.holding Tryz.prog os ⟨#[], #[], []⟩ with heap := (World.holding Tryz.prog os ⟨#[], #[], []⟩).heap.modify 0 fun
      | .cells _ t frozen => .cells #[.int .u64 15, .int .u64 4095, .int .u64 4095, .int .u64 1048575] t frozen
      | o => o }
theorem laid_met (os : Os) (args : Array Value) : laidMet Tryz.prog [("midden/word.masks", Rows.laid_midden_word_masks)] ((laidWorld os).forCall (fun _ _ => 0) ⟨#[], args, []⟩).memory :=
  laidMet_of_run' 8 (by kernel_rfl) (by kernel_rfl)
end Go.Proofs.YtidoomdkoipaeaaGreatDoor.M
