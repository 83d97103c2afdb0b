/- My texts R0 S1 Q1 T0, in one. -/
import Derived.Test.YtoepmdbicdoieaaDoorXA
import Derived.Test.YtoepmdbicdoieaaDoorProg
import Derived.Test.YtoepmdbicdoieaaDoorChecked
import Derived.WalkKit
import Derived.ProofKit
import Derived.OpenShut
import Derived.ShutString
import Derived.ChangeOld
import Derived.Below
import Derived.SizedLaws
import Derived.JoinedCond
import Derived.Carry
import Derived.Test.YtoepmdbicdoieaaDoorKA
import Derived.Test.YtoepmdbicdoieaaDoorPB
import Derived.Deep.DeepHandedRow
import Derived.Lib.LaidTab
import Derived.Test.YtoepmdbicdoieaaDoorCards
import Derived.Test.YtoepmdbicdoieaaDoorTie
/- What the rows of this seat ask of the program: its types, as programs are made of them. -/
namespace Go.Proofs.YtoepmdbicdoieaaDoor.R
open Go Go.Eng Go.Proofs
open Go.ChangeShapes Go.WideShapes Go.ChangeAt Go.RowKit
set_option maxRecDepth 100000
theorem own : ownKnob Tryd.prog.godebug = none := by kernel_rfl
def tys : ExpTys := ⟨3, 2, 9, 44, 146, 45, 49, 46, 53, 23, 148, 47, 51⟩
end Go.Proofs.YtoepmdbicdoieaaDoor.R

/- A program that is handed in: what a reading of it gives. -/
namespace Go.Proofs.YtoepmdbicdoieaaDoor.K
open Go Go.Eng Go.Proofs Go.Proofs.YtoepmdbicdoieaaDoor.T Go.Proofs.YtoepmdbicdoieaaDoor.R
open Go.ChangeShapes Go.WideShapes Go.ChangeAt Go.RowKit
open Go.Proofs.YtoepmdbicdoieaaDoor.Rows (uptoBulk uptoBulkAll)
set_option linter.unusedSimpArgs false
set_option linter.unusedVariables false
set_option maxRecDepth 100000
def Dat.ok (d : Dat) : Prop := I64 d.arity ∧ I64 d.at_ ∧ d.name.size ≤ maxLen
section
variable {H : Type} {enc : TypeId × Value → H} {w : World} {base : Nat} {spare : Nat → Bool} {held : Bool}
end
end Go.Proofs.YtoepmdbicdoieaaDoor.K

/- The table of primitives, as the rows list it. -/
namespace Go.Proofs.YtoepmdbicdoieaaDoor.P
open Go Go.Eng Go.Proofs Go.Proofs.YtoepmdbicdoieaaDoor.T Go.Proofs.YtoepmdbicdoieaaDoor.K Go.Proofs.YtoepmdbicdoieaaDoor.R
open Go.ChangeShapes Go.WideShapes Go.ChangeAt Go.RowKit
set_option linter.unusedSimpArgs false
set_option linter.unusedVariables false
set_option maxRecDepth 100000
def rowD {H : Type} (i : Nat) : DataW H := .agg [.lit (.string (tname i).data.toList), .lit (.int .i64 (tar i).1), .agg [.lit (.int .i64 (tar i).2.1), .lit (.int .i64 (tar i).2.2.1), .lit (.int .i64 (tar i).2.2.2)]]
theorem laid_rows {H : Type} : (Rows.laid_midden_prim_table : DataW H) = .agg ((List.range 17).map rowD) := by kernel_rfl
theorem rowIn : fieldsOf Tryd.prog 181 [(9, 0), (3, 1), (179, 2)] := ⟨_, Tryd.underlying181, rfl⟩
theorem rowCs : Tryd.prog.cellsOf 181 = 5 := by kernel_rfl
theorem threeCs : Tryd.prog.cellsOf 179 = 3 := by kernel_rfl
theorem intCs : Tryd.prog.cellsOf 3 = 1 := by kernel_rfl
theorem strCs : Tryd.prog.cellsOf 9 = 1 := by kernel_rfl
section
variable {H : Type} {enc : TypeId × Value → H} {w : World} {base : Nat} {spare : Nat → Bool} {held : Bool}
theorem row_cells {fuel : Nat} {cs : List Value} {i : Nat} {p : List MemPlace} (h : DataW.trod enc Tryd.prog w base spare held fuel 181 cs = some (rowD i, p)) : cs = rowC i := by
  obtain ⟨xs, n, rfl, e, h1, h2, h3⟩ := reads_struct rowIn h
  rw [rowCs] at h1
  match cs, h1, xs, h2 with
  | [c0, c1, c2, c3, c4], _, [y0, y1, y2], _ =>
    have a0 := h3 0 _ _ rfl
    have a1 := h3 1 _ _ rfl
    have a2 := h3 2 _ _ rfl
    simp only [strCs, intCs, threeCs, List.drop_zero, List.drop_succ_cons, List.take_succ_cons, List.take_zero, List.take_nil, List.getElem?_cons_zero, List.getElem?_cons_succ] at a0 a1 a2
    obtain ⟨s, e0, r0, _⟩ := DataW.trod_string Tryd.underlying9 a0
    obtain ⟨k, e1, r1, _⟩ := DataW.trod_int Tryd.underlying3 a1
    obtain ⟨zs, m, _, r2, hl, hm, hg⟩ := DataW.trod_array Tryd.underlying179 a2
    match zs, hm with
    | [z0, z1, z2], _ =>
      have b0 := hg 0 (by decide)
      have b1 := hg 1 (by decide)
      have b2 := hg 2 (by decide)
      simp only [intCs, Nat.zero_mul, Nat.one_mul, List.drop_zero, List.drop_succ_cons, List.take_succ_cons, List.take_zero, List.getElem?_cons_zero, List.getElem?_cons_succ] at b0 b1 b2
      obtain ⟨k0, f0, q0, _⟩ := DataW.trod_int Tryd.underlying3 b0
      obtain ⟨k1, f1, q1, _⟩ := DataW.trod_int Tryd.underlying3 b1
      obtain ⟨k2, f2, q2, _⟩ := DataW.trod_int Tryd.underlying3 b2
      cases e0; cases e1; cases f0; cases f1; cases f2
      subst r0 r1 r2 q0 q1 q2
      simp only [rowD, List.map_cons, List.map_nil, DataW.agg.injEq, List.cons.injEq, DataW.lit.injEq, Lit.string.injEq, Lit.int.injEq, true_and, and_true] at e
      obtain ⟨t0, t1, t2, t3, t4⟩ := e
      have hs : s = tname i := by
        obtain ⟨sd⟩ := s
        have := Array.toList_inj.1 t0
        cases hh : tname i with
        | mk d => rw [hh] at this; exact congrArg ByteArray.mk this.symm
      rw [hs, ← t1, ← t2, ← t3, ← t4]
end
theorem gTab : Tryd.prog.globalNamed "midden/prim.table" = some 0 := by kernel_rfl
theorem gTabType : (Tryd.prog.globals[0]?).map (·.type) = some 182 := by kernel_rfl
theorem table_of_laid {W : World} (h : laidMetH Tryd.prog [("midden/prim.table", Rows.laid_midden_prim_table)] W) : Table (whole W) := by
  have h' : laidMet Tryd.prog [("midden/prim.table", Rows.laid_midden_prim_table)] W := h
  obtain ⟨ps, ⟨g, t, cs, fuel, p, q, hg, ht, hvar, hd, _, _⟩, _⟩ := h'
  obtain rfl := Option.some.inj (gTab.symm.trans hg)
  obtain rfl := Option.some.inj (gTabType.symm.trans ht)
  rw [laid_rows] at hd
  obtain ⟨xs, n, _, hx, hl, hm, hgt⟩ := DataW.trod_array Tryd.underlying182 hd
  simp only [Prod.mk.injEq, DataW.agg.injEq] at hx
  intro i hi
  have hxi : i < xs.length := by rw [hm]; exact hi
  have e1 := hgt i hi
  rw [rowCs, List.getElem?_eq_getElem hxi] at e1
  have e2 : (xs[i]).1 = rowD i := by
    have := congrArg (fun l => l[i]?) hx.1
    simp only [List.getElem?_map, List.getElem?_range hi, Option.map_some, List.getElem?_eq_getElem hxi, Option.some.injEq] at this
    exact this.symm
  have e3 : xs[i] = (rowD i, (xs[i]).2) := by rw [← e2]
  rw [e3] at e1
  have hc := row_cells e1
  refine cells_mk rfl fun j v hj => ?_
  have hcell := World.var?_cell gTab hvar (i * 5 + j)
  have hj' : cs.toList[i * 5 + j]? = some v := by
    rw [← hc, List.getElem?_take, List.getElem?_drop] at hj
    split at hj
    · exact hj
    · cases hj
  have hw : W.cell? ⟨0, i * 5 + j, none⟩ = some v := by rw [hcell, ← hj']; simp
  have ha : ((⟨0, 0, none⟩ : Addr).add (i * 5)).add j = ⟨0, i * 5 + j, none⟩ := by
    rw [add_add]
    unfold Addr.add
    split
    · rename_i h0; rw [h0]
    · simp
  rw [ha]
  unfold PH.cell whole
  unfold World.cell? at hw
  cases hb : W.heap[0]? with
  | none => rw [hb] at hw; cases hw
  | some ob =>
    rw [hb] at hw
    cases ob <;> first | exact hw | (simp at hw)
end Go.Proofs.YtoepmdbicdoieaaDoor.P

/- A world in which the table of primitives lies, for the rows' witnesses. -/
namespace Go.Proofs.YtoepmdbicdoieaaDoor.L
open Go Go.Eng Go.Proofs Go.Proofs.YtoepmdbicdoieaaDoor.K Go.Proofs.YtoepmdbicdoieaaDoor.P Go.Proofs.YtoepmdbicdoieaaDoor.R
open Go.ChangeShapes Go.WideShapes Go.ChangeAt Go.RowKit
set_option linter.unusedVariables false
set_option maxRecDepth 100000
noncomputable def tabCells : Array Value := ((List.range 17).flatMap rowC).toArray
noncomputable def laidWorld (os : Os) : World :=
  { World.holding Tryd.prog os ⟨#[], #[], []⟩ with heap := (World.holding Tryd.prog os ⟨#[], #[], []⟩).heap.modify 0 fun
      | .cells _ t frozen => .cells tabCells t frozen
      | o => o }
theorem laid_met (os : Os) (args : Array Value) : laidMet Tryd.prog [("midden/prim.table", Rows.laid_midden_prim_table)] ((laidWorld os).forCall (fun _ _ => 0) ⟨#[], args, []⟩).memory :=
  laidMet_of_run' 8 (by kernel_rfl) (by kernel_rfl)
end Go.Proofs.YtoepmdbicdoieaaDoor.L
