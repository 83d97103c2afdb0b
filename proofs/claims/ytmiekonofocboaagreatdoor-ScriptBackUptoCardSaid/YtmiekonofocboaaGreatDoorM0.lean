/- What lies in the program's variables prim.table and word.masks, as the rows list them; a world in which it lies so. -/
import Derived.Test.YtmiekonofocboaaGreatDoorF19
import Derived.Test.YtmiekonofocboaaGreatDoorProg
import Derived.Test.YtmiekonofocboaaGreatDoorChecked
import Derived.Test.YtmiekonofocboaaGreatDoorCards
import Derived.Test.YtmiekonofocboaaGreatDoorTie
import Derived.WalkKit
import Derived.ProofKit
import Derived.OpenShut
import Derived.ShutString
import Derived.ChangeOld
import Derived.Below
import Derived.SizedLaws
import Derived.JoinedCond
import Derived.Carry
import Derived.Deep.DeepHandedRow
import Derived.Lib.LaidTab
namespace Go.Proofs.YtmiekonofocboaaGreatDoor.M
open Go Go.Eng Go.AM Go.Proofs
open Go.ChangeShapes Go.WideShapes Go.ChangeAt Go.RowKit
set_option linter.unusedSimpArgs false
set_option linter.unusedVariables false
set_option linter.unusedSectionVars false
set_option maxRecDepth 100000
theorem own : ownKnob Tryz.prog.godebug = none := by kernel_rfl
theorem laidOut : laidOutB Tryz.prog = true := by kernel_rfl
/-- The table of primitives. -/
def rowsL : List (List Nat × Int × Int × Int × Int) := [([], 0, 0, 0, 0), ([35, 97, 100, 100], 2, 2, 2, 0), ([35, 115, 117, 98], 2, 2, 2, 0), ([35, 109, 117, 108], 2, 2, 2, 0), ([35, 100, 105, 118], 2, 2, 2, 0), ([35, 114, 101, 109], 2, 2, 2, 0), ([35, 101, 113], 2, 2, 2, 0), ([35, 108, 116], 2, 2, 2, 0), ([35, 101, 109, 105, 116], 1, 2, 0, 0), ([35, 115, 101, 113], 2, 1, 0, 0), ([35, 114, 101, 102], 1, 0, 0, 0), ([35, 103, 101, 116], 1, 3, 0, 0), ([35, 115, 101, 116], 2, 3, 0, 0), ([35, 97, 114, 114], 2, 2, 0, 0), ([35, 97, 116], 2, 4, 2, 0), ([35, 112, 117, 116], 3, 4, 2, 0), ([35, 108, 101, 110], 1, 4, 0, 0)]
def rowV (r : List Nat × Int × Int × Int × Int) : List Value := [.string (str r.1), .int .i64 r.2.1, .int .i64 r.2.2.1, .int .i64 r.2.2.2.1, .int .i64 r.2.2.2.2]
def rowD {H : Type} (r : List Nat × Int × Int × Int × Int) : DataW H := .agg [.lit (.string (str r.1).data.toList), .lit (.int .i64 r.2.1), .agg [.lit (.int .i64 r.2.2.1), .lit (.int .i64 r.2.2.2.1), .lit (.int .i64 r.2.2.2.2)]]
def rowX (r : List Nat × Int × Int × Int × Int) (l : X) : X := .cs (.s r.1) (.cs (.i .i64 r.2.1) (.cs (.i .i64 r.2.2.1) (.cs (.i .i64 r.2.2.2.1) (.cs (.i .i64 r.2.2.2.2) l))))
def tabX : List (List Nat × Int × Int × Int × Int) → X
  | [] => .nl
  | r :: l => rowX r (tabX l)
theorem tabX_den {e : Env} : ∀ {l : List (List Nat × Int × Int × Int × Int)}, (l.all fun r => r.1.all fun n => Nat.blt n 256) = true → denL e (tabX l) = some (l.flatMap rowV)
  | [], _ => rfl
  | r :: l, h => by
    simp only [List.all_cons, Bool.and_eq_true] at h
    have ih := tabX_den (e := e) h.2
    simp only [tabX, rowX, denL, den, h.1, if_true, ih, List.flatMap_cons, rowV, List.cons_append, List.nil_append]
/-- The program's variables. -/
def masksX : X := .cs (.i .u64 15) (.cs (.i .u64 4095) (.cs (.i .u64 4095) (.cs (.i .u64 1048575) .nl)))
def gl : List (Nat × X) := [(0, tabX rowsL), (1, masksX)]
theorem u64Cs : Tryz.prog.cellsOf 128 = 1 := by kernel_rfl
theorem gMasks : Tryz.prog.globalNamed "midden/word.masks" = some 1 := by kernel_rfl
theorem gMasksType : (Tryz.prog.globals[1]?).map (·.type) = some 386 := by kernel_rfl
def lits {H : Type} : List (DataW H) := [.lit (.int .u64 15), .lit (.int .u64 4095), .lit (.int .u64 4095), .lit (.int .u64 1048575)]
theorem laid_lits {H : Type} : (Rows.laid_midden_word_masks : DataW H) = .agg lits := by kernel_rfl
theorem laid_rows {H : Type} : (Rows.laid_midden_prim_table : DataW H) = .agg (rowsL.map rowD) := by kernel_rfl
theorem gTab : Tryz.prog.globalNamed "midden/prim.table" = some 0 := by kernel_rfl
theorem gTabType : (Tryz.prog.globals[0]?).map (·.type) = some 316 := by kernel_rfl
section
variable {H : Type} {enc : TypeId × Value → H} {P : Program} {w : World} {base : Nat} {spare : Nat → Bool} {held : Bool}
def fieldsOf (P : Program) (t : TypeId) (l : List (TypeId × Nat)) : Prop := ∃ fs, P.underlying t = some (.struct fs) ∧ fs.toList.map (fun f => (f.type, f.offset)) = l
theorem reads_struct {t : TypeId} {l : List (TypeId × Nat)} {fuel : Nat} {cs : List Value} {x : DataW H × List MemPlace} (ht : fieldsOf P t l) (h : DataW.trod enc P w base spare held fuel t cs = some x) :
    ∃ (xs : List (DataW H × List MemPlace)) (n : Nat), fuel = n + 1 ∧ x.1 = .agg (xs.map (·.1)) ∧ cs.length = P.cellsOf t ∧ xs.length = l.length ∧ ∀ (i : Nat) (ft : TypeId) (off : Nat), l[i]? = some (ft, off) → DataW.trod enc P w base spare held n ft ((cs.drop off).take (P.cellsOf ft)) = xs[i]? := by
  obtain ⟨fs, h1, h2⟩ := ht
  obtain ⟨xs, n, rfl, rfl, h3, h4, h5⟩ := DataW.trod_struct h1 h
  refine ⟨xs, n, rfl, rfl, h3, by rw [h4, ← h2]; simp, fun i ft off hi => ?_⟩
  rw [← h2, List.getElem?_map] at hi
  cases hf : fs.toList[i]? with
  | none => rw [hf] at hi; cases hi
  | some f =>
    rw [hf] at hi
    cases hi
    exact h5 i f (by simpa using hf)
/-- The types of which an expression is made. -/
structure ExpTys where
  int : TypeId
  i64 : TypeId
  str : TypeId
  strs : TypeId
  atom : TypeId
  atoms : TypeId
  exp : TypeId
  exps : TypeId
  bind : TypeId
  binds : TypeId
  alt : TypeId
  alts : TypeId
  form : TypeId
structure ExpTys.In (T : ExpTys) (P : Program) : Prop where
  int : P.underlying T.int = some (.int .i64) ∧ P.cellsOf T.int = 1
  i64 : P.underlying T.i64 = some (.int .i64) ∧ P.cellsOf T.i64 = 1
  str : P.underlying T.str = some .string ∧ P.cellsOf T.str = 1
  strs : P.underlying T.strs = some (.slice T.str) ∧ P.cellsOf T.strs = 1
  atom : fieldsOf P T.atom [(T.str, 0), (T.i64, 1)] ∧ P.cellsOf T.atom = 2
  atoms : P.underlying T.atoms = some (.slice T.atom) ∧ P.cellsOf T.atoms = 1
  exp : fieldsOf P T.exp [(T.int, 0), (T.int, 1), (T.str, 2), (T.i64, 3), (T.atoms, 4), (T.binds, 5), (T.exps, 6), (T.alts, 7)] ∧ P.cellsOf T.exp = 8
  exps : P.underlying T.exps = some (.slice T.exp) ∧ P.cellsOf T.exps = 1
  bind : fieldsOf P T.bind [(T.str, 0), (T.int, 1), (T.form, 2)] ∧ P.cellsOf T.bind = 11
  binds : P.underlying T.binds = some (.slice T.bind) ∧ P.cellsOf T.binds = 1
  alt : fieldsOf P T.alt [(T.int, 0), (T.int, 1), (T.str, 2), (T.i64, 3), (T.strs, 4), (T.exp, 5)] ∧ P.cellsOf T.alt = 13
  alts : P.underlying T.alts = some (.slice T.alt) ∧ P.cellsOf T.alts = 1
  form : fieldsOf P T.form [(T.strs, 0), (T.exp, 1)] ∧ P.cellsOf T.form = 9
end
theorem rowIn : fieldsOf Tryz.prog 315 [(9, 0), (3, 1), (313, 2)] := ⟨_, Tryz.underlying315, rfl⟩
theorem rowCs : Tryz.prog.cellsOf 315 = 5 := by kernel_rfl
theorem threeCs : Tryz.prog.cellsOf 313 = 3 := by kernel_rfl
theorem intCs : Tryz.prog.cellsOf 3 = 1 := by kernel_rfl
theorem strCs : Tryz.prog.cellsOf 9 = 1 := by kernel_rfl
section
variable {H : Type} {enc : TypeId × Value → H} {w : World} {base : Nat} {spare : Nat → Bool} {held : Bool}
theorem row_cells {fuel : Nat} {cs : List Value} {i : List Nat × Int × Int × Int × Int} {p : List MemPlace} (h : DataW.trod enc Tryz.prog w base spare held fuel 315 cs = some (rowD i, p)) : cs = rowV i := by
  obtain ⟨xs, n, rfl, e, h1, h2, h3⟩ := reads_struct rowIn h
  rw [rowCs] at h1
  match cs, h1, xs, h2 with
  | [c0, c1, c2, c3, c4], _, [y0, y1, y2], _ =>
    have a0 := h3 0 _ _ rfl
    have a1 := h3 1 _ _ rfl
    have a2 := h3 2 _ _ rfl
    simp only [strCs, intCs, threeCs, List.drop_zero, List.drop_succ_cons, List.take_succ_cons, List.take_zero, List.take_nil, List.getElem?_cons_zero, List.getElem?_cons_succ] at a0 a1 a2
    obtain ⟨s, e0, r0, _⟩ := DataW.trod_string Tryz.underlying9 a0
    obtain ⟨k, e1, r1, _⟩ := DataW.trod_int Tryz.underlying3 a1
    obtain ⟨zs, m, _, r2, hl, hm, hg⟩ := DataW.trod_array Tryz.underlying313 a2
    match zs, hm with
    | [z0, z1, z2], _ =>
      have b0 := hg 0 (by decide)
      have b1 := hg 1 (by decide)
      have b2 := hg 2 (by decide)
      simp only [intCs, Nat.zero_mul, Nat.one_mul, List.drop_zero, List.drop_succ_cons, List.take_succ_cons, List.take_zero, List.getElem?_cons_zero, List.getElem?_cons_succ] at b0 b1 b2
      obtain ⟨k0, f0, q0, _⟩ := DataW.trod_int Tryz.underlying3 b0
      obtain ⟨k1, f1, q1, _⟩ := DataW.trod_int Tryz.underlying3 b1
      obtain ⟨k2, f2, q2, _⟩ := DataW.trod_int Tryz.underlying3 b2
      cases e0; cases e1; cases f0; cases f1; cases f2
      subst r0 r1 r2 q0 q1 q2
      simp only [rowD, List.map_cons, List.map_nil, DataW.agg.injEq, List.cons.injEq, DataW.lit.injEq, Lit.string.injEq, Lit.int.injEq, true_and, and_true] at e
      obtain ⟨t0, t1, t2, t3, t4⟩ := e
      have hs : s = str i.1 := by
        obtain ⟨sd⟩ := s
        have := Array.toList_inj.1 t0
        cases hh : str i.1 with
        | mk d => rw [hh] at this; exact congrArg ByteArray.mk this.symm
      rw [hs, ← t1, ← t2, ← t3, ← t4]; rfl
end
/-- Rows, one behind the other. -/
theorem rows_cells {f : List Nat × Int × Int × Int × Int → List Value} (h5 : ∀ r, (f r).length = 5) : ∀ {l : List (List Nat × Int × Int × Int × Int)} {cs : List Value}, cs.length = 5 * l.length → (∀ i r, l[i]? = some r → (cs.drop (i * 5)).take 5 = f r) → cs = l.flatMap f
  | [], cs, hl, _ => by simpa using List.eq_nil_of_length_eq_zero (by simpa using hl)
  | r :: l, cs, hl, h => by
    have h0 := h 0 r rfl
    have ih := rows_cells h5 (l := l) (cs := cs.drop 5) (by simp at hl ⊢; omega) fun i s hs => by
      have := h (i + 1) s hs
      rw [List.drop_drop, show 5 + i * 5 = (i + 1) * 5 from by omega]
      exact this
    rw [List.flatMap_cons, ← ih, ← h0]
    simp
theorem whole_cell {W : World} {name : String} {g : Nat} {cs : Array Value} {vs : List Value} (hg : Tryz.prog.globalNamed name = some g) (hvar : W.var? Tryz.prog name = some cs) (hcs : cs.toList = vs) (j : Nat) (v : Value) (hj : vs[j]? = some v) : (whole W).cell ⟨g, j, none⟩ = some v := by
  have hcell := World.var?_cell hg hvar j
  rw [← hcs] at hj
  have hw : W.cell? ⟨g, j, none⟩ = some v := by rw [hcell, ← hj]; simp
  unfold PH.cell whole
  unfold World.cell? at hw
  cases hb : W.heap[g]? with
  | none => rw [hb] at hw; cases hw
  | some ob =>
    rw [hb] at hw
    cases ob <;> first | exact hw | (simp at hw)
theorem globs_of_laid {W : World} (h : laidMetH Tryz.prog [("midden/prim.table", Rows.laid_midden_prim_table), ("midden/word.masks", Rows.laid_midden_word_masks)] W) : GlobIn (whole W) gl := by
  have h' : laidMet Tryz.prog [("midden/prim.table", Rows.laid_midden_prim_table), ("midden/word.masks", Rows.laid_midden_word_masks)] W := h
  obtain ⟨ps, ⟨g0, t0, cs0, fuel0, p0, q0, hg0, ht0, hvar0, hd0, ⟨g, t, cs, fuel, p, q, hg, ht, hvar, hd, _, _⟩, _⟩, _⟩ := h'
  obtain rfl := Option.some.inj (gMasks.symm.trans hg)
  obtain rfl := Option.some.inj (gMasksType.symm.trans ht)
  obtain rfl := Option.some.inj (gTab.symm.trans hg0)
  obtain rfl := Option.some.inj (gTabType.symm.trans ht0)
  have tab : GlobIn (whole W) [(0, tabX rowsL)] := by
    rw [laid_rows] at hd0
    obtain ⟨xs, n, _, hx, hl, hm, hgt⟩ := DataW.trod_array Tryz.underlying316 hd0
    simp only [Prod.mk.injEq, DataW.agg.injEq] at hx
    have hcs : cs0.toList = rowsL.flatMap rowV := by
      refine rows_cells (fun _ => rfl) (hl.trans (by kernel_rfl)) fun i r hr => ?_
      have hi : i < 17 := (List.getElem?_eq_some_iff.1 hr).1
      have e1 := hgt i hi
      rw [rowCs] at e1
      have e2 : (xs.map (·.1))[i]? = some (rowD r) := by rw [← hx.1, List.getElem?_map, hr]; rfl
      rw [List.getElem?_map] at e2
      cases hxi : xs[i]? with
      | none => rw [hxi] at e2; cases e2
      | some y =>
        rw [hxi] at e2 e1
        have e3 : y = (rowD r, y.2) := by rw [← Option.some.inj e2]
        rw [e3] at e1
        exact row_cells e1
    exact glob_mk (by decide) (fun vals => tabX_den (by kernel_rfl)) (by simp [rowsL, rowV]) (whole_cell gTab hvar0 hcs)
  have mas : GlobIn (whole W) [(1, masksX)] := by
    rw [laid_lits] at hd
    obtain ⟨xs, n, _, hx, hl, hm, hgt⟩ := DataW.trod_array Tryz.underlying386 hd
    simp only [Prod.mk.injEq, DataW.agg.injEq] at hx
    have hcs : cs.toList = [.int .u64 15, .int .u64 4095, .int .u64 4095, .int .u64 1048575] := by
      have hlen : cs.toList.length = 4 := hl.trans (by kernel_rfl)
      obtain ⟨hx1, _⟩ := hx
      match cs.toList, hlen, xs, hm, hgt, hx1 with
      | [c0, c1, c2, c3], _, [y0, y1, y2, y3], _, hgt, hx1 =>
        have b0 := hgt 0 (by decide)
        have b1 := hgt 1 (by decide)
        have b2 := hgt 2 (by decide)
        have b3 := hgt 3 (by decide)
        simp only [u64Cs, Nat.zero_mul, Nat.one_mul, Nat.reduceMul, List.drop_zero, List.drop_succ_cons, List.take_succ_cons, List.take_zero, List.take_nil, List.getElem?_cons_zero, List.getElem?_cons_succ] at b0 b1 b2 b3
        obtain ⟨k0, f0, q0, _⟩ := DataW.trod_int Tryz.underlying128 b0
        obtain ⟨k1, f1, q1, _⟩ := DataW.trod_int Tryz.underlying128 b1
        obtain ⟨k2, f2, q2, _⟩ := DataW.trod_int Tryz.underlying128 b2
        obtain ⟨k3, f3, q3, _⟩ := DataW.trod_int Tryz.underlying128 b3
        cases f0; cases f1; cases f2; cases f3
        subst q0 q1 q2 q3
        simp only [lits, List.map_cons, List.map_nil, List.cons.injEq, DataW.lit.injEq, Lit.int.injEq, true_and, and_true] at hx1
        obtain ⟨t0, t1, t2, t3⟩ := hx1
        rw [← t0, ← t1, ← t2, ← t3]
    exact glob_mk (vs := [.int .u64 15, .int .u64 4095, .int .u64 4095, .int .u64 1048575]) (by decide) (fun vals => rfl) (by simp) (whole_cell gMasks hvar hcs)
  intro p hp
  rcases List.mem_cons.1 hp with rfl | hp
  · exact tab _ List.mem_cons_self
  · exact mas p hp
def putCells (cs : Array Value) : Obj → Obj
  | .cells _ t frozen => .cells cs t frozen
  | o => o
noncomputable def laidWorld (os : Os) : World :=
  { World.holding Tryz.prog os ⟨#[], #[], []⟩ with heap := ((World.holding Tryz.prog os ⟨#[], #[], []⟩).heap.modify 1 (putCells #[.int .u64 15, .int .u64 4095, .int .u64 4095, .int .u64 1048575])).modify 0 (putCells (rowsL.flatMap rowV).toArray) }
theorem laid_met (os : Os) (args : Array Value) : laidMet Tryz.prog [("midden/prim.table", Rows.laid_midden_prim_table), ("midden/word.masks", Rows.laid_midden_word_masks)] ((laidWorld os).forCall (fun _ _ => 0) ⟨#[], args, []⟩).memory :=
  laidMet_of_run' 8 (by kernel_rfl) (by kernel_rfl)
end Go.Proofs.YtmiekonofocboaaGreatDoor.M
