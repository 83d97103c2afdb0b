/- A program that is handed in: what a reading of it gives. -/
import Derived.Test.YtjeidgjhkjnkeaaDoorS0
import Derived.Test.YtjeidgjhkjnkeaaDoorX3
import Derived.Test.YtjeidgjhkjnkeaaDoorR0
namespace Go.Proofs.YtjeidgjhkjnkeaaDoor.K
open Go Go.Eng Go.Proofs Go.Proofs.YtjeidgjhkjnkeaaDoor.T Go.Proofs.YtjeidgjhkjnkeaaDoor.R
open Go.ChangeShapes Go.WideShapes Go.ChangeAt Go.RowKit
open Go.Proofs.YtjeidgjhkjnkeaaDoor.Rows (uptoBulk uptoBulkAll)
set_option linter.unusedSimpArgs false
set_option linter.unusedVariables false
set_option maxRecDepth 100000
theorem datIn : fieldsOf Tryd.prog 57 [(9, 0), (3, 1), (3, 2)] := ⟨_, Tryd.underlying57, rfl⟩
theorem datC : Tryd.prog.cellsOf 57 = 3 := by kernel_rfl
theorem datsC : Tryd.prog.cellsOf 22 = 1 := by kernel_rfl
theorem progIn : fieldsOf Tryd.prog 25 [(22, 0), (23, 1)] := ⟨_, Tryd.underlying25, rfl⟩
theorem progC : Tryd.prog.cellsOf 25 = 2 := by kernel_rfl
def Dat.ok (d : Dat) : Prop := I64 d.arity ∧ I64 d.at_ ∧ d.name.size ≤ maxLen
section
variable {H : Type} {enc : TypeId × Value → H} {w : World} {base : Nat} {spare : Nat → Bool} {held : Bool}
theorem reads_dat (m : Nat) : Reads enc Tryd.prog w base spare held 57 m RDat Dat.ok (fun d => d.name.size + 1) := by
  intro cs y h
  obtain ⟨xs, n, rfl, e, h1, h2, h3⟩ := reads_struct datIn h
  rw [datC] at h1
  match cs, h1, xs, h2 with
  | [c0, c1, c2], _, [y0, y1, y2], _ =>
    have a0 := h3 0 _ _ rfl
    have a1 := h3 1 _ _ rfl
    have a2 := h3 2 _ _ rfl
    have cs : Tryd.prog.cellsOf 9 = 1 := tysIn.str.2
    have ci : Tryd.prog.cellsOf 3 = 1 := tysIn.int.2
    simp only [cs, ci, List.drop_zero, List.drop_succ_cons, List.take_succ_cons, List.take_zero, List.take_nil, List.getElem?_cons_zero, List.getElem?_cons_succ] at a0 a1 a2
    obtain ⟨s, r0, w0, z0⟩ := reads_str tysIn.str.1 _ _ _ a0
    obtain ⟨k, r1, w1, z1⟩ := reads_int tysIn.int.1 _ _ _ a1
    obtain ⟨a, r2, w2, z2⟩ := reads_int tysIn.int.1 _ _ _ a2
    cases r0; cases r1; cases r2
    refine ⟨⟨s, k, a⟩, rfl, ⟨w1, w2, w0⟩, ?_⟩
    rw [e]
    simp only [List.map_cons, List.map_nil, uptoBulk, uptoBulkAll]
    dsimp only at *
    omega
/-- A program that is handed in. -/
theorem open_prog {W : World} {b0 : Nat} {r : Reach} {v0 : Value} {d : DataW H} {p : List MemPlace} (hval : Value.okWide Tryd.prog W r b0 25 v0) (h : DataW.Trod enc Tryd.prog W base spare held 25 v0 d p) :
    ∃ (ds : List Dat) (bs : List Bind) (vd vb : Value), v0 = .agg #[vd, vb] ∧ Dats (whole W) vd ds ∧ SlE (whole W) 11 (RBind (whole W)) vb bs ∧ (∀ d ∈ ds, d.ok) ∧ (∀ b ∈ bs, b.ok) ∧ ds.length + sizeBs bs ≤ uptoBulk d := by
  obtain ⟨cs, rfl, _⟩ := okWide_struct Tryd.underlying25 hval
  obtain ⟨fuel, hf⟩ := h
  obtain ⟨xs, n, rfl, e, h1, h2, h3⟩ := reads_struct progIn hf
  rw [progC] at h1
  obtain ⟨cs⟩ := cs
  match cs, h1, xs, h2 with
  | [c0, c1], _, [y0, y1], _ =>
    have a0 := h3 0 _ _ rfl
    have a1 := h3 1 _ _ rfl
    have cb : Tryd.prog.cellsOf 23 = 1 := tysIn.binds.2
    simp only [datsC, cb, List.drop_zero, List.drop_succ_cons, List.take_succ_cons, List.take_zero, List.take_nil, List.getElem?_cons_zero, List.getElem?_cons_succ] at a0 a1
    obtain ⟨vd, ds, r0, k0, w0, z0⟩ := reads_slice Tryd.underlying22 datC (fun m _ => reads_dat m) (fun _ _ h => RDat.len h) a0
    obtain ⟨vb, bs, r1, k1, w1, z1⟩ := reads_slice tysIn.binds.1 tysIn.bind.2 (fun m hm => reads_bind tysIn (fun k hk => reads_exp tysIn k)) (fun _ _ h => h.len) a1
    cases r0; cases r1
    refine ⟨ds, bs, c0, c1, rfl, k0, k1, w0, w1, ?_⟩
    have hl : ds.length ≤ sumOf (fun d : Dat => d.name.size + 1) ds := by
      clear z0 k0 w0
      induction ds with
      | nil => simp
      | cons d ds ih => simp only [sumOf, List.length_cons]; omega
    have e : d = _ := e
    rw [e, sizeBs_sum]
    simp only [List.map_cons, List.map_nil, uptoBulk, uptoBulkAll]
    omega
end
end Go.Proofs.YtjeidgjhkjnkeaaDoor.K
