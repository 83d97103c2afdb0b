/- A program that is handed in: what a reading of it gives. -/
import Derived.Test.YtlgfajdedmajcaaS0
import Derived.Test.YtlgfajdedmajcaaX3
import Derived.Test.YtlgfajdedmajcaaR0
namespace Go.Proofs.Ytlgfajdedmajcaa.K
open Go Go.Eng Go.Proofs Go.Proofs.Ytlgfajdedmajcaa.T Go.Proofs.Ytlgfajdedmajcaa.R
open Go.ChangeShapes Go.WideShapes Go.ChangeAt Go.RowKit
open Go.Proofs.Ytlgfajdedmajcaa.Rows (uptoBulk uptoBulkAll)
set_option linter.unusedSimpArgs false
set_option linter.unusedVariables false
set_option maxRecDepth 100000
theorem datIn : fieldsOf Try.prog 69 [(9, 0), (3, 1), (3, 2)] := ⟨_, Try.underlying69, rfl⟩
theorem datC : Try.prog.cellsOf 69 = 3 := by kernel_rfl
theorem datsC : Try.prog.cellsOf 49 = 1 := by kernel_rfl
theorem progIn : fieldsOf Try.prog 51 [(49, 0), (35, 1)] := ⟨_, Try.underlying51, rfl⟩
theorem progC : Try.prog.cellsOf 51 = 2 := by kernel_rfl
def Dat.ok (d : Dat) : Prop := I64 d.arity ∧ I64 d.at_ ∧ d.name.size ≤ maxLen
section
variable {H : Type} {enc : TypeId × Value → H} {w : World} {base : Nat} {spare : Nat → Bool} {held : Bool}
theorem reads_dat (m : Nat) : Reads enc Try.prog w base spare held 69 m RDat Dat.ok (fun d => d.name.size + 1) := by
  intro cs y h
  obtain ⟨xs, n, rfl, e, h1, h2, h3⟩ := reads_struct datIn h
  rw [datC] at h1
  match cs, h1, xs, h2 with
  | [c0, c1, c2], _, [y0, y1, y2], _ =>
    have a0 := h3 0 _ _ rfl
    have a1 := h3 1 _ _ rfl
    have a2 := h3 2 _ _ rfl
    have cs : Try.prog.cellsOf 9 = 1 := tysIn.str.2
    have ci : Try.prog.cellsOf 3 = 1 := tysIn.int.2
    simp only [cs, ci, List.drop_zero, List.drop_succ_cons, List.take_succ_cons, List.take_zero, List.take_nil, List.getElem?_cons_zero, List.getElem?_cons_succ] at a0 a1 a2
    obtain ⟨s, r0, w0, z0⟩ := reads_str tysIn.str.1 _ _ _ a0
    obtain ⟨k, r1, w1, z1⟩ := reads_int tysIn.int.1 _ _ _ a1
    obtain ⟨a, r2, w2, z2⟩ := reads_int tysIn.int.1 _ _ _ a2
    cases r0; cases r1; cases r2
    refine ⟨⟨s, k, a⟩, rfl, ⟨w1, w2, w0⟩, ?_⟩
    rw [e]
    simp only [List.map_cons, List.map_nil, uptoBulk, uptoBulkAll]
    dsimp only at *
    omega
/-- A program that is handed in. -/
theorem open_prog {W : World} {b0 : Nat} {r : Reach} {v0 : Value} {d : DataW H} {p : List MemPlace} (hval : Value.okWide Try.prog W r b0 51 v0) (h : DataW.Trod enc Try.prog W base spare held 51 v0 d p) :
    ∃ (ds : List Dat) (bs : List Bind) (vd vb : Value), v0 = .agg #[vd, vb] ∧ Dats (whole W) vd ds ∧ SlE (whole W) 11 (RBind (whole W)) vb bs ∧ (∀ d ∈ ds, d.ok) ∧ (∀ b ∈ bs, b.ok) ∧ ds.length + sizeBs bs ≤ uptoBulk d := by
  obtain ⟨cs, rfl, _⟩ := okWide_struct Try.underlying51 hval
  obtain ⟨fuel, hf⟩ := h
  obtain ⟨xs, n, rfl, e, h1, h2, h3⟩ := reads_struct progIn hf
  rw [progC] at h1
  obtain ⟨cs⟩ := cs
  match cs, h1, xs, h2 with
  | [c0, c1], _, [y0, y1], _ =>
    have a0 := h3 0 _ _ rfl
    have a1 := h3 1 _ _ rfl
    have cb : Try.prog.cellsOf 35 = 1 := tysIn.binds.2
    simp only [datsC, cb, List.drop_zero, List.drop_succ_cons, List.take_succ_cons, List.take_zero, List.take_nil, List.getElem?_cons_zero, List.getElem?_cons_succ] at a0 a1
    obtain ⟨vd, ds, r0, k0, w0, z0⟩ := reads_slice Try.underlying49 datC (fun m _ => reads_dat m) (fun _ _ h => RDat.len h) a0
    obtain ⟨vb, bs, r1, k1, w1, z1⟩ := reads_slice tysIn.binds.1 tysIn.bind.2 (fun m hm => reads_bind tysIn (fun k hk => reads_exp tysIn k)) (fun _ _ h => h.len) a1
    cases r0; cases r1
    refine ⟨ds, bs, c0, c1, rfl, k0, k1, w0, w1, ?_⟩
    have hl : ds.length ≤ sumOf (fun d : Dat => d.name.size + 1) ds := by
      clear z0 k0 w0
      induction ds with
      | nil => simp
      | cons d ds ih => simp only [sumOf, List.length_cons]; omega
    have e : d = _ := e
    rw [e, sizeBs_sum]
    simp only [List.map_cons, List.map_nil, uptoBulk, uptoBulkAll]
    omega
end
end Go.Proofs.Ytlgfajdedmajcaa.K
