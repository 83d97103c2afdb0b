/- What the rows of this seat ask of the program: its types, as programs are made of them. -/
import Derived.Test.YtlgfajdedmajcaaX2
import Derived.Test.YtlgfajdedmajcaaProg
import Derived.Test.YtlgfajdedmajcaaChecked
import Derived.WalkKit
import Derived.ProofKit
import Derived.OpenShut
import Derived.ShutString
import Derived.ChangeOld
import Derived.Below
import Derived.SizedLaws
import Derived.JoinedCond
import Derived.Carry
namespace Go.Proofs.Ytlgfajdedmajcaa.R
open Go Go.Eng Go.Proofs
open Go.ChangeShapes Go.WideShapes Go.ChangeAt Go.RowKit
set_option maxRecDepth 100000
theorem own : ownKnob Try.prog.godebug = none := by kernel_rfl
theorem laidOut : laidOutB Try.prog = true := by kernel_rfl
def tys : ExpTys := ⟨3, 2, 9, 33, 62, 34, 39, 36, 55, 35, 60, 37, 41⟩
theorem tysIn : tys.In Try.prog where
  int := ⟨Try.underlying3, by kernel_rfl⟩
  i64 := ⟨Try.underlying2, by kernel_rfl⟩
  str := ⟨Try.underlying9, by kernel_rfl⟩
  strs := ⟨Try.underlying33, by kernel_rfl⟩
  atom := ⟨⟨_, Try.underlying62, rfl⟩, by kernel_rfl⟩
  atoms := ⟨Try.underlying34, by kernel_rfl⟩
  exp := ⟨⟨_, Try.underlying39, rfl⟩, by kernel_rfl⟩
  exps := ⟨Try.underlying36, by kernel_rfl⟩
  bind := ⟨⟨_, Try.underlying55, rfl⟩, by kernel_rfl⟩
  binds := ⟨Try.underlying35, by kernel_rfl⟩
  alt := ⟨⟨_, Try.underlying60, rfl⟩, by kernel_rfl⟩
  alts := ⟨Try.underlying37, by kernel_rfl⟩
  form := ⟨⟨_, Try.underlying41, rfl⟩, by kernel_rfl⟩
/-- A form that is handed in. -/
theorem open_form {H : Type} {enc : TypeId × Value → H} {W : World} {base : Nat} {spare : Nat → Bool} {held : Bool} {b0 : Nat} {r : Reach} {v0 : Value} {d : DataW H} {p : List MemPlace} (hval : Value.okWide Try.prog W r b0 41 v0) (h : DataW.Trod enc Try.prog W base spare held 41 v0 d p) :
    ∃ (f : List ByteArray × Exp) (v va vb ve vl : Value), v0 = .agg (v :: expCells f.2 va vb ve vl).toArray ∧ Strs (whole W) v f.1 ∧ ExpAt (whole W) f.2 va vb ve vl ∧ (∀ s ∈ f.1, s.size ≤ maxLen) ∧ f.2.ok ∧ sizeS f.1 + f.2.size + 2 ≤ Rows.uptoBulk d := by
  obtain ⟨cs, rfl, _⟩ := okWide_struct Try.underlying41 hval
  obtain ⟨fuel, hf⟩ := h
  obtain ⟨f, ⟨v, c, hc, hv, hx⟩, hok, hsz⟩ := reads_form tysIn (m := fuel) (fun k _ => reads_exp tysIn k) _ _ hf
  obtain ⟨va, vb, ve, vl, rfl, hX⟩ := RExp_iff.1 hx
  refine ⟨f, v, va, vb, ve, vl, ?_, hv, hX, hok.1, hok.2, hsz⟩
  have : cs.toList = v :: expCells f.2 va vb ve vl := hc
  rw [← this]
end Go.Proofs.Ytlgfajdedmajcaa.R
