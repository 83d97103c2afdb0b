/- What the rows of this seat ask of the program: its types, as programs are made of them. -/
import Derived.Test.YtjeidgjhkjnkeaaDoorX2
import Derived.Test.YtjeidgjhkjnkeaaDoorProg
import Derived.Test.YtjeidgjhkjnkeaaDoorChecked
import Derived.WalkKit
import Derived.ProofKit
import Derived.OpenShut
import Derived.ShutString
import Derived.ChangeOld
import Derived.Below
import Derived.SizedLaws
import Derived.JoinedCond
import Derived.Carry
namespace Go.Proofs.YtjeidgjhkjnkeaaDoor.R
open Go Go.Eng Go.Proofs
open Go.ChangeShapes Go.WideShapes Go.ChangeAt Go.RowKit
set_option maxRecDepth 100000
theorem own : ownKnob Tryd.prog.godebug = none := by kernel_rfl
theorem laidOut : laidOutB Tryd.prog = true := by kernel_rfl
def tys : ExpTys := ⟨3, 2, 9, 35, 37, 38, 42, 39, 46, 23, 100, 40, 44⟩
theorem tysIn : tys.In Tryd.prog where
  int := ⟨Tryd.underlying3, by kernel_rfl⟩
  i64 := ⟨Tryd.underlying2, by kernel_rfl⟩
  str := ⟨Tryd.underlying9, by kernel_rfl⟩
  strs := ⟨Tryd.underlying35, by kernel_rfl⟩
  atom := ⟨⟨_, Tryd.underlying37, rfl⟩, by kernel_rfl⟩
  atoms := ⟨Tryd.underlying38, by kernel_rfl⟩
  exp := ⟨⟨_, Tryd.underlying42, rfl⟩, by kernel_rfl⟩
  exps := ⟨Tryd.underlying39, by kernel_rfl⟩
  bind := ⟨⟨_, Tryd.underlying46, rfl⟩, by kernel_rfl⟩
  binds := ⟨Tryd.underlying23, by kernel_rfl⟩
  alt := ⟨⟨_, Tryd.underlying100, rfl⟩, by kernel_rfl⟩
  alts := ⟨Tryd.underlying40, by kernel_rfl⟩
  form := ⟨⟨_, Tryd.underlying44, rfl⟩, by kernel_rfl⟩
/-- A form that is handed in. -/
theorem open_form {H : Type} {enc : TypeId × Value → H} {W : World} {base : Nat} {spare : Nat → Bool} {held : Bool} {b0 : Nat} {r : Reach} {v0 : Value} {d : DataW H} {p : List MemPlace} (hval : Value.okWide Tryd.prog W r b0 44 v0) (h : DataW.Trod enc Tryd.prog W base spare held 44 v0 d p) :
    ∃ (f : List ByteArray × Exp) (v va vb ve vl : Value), v0 = .agg (v :: expCells f.2 va vb ve vl).toArray ∧ Strs (whole W) v f.1 ∧ ExpAt (whole W) f.2 va vb ve vl ∧ (∀ s ∈ f.1, s.size ≤ maxLen) ∧ f.2.ok ∧ sizeS f.1 + f.2.size + 2 ≤ Rows.uptoBulk d := by
  obtain ⟨cs, rfl, _⟩ := okWide_struct Tryd.underlying44 hval
  obtain ⟨fuel, hf⟩ := h
  obtain ⟨f, ⟨v, c, hc, hv, hx⟩, hok, hsz⟩ := reads_form tysIn (m := fuel) (fun k _ => reads_exp tysIn k) _ _ hf
  obtain ⟨va, vb, ve, vl, rfl, hX⟩ := RExp_iff.1 hx
  refine ⟨f, v, va, vb, ve, vl, ?_, hv, hX, hok.1, hok.2, hsz⟩
  have : cs.toList = v :: expCells f.2 va vb ve vl := hc
  rw [← this]
end Go.Proofs.YtjeidgjhkjnkeaaDoor.R
