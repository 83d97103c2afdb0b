/- 'middenlaw10.VarsRight', where what it reads is of bulk at most 1048576: the row. -/
import Derived.Test.YtlgfajdedmajcaaS1
import Derived.Test.YtlgfajdedmajcaaN2
namespace Go.Proofs.Ytlgfajdedmajcaa.L5
open Go Go.Eng Go.Proofs Go.Proofs.Ytlgfajdedmajcaa.K Go.Proofs.Ytlgfajdedmajcaa.R
open Go.ChangeShapes Go.WideShapes Go.ChangeAt Go.RowKit
set_option linter.unusedVariables false
set_option maxRecDepth 100000
theorem lifted (os : Os) (started : os.Started) (H : Type) (enc : TypeId × Value → H) (F : Stop.Interp) :
    ReturnsInHanded {} Try.checked os 8 .any ((Rows.OpenSpec.upto Rows.varsRightSpec).pre6 enc Try.prog Try.f8 Rows.varsRightUptoRow.domain false) (((Rows.OpenSpec.upto Rows.varsRightSpec).at F).post enc Try.prog Try.f8 false true false false) := by
  refine returnsInHanded_of_cond (C := Try.checked) (s := Rows.OpenSpec.upto Rows.varsRightSpec) (k := Rows.uptoSmall) rfl own started (by kernel_rfl) Try.func8
    (OpenSpec.witness (enc := enc) (C := Try.checked) (s := Rows.OpenSpec.upto Rows.varsRightSpec) (k := Rows.uptoSmall) rfl false ⟨#[], #[.agg #[.slice none 0 0, .slice none 0 0]], []⟩ 8 (by kernel_rfl) (by kernel_rfl) (by kernel_rfl)
      (x := ([.agg [.nil, .nil]], [], [])) (by kernel_rfl) rfl (by kernel_rfl)) ?_
  intro W base args ds gs before hval0 hW _ hk _
  have hval : ∀ (j : Nat) t v, Try.f8.params[j]? = some t → args[j]? = some v → Value.okWide Try.prog W .any base t v := hval0
  have hW' := hW
  obtain ⟨p, q, hA0, hV, rfl, hfz, hnd⟩ := hW
  have hA : DataW.TrodAll enc Try.prog W 0 (fun _ => true) true Try.f8.params.toList args.toList ds p := hA0
  rw [Try.params8] at hA hval
  obtain ⟨v0, vs0, d0, ds0, p0, q0, hargs, rfl, rfl, h0, r0⟩ := trodAll_cons hA
  obtain ⟨rfl, rfl, rfl⟩ := trodAll_nil r0
  obtain rfl : args = #[v0] := by cases args; simp_all
  obtain ⟨rfl, rfl⟩ := trodVars_none hV
  obtain ⟨dl, bl, vd, vb, rfl, hd, hb, _, _, hsz⟩ := open_prog (hval 0 51 v0 rfl rfl) h0
  have hlt := hW'.lt
  have hbulk : Rows.uptoBulkAll [d0] ≤ 1048576 := by
    have := hk
    simpa [Rows.uptoSmall] using this
  simp only [Rows.uptoBulkAll] at hbulk
  refine (PFn.calls (N.law_right dl bl (whole W) vd vb hd hb (by omega))).mono fun e W' ⟨he, bel⟩ => ?_
  subst he
  exact ⟨_, rfl, _, _, _, [], _, [], hW', trodAll_mk1 (shut_bool Try.underlying4 _), trodAll_mk1 (Below.trod laidOut (by kernel_rfl) (of_decide_eq_true (by kernel_rfl)) h0 bel fun x hx => hlt x (by simp_all)), rfl, bel.frame _, fun h => by cases h⟩
theorem over : Rows.varsRightUptoRow.holds Try.pinned (Rows.OpenSpec.upto Rows.varsRightSpec) :=
  OpenClaim.holds_of_cond 8 Try.f8 rfl rfl rfl rfl rfl rfl rfl ⟨rfl, rfl, rfl, rfl, rfl⟩ rfl rfl rfl rfl rfl (by kernel_rfl) Try.func8 (by kernel_rfl)
    (of_decide_eq_true (by kernel_rfl)) (by unfold Func.isWrapper; first | (rw [if_pos (by decide +kernel)]; kernel_rfl) | (rw [if_neg (by decide +kernel)]; exact ⟨rfl, rfl⟩))
    (fun os started H enc _ F => lifted os started H enc F)
/-- 'middenlaw10.VarsRight', of bulk at most 1048576: the row, whole. -/
theorem varsRight_holds : Rows.VarsRightUptoSaid := over
end Go.Proofs.Ytlgfajdedmajcaa.L5
