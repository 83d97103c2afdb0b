/- 'middenlaw10.VarsClass': the row. -/
import Derived.Test.YtlgfajdedmajcaaC3
import Derived.WalkKit
import Derived.ProofKit
import Derived.OpenShut
import Derived.ShutString
import Derived.ChangeOld
import Derived.Below
import Derived.SizedLaws
import Derived.Carry
namespace Go.Proofs.Ytlgfajdedmajcaa.L3
open Go Go.Eng Go.Proofs Go.Proofs.Ytlgfajdedmajcaa.V
open Go.ChangeShapes Go.WideShapes Go.ChangeAt Go.RowKit
set_option linter.unusedVariables false
set_option maxRecDepth 100000
theorem own : ownKnob Try.prog.godebug = none := by kernel_rfl
theorem laidOut : laidOutB Try.prog = true := by kernel_rfl
def tys : ExpTys := ⟨3, 2, 9, 33, 62, 34, 39, 36, 55, 35, 60, 37, 41⟩
theorem tysIn : tys.In Try.prog where
  int := ⟨Try.underlying3, by kernel_rfl⟩
  i64 := ⟨Try.underlying2, by kernel_rfl⟩
  str := ⟨Try.underlying9, by kernel_rfl⟩
  strs := ⟨Try.underlying33, by kernel_rfl⟩
  atom := ⟨⟨_, Try.underlying62, rfl⟩, by kernel_rfl⟩
  atoms := ⟨Try.underlying34, by kernel_rfl⟩
  exp := ⟨⟨_, Try.underlying39, rfl⟩, by kernel_rfl⟩
  exps := ⟨Try.underlying36, by kernel_rfl⟩
  bind := ⟨⟨_, Try.underlying55, rfl⟩, by kernel_rfl⟩
  binds := ⟨Try.underlying35, by kernel_rfl⟩
  alt := ⟨⟨_, Try.underlying60, rfl⟩, by kernel_rfl⟩
  alts := ⟨Try.underlying37, by kernel_rfl⟩
  form := ⟨⟨_, Try.underlying41, rfl⟩, by kernel_rfl⟩
theorem lifted (os : Os) (started : os.Started) (H : Type) (enc : TypeId × Value → H) :
    ReturnsInHanded {} Try.checked os 6 .any (Rows.varsClassSpec.pre6 enc Try.prog Try.f6 Rows.varsClassRow.domain false) (Rows.varsClassSpec.post enc Try.prog Try.f6 false true false false) := by
  refine returnsInHanded_of_change_sized (C := Try.checked) own started (by kernel_rfl) Try.func6
    (ChangeSpec.witness6 (enc := enc) (C := Try.checked) false ⟨#[], #[.agg #[.slice none 0 0, .int .i64 0, .int .i64 0, .string ⟨#[]⟩, .int .i64 0, .slice none 0 0, .slice none 0 0, .slice none 0 0, .slice none 0 0]], []⟩ 8 (by kernel_rfl) (by kernel_rfl) (by kernel_rfl) (by kernel_rfl)) ?_
  intro W base args ds gs before hval0 hW hcnd hsz0 _
  have hval : ∀ (j : Nat) t v, Try.f6.params[j]? = some t → args[j]? = some v → Value.okWide Try.prog W .any base t v := hval0
  have hW' := hW
  obtain ⟨p, q, hA0, hV, rfl, hfz, hnd⟩ := hW
  have hA : DataW.TrodAll enc Try.prog W 0 (fun _ => true) true Try.f6.params.toList args.toList ds p := hA0
  rw [Try.params6] at hA hval
  obtain ⟨v0, vs0, d0, ds0, p0, q0, hargs, rfl, rfl, h0, r0⟩ := trodAll_cons hA
  obtain ⟨rfl, rfl, rfl⟩ := trodAll_nil r0
  obtain rfl : args = #[v0] := by cases args; simp_all
  obtain ⟨rfl, rfl⟩ := trodVars_none hV
  have h0k := h0
  obtain ⟨cs, rfl, _⟩ := okWide_struct Try.underlying41 (hval 0 41 v0 rfl rfl)
  obtain ⟨fuel, hf⟩ := h0
  obtain ⟨f, ⟨v, c, hc, hv, hx⟩, hok, _⟩ := reads_form tysIn (m := fuel) (fun k _ => reads_exp tysIn k) _ _ hf
  obtain ⟨va, vb, ve, vl, rfl, hX⟩ := RExp_iff.1 hx
  obtain rfl : cs = (v :: expCells f.2 va vb ve vl).toArray := by
    have : cs.toList = v :: expCells f.2 va vb ve vl := hc
    rw [← this]
  have hlt := hW'.lt
  refine (PFn.calls (law_class (whole W) f v va vb ve vl hv hX)).mono fun e W' ⟨he, bel⟩ => ?_
  subst he
  exact ⟨_, rfl, _, _, _, [], _, [], hW', trodAll_mk1 (shut_bool Try.underlying4 _), (trodAll_mk1 (Below.trod laidOut (by kernel_rfl) (of_decide_eq_true (by kernel_rfl)) h0k bel fun x hx => hlt x (by simp_all))), rfl, bel.frame _, fun h => by cases h⟩
theorem over : Rows.varsClassRow.holds Try.pinned (OpenSpec.ofChange Rows.varsClassSpec) :=
  OpenClaim.holds_of_wide 6 Try.f6 rfl rfl rfl rfl rfl rfl rfl ⟨rfl, rfl, rfl, rfl, rfl⟩ rfl rfl rfl rfl rfl (by kernel_rfl) Try.func6 (by kernel_rfl)
    (of_decide_eq_true (by kernel_rfl)) (by unfold Func.isWrapper; first | (rw [if_pos (by decide +kernel)]; kernel_rfl) | (rw [if_neg (by decide +kernel)]; exact ⟨rfl, rfl⟩))
    (fun os started H enc _ => lifted os started H enc)
/-- 'middenlaw10.VarsClass': the row, whole. -/
theorem varsClass_holds : Rows.VarsClassSaid := over
end Go.Proofs.Ytlgfajdedmajcaa.L3
