/- 'middenlaw10.VarsArgs', where what it reads is of bulk at most 1048576: the row. -/
import Derived.Test.YtlgfajdedmajcaaR0
import Derived.Test.YtlgfajdedmajcaaD2
namespace Go.Proofs.Ytlgfajdedmajcaa.L4
open Go Go.Eng Go.Proofs Go.Proofs.Ytlgfajdedmajcaa.V Go.Proofs.Ytlgfajdedmajcaa.R
open Go.ChangeShapes Go.WideShapes Go.ChangeAt Go.RowKit
open Go.ChangeMaps (open_string shut_string)
set_option linter.unusedVariables false
set_option maxRecDepth 100000
theorem lifted (os : Os) (started : os.Started) (H : Type) (enc : TypeId × Value → H) (F : Stop.Interp) :
    ReturnsInHanded {} Try.checked os 7 .any ((Rows.OpenSpec.upto Rows.varsArgsSpec).pre6 enc Try.prog Try.f7 Rows.varsArgsUptoRow.domain false) (((Rows.OpenSpec.upto Rows.varsArgsSpec).at F).post enc Try.prog Try.f7 false true false false) := by
  refine returnsInHanded_of_cond (C := Try.checked) (s := Rows.OpenSpec.upto Rows.varsArgsSpec) (k := Rows.uptoSmall) rfl own started (by kernel_rfl) Try.func7
    (OpenSpec.witness (enc := enc) (C := Try.checked) (s := Rows.OpenSpec.upto Rows.varsArgsSpec) (k := Rows.uptoSmall) rfl false ⟨#[], #[.agg #[.slice none 0 0, .int .i64 0, .int .i64 0, .string ⟨#[]⟩, .int .i64 0, .slice none 0 0, .slice none 0 0, .slice none 0 0, .slice none 0 0], .string ⟨#[]⟩], []⟩ 8 (by kernel_rfl) (by kernel_rfl) (by kernel_rfl)
      (x := ([.agg [.nil, .agg [.lit (.int .i64 0), .lit (.int .i64 0), .lit (.string []), .lit (.int .i64 0), .nil, .nil, .nil, .nil]], .lit (.string [])], [], [])) (by kernel_rfl) rfl (by kernel_rfl)) ?_
  intro W base args ds gs before hval0 hW _ hk _
  have hval : ∀ (j : Nat) t v, Try.f7.params[j]? = some t → args[j]? = some v → Value.okWide Try.prog W .any base t v := hval0
  have hW' := hW
  obtain ⟨p, q, hA0, hV, rfl, hfz, hnd⟩ := hW
  have hA : DataW.TrodAll enc Try.prog W 0 (fun _ => true) true Try.f7.params.toList args.toList ds p := hA0
  rw [Try.params7] at hA hval
  obtain ⟨v0, vs0, d0, ds0, p0, q0, hargs, rfl, rfl, h0, r0⟩ := trodAll_cons hA
  obtain ⟨v1, vs1, d1, ds1, p1, q1, rfl, rfl, rfl, h1, r1⟩ := trodAll_cons r0
  obtain ⟨rfl, rfl, rfl⟩ := trodAll_nil r1
  obtain rfl : args = #[v0, v1] := by cases args; simp_all
  obtain ⟨rfl, rfl⟩ := trodVars_none hV
  obtain ⟨f, v, va, vb, ve, vl, rfl, hv, hX, _, _, hsz⟩ := open_form (hval 0 41 v0 rfl rfl) h0
  obtain ⟨s, rfl, rfl, rfl, hs⟩ := open_string Try.underlying9 (hval 1 9 v1 rfl rfl) h1
  have hlt := hW'.lt
  have hbulk : Rows.uptoBulkAll [d0, DataW.lit (.string s.data.toList)] ≤ 1048576 := by
    have := hk
    simpa [Rows.uptoSmall] using this
  simp only [Rows.uptoBulkAll] at hbulk
  have hn : f.1.length ≤ sizeS f.1 := sizeS_len f.1
  refine (PFn.calls (law_args (whole W) f s v va vb ve vl hv hX (by omega) (by omega))).mono fun e W' ⟨he, bel⟩ => ?_
  subst he
  exact ⟨_, rfl, _, _, _, [], _, [], hW', trodAll_mk1 (shut_bool Try.underlying4 _), (trodAll_cons_mk (Below.trod laidOut (by kernel_rfl) (of_decide_eq_true (by kernel_rfl)) h0 bel fun x hx => hlt x (by simp_all)) (trodAll_mk1 (shut_string Try.underlying9 hs))), rfl, bel.frame _, fun h => by cases h⟩
theorem over : Rows.varsArgsUptoRow.holds Try.pinned (Rows.OpenSpec.upto Rows.varsArgsSpec) :=
  OpenClaim.holds_of_cond 7 Try.f7 rfl rfl rfl rfl rfl rfl rfl ⟨rfl, rfl, rfl, rfl, rfl⟩ rfl rfl rfl rfl rfl (by kernel_rfl) Try.func7 (by kernel_rfl)
    (of_decide_eq_true (by kernel_rfl)) (by unfold Func.isWrapper; first | (rw [if_pos (by decide +kernel)]; kernel_rfl) | (rw [if_neg (by decide +kernel)]; exact ⟨rfl, rfl⟩))
    (fun os started H enc _ F => lifted os started H enc F)
/-- 'middenlaw10.VarsArgs', of bulk at most 1048576: the row, whole. -/
theorem varsArgs_holds : Rows.VarsArgsUptoSaid := over
end Go.Proofs.Ytlgfajdedmajcaa.L4
