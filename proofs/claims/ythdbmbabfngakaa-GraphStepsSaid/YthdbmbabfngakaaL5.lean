/- 'middenlaw19.GraphSteps': the row, whole. -/
import Derived.Test.YthdbmbabfngakaaZ0
import Derived.Test.YthdbmbabfngakaaH27
namespace Go.Proofs.Ythdbmbabfngakaa.L5
open Go Go.Eng Go.Proofs Go.Proofs.Ythdbmbabfngakaa.R Go.Proofs.Ythdbmbabfngakaa.G
open Go.ChangeShapes Go.WideShapes Go.ChangeAt Go.RowKit
set_option linter.unusedVariables false
set_option maxRecDepth 100000
theorem c_u16 : Try.prog.cellsOf 38 = 1 := by kernel_rfl
theorem lifted (os : Os) (started : os.Started) (H : Type) (enc : TypeId × Value → H) :
    ReturnsInHanded {} Try.checked os 7 .any (Rows.graphStepsSpec.pre6 enc Try.prog Try.f7 Rows.graphStepsRow.domain false) (Rows.graphStepsSpec.post enc Try.prog Try.f7 false true false false) := by
  refine returnsInHanded_of_change_sized (C := Try.checked) own started (by kernel_rfl) Try.func7
    (ChangeSpec.witness6 (enc := enc) (C := Try.checked) false ⟨#[], #[.agg #[.slice none 0 0, .slice none 0 0], .slice none 0 0], []⟩ 8 (by kernel_rfl) (by kernel_rfl) (by kernel_rfl) (by kernel_rfl)) ?_
  intro W base args ds gs before hval0 hW hcnd hsz0 _
  have hval : ∀ (j : Nat) t v, Try.f7.params[j]? = some t → args[j]? = some v → Value.okWide Try.prog W .any base t v := hval0
  have hW' := hW
  obtain ⟨p, q, hA0, hV, rfl, hfz, hnd⟩ := hW
  have hA : DataW.TrodAll enc Try.prog W 0 (fun _ => true) true Try.f7.params.toList args.toList ds p := hA0
  rw [Try.params7] at hA hval hsz0
  obtain ⟨v0, vs0, d0, ds0, p0, q0, hargs, rfl, rfl, h0, r0⟩ := trodAll_cons hA
  obtain ⟨v1, vs1, d1, ds1, p1, q1, rfl, rfl, rfl, h1, r1⟩ := trodAll_cons r0
  obtain ⟨rfl, rfl, rfl⟩ := trodAll_nil r1
  obtain rfl : args = #[v0, v1] := by cases args; simp_all
  obtain ⟨rfl, rfl⟩ := trodVars_none hV
  have hwt : ∀ k ∈ d0.weights Try.prog 25, k ≤ reachBytes := fun k hk => by
    have := List.all_eq_true.1 hsz0 k (weightsEach_mem (i := 0) rfl rfl hk)
    simpa using this
  have hwt1 : ∀ k ∈ d1.weights Try.prog 37, k ≤ reachBytes := fun k hk => by
    have := List.all_eq_true.1 hsz0 k (weightsEach_mem (i := 1) rfl rfl hk)
    simpa using this
  obtain ⟨g, hg, hn⟩ := open_graph (hval 0 25 v0 rfl rfl) h0 hwt
  have h1k := h1
  obtain ⟨fuel, hf⟩ := h1
  obtain ⟨a, len, cap, rfl⟩ := okWide_slice Try.underlying37 (hval 1 37 v1 rfl rfl)
  have hf' : DataW.trod enc Try.prog W 0 (fun _ => true) true fuel 37 [.slice a len cap] = some (d1, p1) := hf
  obtain ⟨v, ws, e, hw, hwr, _⟩ := readsW_ints Try.underlying37 Try.underlying38 c_u16 hf' hwt1
  cases e
  have hlt := hW'.lt
  refine (PFn.calls (law_steps (whole W) v0 _ g ws hg hn hw fun w hw => ?_)).mono fun e W' ⟨he, bel⟩ => ?_
  · have := hwr w hw
    simp [Lit.wf, IntKind.min, IntKind.max, IntKind.signed, IntKind.bits] at this
    omega
  subst he
  exact ⟨_, rfl, _, _, _, [], _, [], hW', trodAll_mk1 (shut_bool Try.underlying4 _), (trodAll_cons_mk (Below.trod laidOut (by kernel_rfl) (of_decide_eq_true (by kernel_rfl)) h0 bel fun x hx => hlt x (by simp_all)) (trodAll_mk1 (Below.trod laidOut (by kernel_rfl) (of_decide_eq_true (by kernel_rfl)) h1k bel fun x hx => hlt x (by simp_all)))), rfl, bel.frame _, fun h => by cases h⟩
theorem over : Rows.graphStepsRow.holds Try.pinned (OpenSpec.ofChange Rows.graphStepsSpec) :=
  OpenClaim.holds_of_wide 7 Try.f7 rfl rfl rfl rfl rfl rfl rfl ⟨rfl, rfl, rfl, rfl, rfl⟩ rfl rfl rfl rfl rfl (by kernel_rfl) Try.func7 (by kernel_rfl)
    (of_decide_eq_true (by kernel_rfl)) (by unfold Func.isWrapper; first | (rw [if_pos (by decide +kernel)]; kernel_rfl) | (rw [if_neg (by decide +kernel)]; exact ⟨rfl, rfl⟩))
    (fun os started H enc _ => lifted os started H enc)
/-- 'middenlaw19.GraphSteps': the row, whole. -/
theorem graphSteps_holds : Rows.GraphStepsSaid := over
end Go.Proofs.Ythdbmbabfngakaa.L5
