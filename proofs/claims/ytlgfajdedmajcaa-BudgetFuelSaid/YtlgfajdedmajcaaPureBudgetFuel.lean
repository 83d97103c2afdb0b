/- The numbers of steps that are enough are the document's: budget.Fuel answers as the reference does, for all whole numbers. -/
import Derived.Test.YtlgfajdedmajcaaPBudgetFuelx1
namespace Go.Proofs.Ytlgfajdedmajcaa.Pure
open Go.RowKit Go.Proofs.Ytlgfajdedmajcaa.PBudgetFuel Go.Proofs.YtlgfajdedmajcaaW.PrintWords Go.Proofs.YtlgfajdedmajcaaW.PrintLast

theorem fuel_awake : middenlaw22_awake.f 1 = some true := by
  decide +kernel

theorem wrap64_of (n : Int) (h0 : -9223372036854775808 ≤ n) (h1 : n ≤ 9223372036854775807) : wrap64 n = n := by
  unfold wrap64; omega

theorem BudgetFuel : middenlaw22_BudgetFuel.Pure := by
  intro a b ha hb
  refine ⟨1, ?_⟩
  unfold middenlaw22_BudgetFuel.f
  rw [fuel_awake]
  unfold budget_Fuel.f middenref22_Fuel.f
  by_cases h1 : a < 0
  · simp only [if_pos h1, budget_Fuel.j0, middenref22_Fuel.j0, if_true, Option.bind_some]; rfl
  · by_cases h2 : b < 0
    · simp only [if_neg h1, decide_eq_true h2, budget_Fuel.j0, middenref22_Fuel.j0, if_true, Option.bind_some]; rfl
    · simp only [if_neg h1, decide_eq_false h2, budget_Fuel.j0, middenref22_Fuel.j0, Option.bind_some, Bool.false_eq_true, if_false]
      by_cases h3 : b > 262
      · simp only [if_pos h3]
        by_cases h4 : a > 1048576
        · simp only [if_pos h4, Option.bind_some, if_true]; rfl
        · simp only [if_neg h4]
          by_cases h5 : b > 1048576
          · simp only [if_pos h5, Option.bind_some, if_true]; rfl
          · simp only [if_neg h5]
            rw [wrap64_of (20 * a) (by omega) (by omega), wrap64_of (4000 * b) (by omega) (by omega), wrap64_of _ (by omega) (by omega), if_pos (by omega)]
            rfl
      · simp only [if_neg h3]
        have h5 : ¬ b > 1048576 := by omega
        have hd : Int.tdiv (1048576 - 4000 * b) 20 = (1048576 - 4000 * b) / 20 := Int.tdiv_eq_ediv_of_nonneg (by omega)
        rw [wrap64_of (4000 * b) (by omega) (by omega), wrap64_of (1048576 - 4000 * b) (by omega) (by omega), hd, wrap64_of ((1048576 - 4000 * b) / 20) (by omega) (by omega)]
        simp only [if_neg h5]
        by_cases h4 : a > 1048576
        · simp only [if_pos h4]
          rw [if_pos (by omega)]
          rfl
        · simp only [if_neg h4]
          rw [wrap64_of (20 * a) (by omega) (by omega), wrap64_of _ (by omega) (by omega)]
          by_cases h6 : 20 * a + 4000 * b > 1048576
          · rw [if_pos h6, if_pos (by omega)]; rfl
          · rw [if_neg h6, if_neg (by omega)]; simp

end Go.Proofs.Ytlgfajdedmajcaa.Pure
