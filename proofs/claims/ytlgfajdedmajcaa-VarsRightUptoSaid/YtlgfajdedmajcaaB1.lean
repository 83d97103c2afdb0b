import Derived.Test.YtlgfajdedmajcaaTy
import Derived.Test.YtlgfajdedmajcaaE10
import Derived.IntWalk
namespace Go.Proofs.Ytlgfajdedmajcaa.V
open Go Go.Eng Go.Proofs Go.Proofs.Ytlgfajdedmajcaa.T
set_option linter.unusedSimpArgs false
set_option maxRecDepth 100000
theorem w64 (n : Int) (h : -9223372036854775808 ≤ n ∧ n ≤ 9223372036854775807) : IntKind.i64.wrap n = n := IntWalk.i64_in n h
abbrev cfg (g s b nu ho : Int) : Value := .agg #[.int .i64 g, .int .i64 s, .int .i64 b, .int .i64 nu, .int .i64 ho]
def spc (g s : Int) : Int := if 1 ≤ g ∧ g ≤ 4 ∧ 1 ≤ s ∧ s ≤ 3 then (g - 1) * s + 1 else 0
theorem spc_bd (g s : Int) : 0 ≤ spc g s ∧ spc g s ≤ 10 := by
  unfold spc
  split
  · rename_i h
    obtain ⟨h1, h2, h3, h4⟩ := h
    have : s = 1 ∨ s = 2 ∨ s = 3 := by omega
    rcases this with rfl | rfl | rfl <;> omega
  · omega
theorem spc_no {g s : Int} (h : ¬ (1 ≤ g ∧ g ≤ 4 ∧ 1 ≤ s ∧ s ≤ 3)) : spc g s = 0 := if_neg h
theorem spaces (F : PH) (g s b nu ho : Int) : PFn Try.prog 12 [cfg g s b nu ho] F (fun v _ => v = .int .i64 (spc g s)) := by
  refine Fn.intro (n := 28) (ts := [2]) Try.func12 rfl rfl rfl rfl (by simp) fun B hB => VC.go 100 ?_
  by_cases h1 : g < 1
  · simp only [push_cast, ↓reduceIte, Nat.reduceEqDiff, Nat.reduceAdd, Nat.reduceMul, Nat.reduceSub, Nat.reduceLT, Nat.reduceLeDiff, reduceCtorEq, Nat.reduceMod, Int.reduceEq, Int.reduceLT, Int.reduceLE, Int.reduceToNat, dite_true, h1]; intro b; exact RetOk.p rfl (by rw [spc_no (by omega)]; rfl)
  by_cases h2 : 4 < g
  · simp only [push_cast, ↓reduceIte, Nat.reduceEqDiff, Nat.reduceAdd, Nat.reduceMul, Nat.reduceSub, Nat.reduceLT, Nat.reduceLeDiff, reduceCtorEq, Nat.reduceMod, Int.reduceEq, Int.reduceLT, Int.reduceLE, Int.reduceToNat, dite_true, h1, h2]; intro b; exact RetOk.p rfl (by rw [spc_no (by omega)]; rfl)
  by_cases h3 : s < 1
  · simp only [push_cast, ↓reduceIte, Nat.reduceEqDiff, Nat.reduceAdd, Nat.reduceMul, Nat.reduceSub, Nat.reduceLT, Nat.reduceLeDiff, reduceCtorEq, Nat.reduceMod, Int.reduceEq, Int.reduceLT, Int.reduceLE, Int.reduceToNat, dite_true, h1, h2, h3]; intro b; exact RetOk.p rfl (by rw [spc_no (by omega)]; rfl)
  by_cases h4 : 3 < s
  · simp only [push_cast, ↓reduceIte, Nat.reduceEqDiff, Nat.reduceAdd, Nat.reduceMul, Nat.reduceSub, Nat.reduceLT, Nat.reduceLeDiff, reduceCtorEq, Nat.reduceMod, Int.reduceEq, Int.reduceLT, Int.reduceLE, Int.reduceToNat, dite_true, h1, h2, h3, h4]; intro b; exact RetOk.p rfl (by rw [spc_no (by omega)]; rfl)
  simp only [push_cast, ↓reduceIte, Nat.reduceEqDiff, Nat.reduceAdd, Nat.reduceMul, Nat.reduceSub, Nat.reduceLT, Nat.reduceLeDiff, reduceCtorEq, Nat.reduceMod, Int.reduceEq, Int.reduceLT, Int.reduceLE, Int.reduceToNat, dite_true, h1, h2, h3, h4]
  intro b
  refine RetOk.p rfl ?_
  show Value.int _ _ = _
  have hs : s = 1 ∨ s = 2 ∨ s = 3 := by omega
  unfold spc; rw [if_pos (by omega)]
  rcases hs with rfl | rfl | rfl
  · rw [w64 (g - 1) (by omega), w64 ((g - 1) * 1) (by omega), w64 _ (by omega)]
  · rw [w64 (g - 1) (by omega), w64 ((g - 1) * 2) (by omega), w64 _ (by omega)]
  · rw [w64 (g - 1) (by omega), w64 ((g - 1) * 3) (by omega), w64 _ (by omega)]
theorem refspaces (F : PH) (g s b nu ho : Int) : PFn Try.prog 13 [cfg g s b nu ho] F (fun v _ => v = .int .i64 (spc g s)) := by
  refine Fn.intro (n := 34) (ts := [2]) Try.func13 rfl rfl rfl rfl (by simp) fun B hB => VC.go 100 ?_
  by_cases h1 : g < 1
  · simp only [push_cast, ↓reduceIte, Nat.reduceEqDiff, Nat.reduceAdd, Nat.reduceMul, Nat.reduceSub, Nat.reduceLT, Nat.reduceLeDiff, reduceCtorEq, Nat.reduceMod, Int.reduceEq, Int.reduceLT, Int.reduceLE, Int.reduceToNat, dite_true, h1]; intro b; exact RetOk.p rfl (by rw [spc_no (by omega)]; rfl)
  by_cases h2 : 4 < g
  · simp only [push_cast, ↓reduceIte, Nat.reduceEqDiff, Nat.reduceAdd, Nat.reduceMul, Nat.reduceSub, Nat.reduceLT, Nat.reduceLeDiff, reduceCtorEq, Nat.reduceMod, Int.reduceEq, Int.reduceLT, Int.reduceLE, Int.reduceToNat, dite_true, h1, h2]; intro b; exact RetOk.p rfl (by rw [spc_no (by omega)]; rfl)
  by_cases h3 : s < 1
  · simp only [push_cast, ↓reduceIte, Nat.reduceEqDiff, Nat.reduceAdd, Nat.reduceMul, Nat.reduceSub, Nat.reduceLT, Nat.reduceLeDiff, reduceCtorEq, Nat.reduceMod, Int.reduceEq, Int.reduceLT, Int.reduceLE, Int.reduceToNat, dite_true, h1, h2, h3]; intro b; exact RetOk.p rfl (by rw [spc_no (by omega)]; rfl)
  by_cases h4 : 3 < s
  · simp only [push_cast, ↓reduceIte, Nat.reduceEqDiff, Nat.reduceAdd, Nat.reduceMul, Nat.reduceSub, Nat.reduceLT, Nat.reduceLeDiff, reduceCtorEq, Nat.reduceMod, Int.reduceEq, Int.reduceLT, Int.reduceLE, Int.reduceToNat, dite_true, h1, h2, h3, h4]; intro b; exact RetOk.p rfl (by rw [spc_no (by omega)]; rfl)
  simp only [push_cast, ↓reduceIte, Nat.reduceEqDiff, Nat.reduceAdd, Nat.reduceMul, Nat.reduceSub, Nat.reduceLT, Nat.reduceLeDiff, reduceCtorEq, Nat.reduceMod, Int.reduceEq, Int.reduceLT, Int.reduceLE, Int.reduceToNat, dite_true, h1, h2, h3, h4]
  intro bb
  refine VC.loop (ι := Nat) (fun i => ⟨[(4, .v (.int .i64 (i + 1))), (3, .v (.int .i64 (i * s + 1))), (1, .o 0 bb 0)], [⟨0, bb, 23, [.int .i64 g, .int .i64 s, .int .i64 b, .int .i64 nu, .int .i64 ho]⟩], F, [], 1⟩) (fun i => (i : Int) ≤ g - 1) (fun i => (g - i).toNat) 0 (by simp; omega) ⟨subk_le (by simp [subk, Eng.look]), List.Sublist.refl _, rfl, List.Sublist.refl _⟩ ?_
  intro i hi G hG
  have hm : (i : Int) * s ≤ 9 := by
    have hs : s = 1 ∨ s = 2 ∨ s = 3 := by omega
    rcases hs with rfl | rfl | rfl <;> omega
  have hm0 : 0 ≤ (i : Int) * s := Int.mul_nonneg (by omega) (by omega)
  refine VC.go 100 ?_
  by_cases hlt : (i : Int) + 1 < g
  · simp only [push_cast, ↓reduceIte, Nat.reduceEqDiff, Nat.reduceAdd, Nat.reduceMul, Nat.reduceSub, Nat.reduceLT, Nat.reduceLeDiff, reduceCtorEq, Nat.reduceMod, Int.reduceEq, Int.reduceLT, Int.reduceLE, Int.reduceToNat, dite_true, hlt]
    refine hG (i + 1) _ (by omega) (by omega) ⟨subk_le ?_, List.Sublist.refl _, rfl, List.Sublist.refl _⟩
    have e1 : IntKind.i64.wrap ((i : Int) + 1 + 1) = ((i + 1 : Nat) : Int) + 1 := by rw [w64 _ (by omega)]; omega
    have e2 : IntKind.i64.wrap ((i : Int) * s + 1 + s) = ((i + 1 : Nat) : Int) * s + 1 := by
      rw [w64 _ (by omega)]
      have : ((i + 1 : Nat) : Int) = (i : Int) + 1 := by omega
      rw [this, Int.add_mul]; omega
    rw [e1, e2]
    simp [subk, Eng.look]
  · simp only [push_cast, ↓reduceIte, Nat.reduceEqDiff, Nat.reduceAdd, Nat.reduceMul, Nat.reduceSub, Nat.reduceLT, Nat.reduceLeDiff, reduceCtorEq, Nat.reduceMod, Int.reduceEq, Int.reduceLT, Int.reduceLE, Int.reduceToNat, dite_true, hlt]
    refine RetOk.p rfl ?_
    have e : (i : Int) = g - 1 := by omega
    show Value.int _ _ = _
    unfold spc; rw [if_pos (by omega), e]
end Go.Proofs.Ytlgfajdedmajcaa.V
