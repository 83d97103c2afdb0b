import Derived.Test.YtlgfajdedmajcaaB1
namespace Go.Proofs.Ytlgfajdedmajcaa.V
open Go Go.Eng Go.Proofs Go.Proofs.Ytlgfajdedmajcaa.T
set_option linter.unusedSimpArgs false
set_option maxRecDepth 100000
abbrev two (p : Int × Int) : Value := .tuple #[.int .i64 p.1, .int .i64 p.2]
def blk (l g s nu : Int) : Int × Int :=
  if spc g s = 0 ∨ l < 0 ∨ nu < 1 ∨ 4096 < nu then (0, 2) else if 524288 < l then (0, 3)
  else if 4096 < 16 * ((l + 63) / 64) + 16 * nu + 40 * spc g s + 2 then (0, 3) else (16 * ((l + 63) / 64) + 16 * nu + 40 * spc g s + 2, 0)
theorem blocks (F : PH) (l g s b nu ho : Int) (hl : -9223372036854775808 ≤ l ∧ l ≤ 9223372036854775807) : PFn Try.prog 9 [.int .i64 l, cfg g s b nu ho] F (fun v _ => v = two (blk l g s nu)) := by
  refine Fn.intro (n := 44) (ts := [4, 5]) Try.func9 rfl rfl rfl rfl (by simp) fun B hB => VC.go 100 ?_
  simp only [push_cast, ↓reduceIte, Nat.reduceEqDiff, Nat.reduceAdd, Nat.reduceMul, Nat.reduceSub, Nat.reduceLT, Nat.reduceLeDiff, reduceCtorEq, Nat.reduceMod, Int.reduceEq, Int.reduceLT, Int.reduceLE, Int.reduceToNat, dite_true]
  intro bb
  refine CallV.pure (spaces F g s b nu ho) ?_
  rintro _ F1 hF1 rfl
  have hsp := spc_bd g s
  by_cases h1 : spc g s = 0
  · simp only [push_cast, ↓reduceIte, Nat.reduceEqDiff, Nat.reduceAdd, Nat.reduceMul, Nat.reduceSub, Nat.reduceLT, Nat.reduceLeDiff, reduceCtorEq, Nat.reduceMod, Int.reduceEq, Int.reduceLT, Int.reduceLE, Int.reduceToNat, dite_true, h1]; exact RetOk.p rfl (by unfold blk; rw [if_pos (.inl h1)]; rfl)
  by_cases h2 : l < 0
  · simp only [push_cast, ↓reduceIte, Nat.reduceEqDiff, Nat.reduceAdd, Nat.reduceMul, Nat.reduceSub, Nat.reduceLT, Nat.reduceLeDiff, reduceCtorEq, Nat.reduceMod, Int.reduceEq, Int.reduceLT, Int.reduceLE, Int.reduceToNat, dite_true, h1, h2]; exact RetOk.p rfl (by unfold blk; rw [if_pos (.inr (.inl h2))]; rfl)
  by_cases h3 : nu < 1
  · simp only [push_cast, ↓reduceIte, Nat.reduceEqDiff, Nat.reduceAdd, Nat.reduceMul, Nat.reduceSub, Nat.reduceLT, Nat.reduceLeDiff, reduceCtorEq, Nat.reduceMod, Int.reduceEq, Int.reduceLT, Int.reduceLE, Int.reduceToNat, dite_true, h1, h2, h3]; exact RetOk.p rfl (by unfold blk; rw [if_pos (.inr (.inr (.inl h3)))]; rfl)
  by_cases h4 : 4096 < nu
  · simp only [push_cast, ↓reduceIte, Nat.reduceEqDiff, Nat.reduceAdd, Nat.reduceMul, Nat.reduceSub, Nat.reduceLT, Nat.reduceLeDiff, reduceCtorEq, Nat.reduceMod, Int.reduceEq, Int.reduceLT, Int.reduceLE, Int.reduceToNat, dite_true, h1, h2, h3, h4]; exact RetOk.p rfl (by unfold blk; rw [if_pos (.inr (.inr (.inr h4)))]; rfl)
  have hn : ¬ (spc g s = 0 ∨ l < 0 ∨ nu < 1 ∨ 4096 < nu) := by omega
  by_cases h5 : 524288 < l
  · simp only [push_cast, ↓reduceIte, Nat.reduceEqDiff, Nat.reduceAdd, Nat.reduceMul, Nat.reduceSub, Nat.reduceLT, Nat.reduceLeDiff, reduceCtorEq, Nat.reduceMod, Int.reduceEq, Int.reduceLT, Int.reduceLE, Int.reduceToNat, dite_true, h1, h2, h3, h4, h5]; exact RetOk.p rfl (by unfold blk; rw [if_neg hn, if_pos h5]; rfl)
  have d : (l + 64 - 1).tdiv 64 = (l + 63) / 64 := by rw [Int.tdiv_eq_ediv_of_nonneg (by omega)]; omega
  have e : IntKind.i64.wrap (IntKind.i64.wrap (IntKind.i64.wrap (IntKind.i64.wrap (16 * IntKind.i64.wrap ((IntKind.i64.wrap (IntKind.i64.wrap (l + 64) - 1)).tdiv 64)) + IntKind.i64.wrap (16 * nu)) + IntKind.i64.wrap (40 * spc g s)) + 2) = 16 * ((l + 63) / 64) + 16 * nu + 40 * spc g s + 2 := by
    rw [w64 (l + 64) (by omega), w64 (l + 64 - 1) (by omega), d, w64 ((l + 63) / 64) (by omega), w64 (16 * ((l + 63) / 64)) (by omega), w64 (16 * nu) (by omega), w64 (16 * ((l + 63) / 64) + 16 * nu) (by omega), w64 (40 * spc g s) (by omega), w64 (16 * ((l + 63) / 64) + 16 * nu + 40 * spc g s) (by omega), w64 _ (by omega)]
  by_cases h6 : 4096 < 16 * ((l + 63) / 64) + 16 * nu + 40 * spc g s + 2
  · simp only [push_cast, ↓reduceIte, Nat.reduceEqDiff, Nat.reduceAdd, Nat.reduceMul, Nat.reduceSub, Nat.reduceLT, Nat.reduceLeDiff, reduceCtorEq, Nat.reduceMod, Int.reduceEq, Int.reduceLT, Int.reduceLE, Int.reduceToNat, dite_true, h1, h2, h3, h4, h5, show ((64 : Int) = 0) = False from by decide, e, h6]
    exact RetOk.p rfl (by unfold blk; rw [if_neg hn, if_neg h5, if_pos h6]; rfl)
  · simp only [push_cast, ↓reduceIte, Nat.reduceEqDiff, Nat.reduceAdd, Nat.reduceMul, Nat.reduceSub, Nat.reduceLT, Nat.reduceLeDiff, reduceCtorEq, Nat.reduceMod, Int.reduceEq, Int.reduceLT, Int.reduceLE, Int.reduceToNat, dite_true, h1, h2, h3, h4, h5, show ((64 : Int) = 0) = False from by decide, e, h6]
    exact RetOk.p rfl (by unfold blk; rw [if_neg hn, if_neg h5, if_neg h6]; rfl)
end Go.Proofs.Ytlgfajdedmajcaa.V
