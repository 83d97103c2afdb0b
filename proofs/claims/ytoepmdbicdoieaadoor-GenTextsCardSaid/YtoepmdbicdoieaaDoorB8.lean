/- The lexer of the definition, as a function of the text: what a token is written as. -/
import Derived.Test.YtoepmdbicdoieaaDoorB7
namespace Go.Proofs.YtoepmdbicdoieaaDoor.X
open Go Go.Eng Go.Proofs Go.Proofs.YtoepmdbicdoieaaDoor.T Go.Proofs.YtoepmdbicdoieaaDoor.K
set_option linter.unusedSimpArgs false
set_option linter.unusedVariables false
set_option maxRecDepth 100000
set_option maxHeartbeats 4000000
/-- What a token is written as; false: it is none. -/
def textP (t : Tok) : ByteArray × Bool :=
  if t.k = 1 ∨ t.k = 2 ∨ t.k = 3 then (t.tx, decide (WordP t.tx t.k)) else if t.k = 6 then (t.tx, reservedB t.tx) else if t.k = 5 then (t.tx, signB t.tx) else if t.k = 4 then (digitsP t.n, true) else (⟨#[]⟩, false)
theorem text (t : Tok) (hn : -9223372036854775808 ≤ t.n ∧ t.n ≤ 9223372036854775807) (F : PH) : PFn Tryd.prog 36 [.agg (tokC t).toArray] F (fun v _ => v = .tuple #[.string (textP t).1, .bool (textP t).2]) := by
  refine Fn.intro (n := 36) (ts := [2, 3]) Tryd.func36 rfl rfl rfl rfl (by simp) fun B hB => VC.go 100 ?_
  by_cases h1 : t.k = 1
  · simp only [push_cast, ↓reduceIte, Nat.reduceEqDiff, Nat.reduceAdd, Nat.reduceMul, Nat.reduceSub, Nat.reduceLT, Nat.reduceLeDiff, reduceCtorEq, Nat.reduceMod, Int.reduceEq, Int.reduceLT, Int.reduceLE, Int.reduceToNat, dite_true, eq_true h1]
    intro b1
    refine VC.draw (.q 0 (.q 1 (.q 2 (.q 3 (.q 4 (.q 5 (.e 6 (.q 7 (.q 8 (.done)))))))))) mixed (by rfl) ?_
    simp only [push_cast, ↓reduceIte, Nat.reduceEqDiff, Nat.reduceAdd, Nat.reduceMul, Nat.reduceSub, Nat.reduceLT, Nat.reduceLeDiff, reduceCtorEq, Nat.reduceMod, Int.reduceEq, Int.reduceLT, Int.reduceLE, Int.reduceToNat, dite_true]
    refine CallV.pure (word t.tx t.k F) ?_
    rintro _ F1 hF1 rfl
    simp only [push_cast, ↓reduceIte, Nat.reduceEqDiff, Nat.reduceAdd, Nat.reduceMul, Nat.reduceSub, Nat.reduceLT, Nat.reduceLeDiff, reduceCtorEq, Nat.reduceMod, Int.reduceEq, Int.reduceLT, Int.reduceLE, Int.reduceToNat, dite_true]
    refine VC.go 100 ?_
    simp only [push_cast, ↓reduceIte, Nat.reduceEqDiff, Nat.reduceAdd, Nat.reduceMul, Nat.reduceSub, Nat.reduceLT, Nat.reduceLeDiff, reduceCtorEq, Nat.reduceMod, Int.reduceEq, Int.reduceLT, Int.reduceLE, Int.reduceToNat, dite_true]
    exact RetOk.p rfl (by unfold textP; rw [if_pos (.inl h1)]; rfl)
  by_cases h2 : t.k = 2
  · simp only [push_cast, ↓reduceIte, Nat.reduceEqDiff, Nat.reduceAdd, Nat.reduceMul, Nat.reduceSub, Nat.reduceLT, Nat.reduceLeDiff, reduceCtorEq, Nat.reduceMod, Int.reduceEq, Int.reduceLT, Int.reduceLE, Int.reduceToNat, dite_true, h1, eq_true h2]
    intro b1
    refine VC.draw (.q 0 (.q 1 (.q 2 (.q 3 (.q 4 (.q 5 (.e 6 (.q 7 (.q 8 (.done)))))))))) mixed (by rfl) ?_
    simp only [push_cast, ↓reduceIte, Nat.reduceEqDiff, Nat.reduceAdd, Nat.reduceMul, Nat.reduceSub, Nat.reduceLT, Nat.reduceLeDiff, reduceCtorEq, Nat.reduceMod, Int.reduceEq, Int.reduceLT, Int.reduceLE, Int.reduceToNat, dite_true]
    refine CallV.pure (word t.tx t.k F) ?_
    rintro _ F1 hF1 rfl
    simp only [push_cast, ↓reduceIte, Nat.reduceEqDiff, Nat.reduceAdd, Nat.reduceMul, Nat.reduceSub, Nat.reduceLT, Nat.reduceLeDiff, reduceCtorEq, Nat.reduceMod, Int.reduceEq, Int.reduceLT, Int.reduceLE, Int.reduceToNat, dite_true]
    refine VC.go 100 ?_
    simp only [push_cast, ↓reduceIte, Nat.reduceEqDiff, Nat.reduceAdd, Nat.reduceMul, Nat.reduceSub, Nat.reduceLT, Nat.reduceLeDiff, reduceCtorEq, Nat.reduceMod, Int.reduceEq, Int.reduceLT, Int.reduceLE, Int.reduceToNat, dite_true]
    exact RetOk.p rfl (by unfold textP; rw [if_pos (.inr (.inl h2))]; rfl)
  by_cases h3 : t.k = 3
  · simp only [push_cast, ↓reduceIte, Nat.reduceEqDiff, Nat.reduceAdd, Nat.reduceMul, Nat.reduceSub, Nat.reduceLT, Nat.reduceLeDiff, reduceCtorEq, Nat.reduceMod, Int.reduceEq, Int.reduceLT, Int.reduceLE, Int.reduceToNat, dite_true, h1, h2, eq_true h3]
    intro b1
    refine VC.draw (.q 0 (.q 1 (.q 2 (.q 3 (.q 4 (.q 5 (.e 6 (.q 7 (.q 8 (.done)))))))))) mixed (by rfl) ?_
    simp only [push_cast, ↓reduceIte, Nat.reduceEqDiff, Nat.reduceAdd, Nat.reduceMul, Nat.reduceSub, Nat.reduceLT, Nat.reduceLeDiff, reduceCtorEq, Nat.reduceMod, Int.reduceEq, Int.reduceLT, Int.reduceLE, Int.reduceToNat, dite_true]
    refine CallV.pure (word t.tx t.k F) ?_
    rintro _ F1 hF1 rfl
    simp only [push_cast, ↓reduceIte, Nat.reduceEqDiff, Nat.reduceAdd, Nat.reduceMul, Nat.reduceSub, Nat.reduceLT, Nat.reduceLeDiff, reduceCtorEq, Nat.reduceMod, Int.reduceEq, Int.reduceLT, Int.reduceLE, Int.reduceToNat, dite_true]
    refine VC.go 100 ?_
    simp only [push_cast, ↓reduceIte, Nat.reduceEqDiff, Nat.reduceAdd, Nat.reduceMul, Nat.reduceSub, Nat.reduceLT, Nat.reduceLeDiff, reduceCtorEq, Nat.reduceMod, Int.reduceEq, Int.reduceLT, Int.reduceLE, Int.reduceToNat, dite_true]
    exact RetOk.p rfl (by unfold textP; rw [if_pos (.inr (.inr h3))]; rfl)
  have hn3 : ¬ (t.k = 1 ∨ t.k = 2 ∨ t.k = 3) := by omega
  by_cases h6 : t.k = 6
  · simp only [push_cast, ↓reduceIte, Nat.reduceEqDiff, Nat.reduceAdd, Nat.reduceMul, Nat.reduceSub, Nat.reduceLT, Nat.reduceLeDiff, reduceCtorEq, Nat.reduceMod, Int.reduceEq, Int.reduceLT, Int.reduceLE, Int.reduceToNat, dite_true, h1, h2, h3, eq_true h6]
    intro b1
    refine VC.draw (.q 0 (.q 1 (.q 2 (.q 3 (.e 4 (.q 5 (.q 6 (.done)))))))) mixed (by rfl) ?_
    simp only [push_cast, ↓reduceIte, Nat.reduceEqDiff, Nat.reduceAdd, Nat.reduceMul, Nat.reduceSub, Nat.reduceLT, Nat.reduceLeDiff, reduceCtorEq, Nat.reduceMod, Int.reduceEq, Int.reduceLT, Int.reduceLE, Int.reduceToNat, dite_true]
    refine CallV.pure (reserved t.tx F) ?_
    rintro _ F1 hF1 rfl
    simp only [push_cast, ↓reduceIte, Nat.reduceEqDiff, Nat.reduceAdd, Nat.reduceMul, Nat.reduceSub, Nat.reduceLT, Nat.reduceLeDiff, reduceCtorEq, Nat.reduceMod, Int.reduceEq, Int.reduceLT, Int.reduceLE, Int.reduceToNat, dite_true]
    refine VC.go 100 ?_
    simp only [push_cast, ↓reduceIte, Nat.reduceEqDiff, Nat.reduceAdd, Nat.reduceMul, Nat.reduceSub, Nat.reduceLT, Nat.reduceLeDiff, reduceCtorEq, Nat.reduceMod, Int.reduceEq, Int.reduceLT, Int.reduceLE, Int.reduceToNat, dite_true]
    exact RetOk.p rfl (by unfold textP; rw [if_neg hn3, if_pos h6]; rfl)
  by_cases h5 : t.k = 5
  · simp only [push_cast, ↓reduceIte, Nat.reduceEqDiff, Nat.reduceAdd, Nat.reduceMul, Nat.reduceSub, Nat.reduceLT, Nat.reduceLeDiff, reduceCtorEq, Nat.reduceMod, Int.reduceEq, Int.reduceLT, Int.reduceLE, Int.reduceToNat, dite_true, h1, h2, h3, h6, eq_true h5]
    intro b1
    refine VC.draw (.q 0 (.q 1 (.q 2 (.q 3 (.e 4 (.q 5 (.q 6 (.done)))))))) mixed (by rfl) ?_
    simp only [push_cast, ↓reduceIte, Nat.reduceEqDiff, Nat.reduceAdd, Nat.reduceMul, Nat.reduceSub, Nat.reduceLT, Nat.reduceLeDiff, reduceCtorEq, Nat.reduceMod, Int.reduceEq, Int.reduceLT, Int.reduceLE, Int.reduceToNat, dite_true]
    refine CallV.pure (sign t.tx F) ?_
    rintro _ F1 hF1 rfl
    simp only [push_cast, ↓reduceIte, Nat.reduceEqDiff, Nat.reduceAdd, Nat.reduceMul, Nat.reduceSub, Nat.reduceLT, Nat.reduceLeDiff, reduceCtorEq, Nat.reduceMod, Int.reduceEq, Int.reduceLT, Int.reduceLE, Int.reduceToNat, dite_true]
    refine VC.go 100 ?_
    simp only [push_cast, ↓reduceIte, Nat.reduceEqDiff, Nat.reduceAdd, Nat.reduceMul, Nat.reduceSub, Nat.reduceLT, Nat.reduceLeDiff, reduceCtorEq, Nat.reduceMod, Int.reduceEq, Int.reduceLT, Int.reduceLE, Int.reduceToNat, dite_true]
    exact RetOk.p rfl (by unfold textP; rw [if_neg hn3, if_neg h6, if_pos h5]; rfl)
  by_cases h4 : t.k = 4
  · simp only [push_cast, ↓reduceIte, Nat.reduceEqDiff, Nat.reduceAdd, Nat.reduceMul, Nat.reduceSub, Nat.reduceLT, Nat.reduceLeDiff, reduceCtorEq, Nat.reduceMod, Int.reduceEq, Int.reduceLT, Int.reduceLE, Int.reduceToNat, dite_true, h1, h2, h3, h6, h5, eq_true h4]
    intro b1
    refine CallV.pure (digits t.n hn F) ?_
    rintro _ F1 hF1 rfl
    simp only [push_cast, ↓reduceIte, Nat.reduceEqDiff, Nat.reduceAdd, Nat.reduceMul, Nat.reduceSub, Nat.reduceLT, Nat.reduceLeDiff, reduceCtorEq, Nat.reduceMod, Int.reduceEq, Int.reduceLT, Int.reduceLE, Int.reduceToNat, dite_true]
    exact RetOk.p rfl (by unfold textP; rw [if_neg hn3, if_neg h6, if_neg h5, if_pos h4]; rfl)
  simp only [push_cast, ↓reduceIte, Nat.reduceEqDiff, Nat.reduceAdd, Nat.reduceMul, Nat.reduceSub, Nat.reduceLT, Nat.reduceLeDiff, reduceCtorEq, Nat.reduceMod, Int.reduceEq, Int.reduceLT, Int.reduceLE, Int.reduceToNat, dite_true, h1, h2, h3, h6, h5, h4]
  intro b1
  exact RetOk.p rfl (by unfold textP; rw [if_neg hn3, if_neg h6, if_neg h5, if_neg h4]; rfl)
end Go.Proofs.YtoepmdbicdoieaaDoor.X
