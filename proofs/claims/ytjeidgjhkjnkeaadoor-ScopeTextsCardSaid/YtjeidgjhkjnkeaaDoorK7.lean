/- The document's checker: its walk over expressions. (Written by gen/k7.py.) -/
import Derived.Test.YtjeidgjhkjnkeaaDoorK6
namespace Go.Proofs.YtjeidgjhkjnkeaaDoor.K
open Go Go.Eng Go.Proofs Go.Proofs.YtjeidgjhkjnkeaaDoor.T
set_option linter.unusedSimpArgs false
set_option linter.unusedVariables false
set_option maxRecDepth 100000
set_option maxHeartbeats 8000000
theorem exp_ok (ds : List Dat) (e : Exp) (ih : ∀ e' : Exp, e'.size < e.size → ExpK ds e') : ExpK ds e := by
  intro F b vd vb vin va w1 we wl c inn hX hi hd hb hs
  have hX' := hX
  obtain ⟨pa, ca, pb, cb, pe, ce, pl, cl, rfl, rfl, rfl, rfl⟩ := hX.slices
  have hd' := hd
  obtain ⟨pd, cd, rfl, _, _⟩ := hd.val
  refine OFn.intro (n := 112) (ts := []) Tryd.func38 rfl rfl rfl rfl (by simp) fun B hB => VC.go 100 ?_
  generalize hr : expC ds e inn c = r
  rw [expC_eq] at hr
  obtain ⟨bad, at1, ee1⟩ := c
  cases bad
  case true =>
    obtain rfl : r = ⟨true, at1, ee1⟩ := hr.symm
    simp only [push_cast, ↓reduceIte, Nat.reduceEqDiff, Nat.reduceAdd, Nat.reduceMul, Nat.reduceSub, Nat.reduceLT, Nat.reduceLeDiff, reduceCtorEq, Nat.reduceMod, Int.reduceEq, Int.reduceLT, Int.reduceLE, Int.reduceToNat, dite_true, hb]
    intro bx
    exact chk_ret rfl
  simp only [Bool.false_eq_true, if_false] at hr
  simp only [push_cast, ↓reduceIte, Nat.reduceEqDiff, Nat.reduceAdd, Nat.reduceMul, Nat.reduceSub, Nat.reduceLT, Nat.reduceLeDiff, reduceCtorEq, Nat.reduceMod, Int.reduceEq, Int.reduceLT, Int.reduceLE, Int.reduceToNat, dite_true, hb]
  intro bx
  by_cases g1 : e.kind = 1
  · rw [if_pos g1] at hr
    simp only [push_cast, ↓reduceIte, Nat.reduceEqDiff, Nat.reduceAdd, Nat.reduceMul, Nat.reduceSub, Nat.reduceLT, Nat.reduceLeDiff, reduceCtorEq, Nat.reduceMod, Int.reduceEq, Int.reduceLT, Int.reduceLE, Int.reduceToNat, dite_true, eq_true g1, hb]
    refine CallV.pure (has F _ inn e.name hi) ?_
    rintro _ F2 hF2 rfl
    by_cases t0 : hasB inn e.name = false
    · simp only [push_cast, ↓reduceIte, Nat.reduceEqDiff, Nat.reduceAdd, Nat.reduceMul, Nat.reduceSub, Nat.reduceLT, Nat.reduceLeDiff, reduceCtorEq, Nat.reduceMod, Int.reduceEq, Int.reduceLT, Int.reduceLE, Int.reduceToNat, dite_true, t0, hb]
      refine CallV.own (i := 0) rfl (fail F2 b _ vb (⟨false, at1, ee1⟩) e.at_ 31) ?_
      rintro _ F5 _ hF5 rfl
      by_cases t1 : 8 < e.atoms.length
      · simp only [push_cast, ↓reduceIte, Nat.reduceEqDiff, Nat.reduceAdd, Nat.reduceMul, Nat.reduceSub, Nat.reduceLT, Nat.reduceLeDiff, reduceCtorEq, Nat.reduceMod, Int.reduceEq, Int.reduceLT, Int.reduceLE, Int.reduceToNat, dite_true, show (8 : Int) < (e.atoms.length : Int) by omega, hb]
        refine CallV.own (i := 0) rfl (fail F5 b _ vb (failC (⟨false, at1, ee1⟩) e.at_ 31) e.at_ 33) ?_
        rintro _ F6 _ hF6 rfl
        simp only [push_cast, ↓reduceIte, Nat.reduceEqDiff, Nat.reduceAdd, Nat.reduceMul, Nat.reduceSub, Nat.reduceLT, Nat.reduceLeDiff, reduceCtorEq, Nat.reduceMod, Int.reduceEq, Int.reduceLT, Int.reduceLE, Int.reduceToNat, dite_true, hb]
        refine CallV.own (i := 0) rfl (atomsF F6 b _ vb _ _ _ _ _ (failC (failC (⟨false, at1, ee1⟩) e.at_ 31) e.at_ 33) e inn (hX'.mono (PH.le_trans (PH.le_trans (hF2) hF5) hF6)) (hi.mono (PH.le_trans (PH.le_trans (hF2) hF5) hF6)) rfl hb) ?_
        rintro _ Fz _ hFz rfl
        simp only [push_cast, ↓reduceIte, Nat.reduceEqDiff, Nat.reduceAdd, Nat.reduceMul, Nat.reduceSub, Nat.reduceLT, Nat.reduceLeDiff, reduceCtorEq, Nat.reduceMod, Int.reduceEq, Int.reduceLT, Int.reduceLE, Int.reduceToNat, dite_true]
        have e9 : r = atomsC e.at_ inn e.atoms (failC (failC (⟨false, at1, ee1⟩) e.at_ 31) e.at_ 33) := by rw [← hr]; simp only [whenC]; rw [if_pos t1, if_pos t0]
        subst e9
        exact chk_ret rfl
      · simp only [push_cast, ↓reduceIte, Nat.reduceEqDiff, Nat.reduceAdd, Nat.reduceMul, Nat.reduceSub, Nat.reduceLT, Nat.reduceLeDiff, reduceCtorEq, Nat.reduceMod, Int.reduceEq, Int.reduceLT, Int.reduceLE, Int.reduceToNat, dite_true, show ¬ (8 : Int) < (e.atoms.length : Int) by omega, hb]
        refine CallV.own (i := 0) rfl (atomsF F5 b _ vb _ _ _ _ _ (failC (⟨false, at1, ee1⟩) e.at_ 31) e inn (hX'.mono (PH.le_trans (hF2) hF5)) (hi.mono (PH.le_trans (hF2) hF5)) rfl hb) ?_
        rintro _ Fz _ hFz rfl
        simp only [push_cast, ↓reduceIte, Nat.reduceEqDiff, Nat.reduceAdd, Nat.reduceMul, Nat.reduceSub, Nat.reduceLT, Nat.reduceLeDiff, reduceCtorEq, Nat.reduceMod, Int.reduceEq, Int.reduceLT, Int.reduceLE, Int.reduceToNat, dite_true]
        have e9 : r = atomsC e.at_ inn e.atoms (failC (⟨false, at1, ee1⟩) e.at_ 31) := by rw [← hr]; simp only [whenC]; rw [if_neg t1, if_pos t0]
        subst e9
        exact chk_ret rfl
    · simp only [push_cast, ↓reduceIte, Nat.reduceEqDiff, Nat.reduceAdd, Nat.reduceMul, Nat.reduceSub, Nat.reduceLT, Nat.reduceLeDiff, reduceCtorEq, Nat.reduceMod, Int.reduceEq, Int.reduceLT, Int.reduceLE, Int.reduceToNat, dite_true, eq_true_of_ne_false t0, hb]
      by_cases t1 : 8 < e.atoms.length
      · simp only [push_cast, ↓reduceIte, Nat.reduceEqDiff, Nat.reduceAdd, Nat.reduceMul, Nat.reduceSub, Nat.reduceLT, Nat.reduceLeDiff, reduceCtorEq, Nat.reduceMod, Int.reduceEq, Int.reduceLT, Int.reduceLE, Int.reduceToNat, dite_true, show (8 : Int) < (e.atoms.length : Int) by omega, hb]
        refine CallV.own (i := 0) rfl (fail F2 b _ vb (⟨false, at1, ee1⟩) e.at_ 33) ?_
        rintro _ F6 _ hF6 rfl
        simp only [push_cast, ↓reduceIte, Nat.reduceEqDiff, Nat.reduceAdd, Nat.reduceMul, Nat.reduceSub, Nat.reduceLT, Nat.reduceLeDiff, reduceCtorEq, Nat.reduceMod, Int.reduceEq, Int.reduceLT, Int.reduceLE, Int.reduceToNat, dite_true, hb]
        refine CallV.own (i := 0) rfl (atomsF F6 b _ vb _ _ _ _ _ (failC (⟨false, at1, ee1⟩) e.at_ 33) e inn (hX'.mono (PH.le_trans (hF2) hF6)) (hi.mono (PH.le_trans (hF2) hF6)) rfl hb) ?_
        rintro _ Fz _ hFz rfl
        simp only [push_cast, ↓reduceIte, Nat.reduceEqDiff, Nat.reduceAdd, Nat.reduceMul, Nat.reduceSub, Nat.reduceLT, Nat.reduceLeDiff, reduceCtorEq, Nat.reduceMod, Int.reduceEq, Int.reduceLT, Int.reduceLE, Int.reduceToNat, dite_true]
        have e9 : r = atomsC e.at_ inn e.atoms (failC (⟨false, at1, ee1⟩) e.at_ 33) := by rw [← hr]; simp only [whenC]; rw [if_pos t1, if_neg t0]
        subst e9
        exact chk_ret rfl
      · simp only [push_cast, ↓reduceIte, Nat.reduceEqDiff, Nat.reduceAdd, Nat.reduceMul, Nat.reduceSub, Nat.reduceLT, Nat.reduceLeDiff, reduceCtorEq, Nat.reduceMod, Int.reduceEq, Int.reduceLT, Int.reduceLE, Int.reduceToNat, dite_true, show ¬ (8 : Int) < (e.atoms.length : Int) by omega, hb]
        refine CallV.own (i := 0) rfl (atomsF F2 b _ vb _ _ _ _ _ (⟨false, at1, ee1⟩) e inn (hX'.mono (hF2)) (hi.mono (hF2)) rfl hb) ?_
        rintro _ Fz _ hFz rfl
        simp only [push_cast, ↓reduceIte, Nat.reduceEqDiff, Nat.reduceAdd, Nat.reduceMul, Nat.reduceSub, Nat.reduceLT, Nat.reduceLeDiff, reduceCtorEq, Nat.reduceMod, Int.reduceEq, Int.reduceLT, Int.reduceLE, Int.reduceToNat, dite_true]
        have e9 : r = atomsC e.at_ inn e.atoms (⟨false, at1, ee1⟩) := by rw [← hr]; simp only [whenC]; rw [if_neg t1, if_neg t0]
        subst e9
        exact chk_ret rfl
  rw [if_neg g1] at hr
  by_cases g2 : e.kind = 2
  · rw [if_pos g2] at hr
    simp only [push_cast, ↓reduceIte, Nat.reduceEqDiff, Nat.reduceAdd, Nat.reduceMul, Nat.reduceSub, Nat.reduceLT, Nat.reduceLeDiff, reduceCtorEq, Nat.reduceMod, Int.reduceEq, Int.reduceLT, Int.reduceLE, Int.reduceToNat, dite_true, g1, eq_true g2, hb]
    refine VC.draw (.q 0 (.q 1 (.q 2 (.q 3 (.q 4 (.q 5 (.e 6 (.q 7 (.q 8 (.q 9 (.q 10 (.q 11 (.done))))))))))))) mixed (by rfl) ?_
    simp only [push_cast, ↓reduceIte, Nat.reduceEqDiff, Nat.reduceAdd, Nat.reduceMul, Nat.reduceSub, Nat.reduceLT, Nat.reduceLeDiff, reduceCtorEq, Nat.reduceMod, Int.reduceEq, Int.reduceLT, Int.reduceLE, Int.reduceToNat, dite_true, hb]
    refine CallV.pure (arity F _ vb ds e.name hd' hb) ?_
    rintro _ F2 hF2 rfl
    simp only [push_cast, ↓reduceIte, Nat.reduceEqDiff, Nat.reduceAdd, Nat.reduceMul, Nat.reduceSub, Nat.reduceLT, Nat.reduceLeDiff, reduceCtorEq, Nat.reduceMod, Int.reduceEq, Int.reduceLT, Int.reduceLE, Int.reduceToNat, dite_true]
    refine VC.go 100 ?_
    by_cases t0 : (arityD ds e.name).isSome = false
    · simp only [push_cast, ↓reduceIte, Nat.reduceEqDiff, Nat.reduceAdd, Nat.reduceMul, Nat.reduceSub, Nat.reduceLT, Nat.reduceLeDiff, reduceCtorEq, Nat.reduceMod, Int.reduceEq, Int.reduceLT, Int.reduceLE, Int.reduceToNat, dite_true, t0, hb]
      refine CallV.own (i := 0) rfl (fail F2 b _ vb (⟨false, at1, ee1⟩) e.at_ 32) ?_
      rintro _ F5 _ hF5 rfl
      by_cases t1 : ¬ (e.atoms.length : Int) = (arityD ds e.name).getD 0
      · simp only [push_cast, ↓reduceIte, Nat.reduceEqDiff, Nat.reduceAdd, Nat.reduceMul, Nat.reduceSub, Nat.reduceLT, Nat.reduceLeDiff, reduceCtorEq, Nat.reduceMod, Int.reduceEq, Int.reduceLT, Int.reduceLE, Int.reduceToNat, dite_true, t1, hb]
        refine CallV.own (i := 0) rfl (fail F5 b _ vb (failC (⟨false, at1, ee1⟩) e.at_ 32) e.at_ 33) ?_
        rintro _ F6 _ hF6 rfl
        simp only [push_cast, ↓reduceIte, Nat.reduceEqDiff, Nat.reduceAdd, Nat.reduceMul, Nat.reduceSub, Nat.reduceLT, Nat.reduceLeDiff, reduceCtorEq, Nat.reduceMod, Int.reduceEq, Int.reduceLT, Int.reduceLE, Int.reduceToNat, dite_true, hb]
        refine CallV.own (i := 0) rfl (atomsF F6 b _ vb _ _ _ _ _ (failC (failC (⟨false, at1, ee1⟩) e.at_ 32) e.at_ 33) e inn (hX'.mono (PH.le_trans (PH.le_trans (hF2) hF5) hF6)) (hi.mono (PH.le_trans (PH.le_trans (hF2) hF5) hF6)) rfl hb) ?_
        rintro _ Fz _ hFz rfl
        simp only [push_cast, ↓reduceIte, Nat.reduceEqDiff, Nat.reduceAdd, Nat.reduceMul, Nat.reduceSub, Nat.reduceLT, Nat.reduceLeDiff, reduceCtorEq, Nat.reduceMod, Int.reduceEq, Int.reduceLT, Int.reduceLE, Int.reduceToNat, dite_true]
        have e9 : r = atomsC e.at_ inn e.atoms (failC (failC (⟨false, at1, ee1⟩) e.at_ 32) e.at_ 33) := by rw [← hr]; simp only [whenC]; rw [if_pos t1, if_pos t0]
        subst e9
        exact chk_ret rfl
      · simp only [push_cast, ↓reduceIte, Nat.reduceEqDiff, Nat.reduceAdd, Nat.reduceMul, Nat.reduceSub, Nat.reduceLT, Nat.reduceLeDiff, reduceCtorEq, Nat.reduceMod, Int.reduceEq, Int.reduceLT, Int.reduceLE, Int.reduceToNat, dite_true, eq_true (Decidable.not_not.1 t1), hb]
        refine CallV.own (i := 0) rfl (atomsF F5 b _ vb _ _ _ _ _ (failC (⟨false, at1, ee1⟩) e.at_ 32) e inn (hX'.mono (PH.le_trans (hF2) hF5)) (hi.mono (PH.le_trans (hF2) hF5)) rfl hb) ?_
        rintro _ Fz _ hFz rfl
        simp only [push_cast, ↓reduceIte, Nat.reduceEqDiff, Nat.reduceAdd, Nat.reduceMul, Nat.reduceSub, Nat.reduceLT, Nat.reduceLeDiff, reduceCtorEq, Nat.reduceMod, Int.reduceEq, Int.reduceLT, Int.reduceLE, Int.reduceToNat, dite_true]
        have e9 : r = atomsC e.at_ inn e.atoms (failC (⟨false, at1, ee1⟩) e.at_ 32) := by rw [← hr]; simp only [whenC]; rw [if_neg t1, if_pos t0]
        subst e9
        exact chk_ret rfl
    · simp only [push_cast, ↓reduceIte, Nat.reduceEqDiff, Nat.reduceAdd, Nat.reduceMul, Nat.reduceSub, Nat.reduceLT, Nat.reduceLeDiff, reduceCtorEq, Nat.reduceMod, Int.reduceEq, Int.reduceLT, Int.reduceLE, Int.reduceToNat, dite_true, eq_true_of_ne_false t0, hb]
      by_cases t1 : ¬ (e.atoms.length : Int) = (arityD ds e.name).getD 0
      · simp only [push_cast, ↓reduceIte, Nat.reduceEqDiff, Nat.reduceAdd, Nat.reduceMul, Nat.reduceSub, Nat.reduceLT, Nat.reduceLeDiff, reduceCtorEq, Nat.reduceMod, Int.reduceEq, Int.reduceLT, Int.reduceLE, Int.reduceToNat, dite_true, t1, hb]
        refine CallV.own (i := 0) rfl (fail F2 b _ vb (⟨false, at1, ee1⟩) e.at_ 33) ?_
        rintro _ F6 _ hF6 rfl
        simp only [push_cast, ↓reduceIte, Nat.reduceEqDiff, Nat.reduceAdd, Nat.reduceMul, Nat.reduceSub, Nat.reduceLT, Nat.reduceLeDiff, reduceCtorEq, Nat.reduceMod, Int.reduceEq, Int.reduceLT, Int.reduceLE, Int.reduceToNat, dite_true, hb]
        refine CallV.own (i := 0) rfl (atomsF F6 b _ vb _ _ _ _ _ (failC (⟨false, at1, ee1⟩) e.at_ 33) e inn (hX'.mono (PH.le_trans (hF2) hF6)) (hi.mono (PH.le_trans (hF2) hF6)) rfl hb) ?_
        rintro _ Fz _ hFz rfl
        simp only [push_cast, ↓reduceIte, Nat.reduceEqDiff, Nat.reduceAdd, Nat.reduceMul, Nat.reduceSub, Nat.reduceLT, Nat.reduceLeDiff, reduceCtorEq, Nat.reduceMod, Int.reduceEq, Int.reduceLT, Int.reduceLE, Int.reduceToNat, dite_true]
        have e9 : r = atomsC e.at_ inn e.atoms (failC (⟨false, at1, ee1⟩) e.at_ 33) := by rw [← hr]; simp only [whenC]; rw [if_pos t1, if_neg t0]
        subst e9
        exact chk_ret rfl
      · simp only [push_cast, ↓reduceIte, Nat.reduceEqDiff, Nat.reduceAdd, Nat.reduceMul, Nat.reduceSub, Nat.reduceLT, Nat.reduceLeDiff, reduceCtorEq, Nat.reduceMod, Int.reduceEq, Int.reduceLT, Int.reduceLE, Int.reduceToNat, dite_true, eq_true (Decidable.not_not.1 t1), hb]
        refine CallV.own (i := 0) rfl (atomsF F2 b _ vb _ _ _ _ _ (⟨false, at1, ee1⟩) e inn (hX'.mono (hF2)) (hi.mono (hF2)) rfl hb) ?_
        rintro _ Fz _ hFz rfl
        simp only [push_cast, ↓reduceIte, Nat.reduceEqDiff, Nat.reduceAdd, Nat.reduceMul, Nat.reduceSub, Nat.reduceLT, Nat.reduceLeDiff, reduceCtorEq, Nat.reduceMod, Int.reduceEq, Int.reduceLT, Int.reduceLE, Int.reduceToNat, dite_true]
        have e9 : r = atomsC e.at_ inn e.atoms (⟨false, at1, ee1⟩) := by rw [← hr]; simp only [whenC]; rw [if_neg t1, if_neg t0]
        subst e9
        exact chk_ret rfl
  rw [if_neg g2] at hr
  by_cases g3 : e.kind = 3
  · rw [if_pos g3] at hr
    simp only [push_cast, ↓reduceIte, Nat.reduceEqDiff, Nat.reduceAdd, Nat.reduceMul, Nat.reduceSub, Nat.reduceLT, Nat.reduceLeDiff, reduceCtorEq, Nat.reduceMod, Int.reduceEq, Int.reduceLT, Int.reduceLE, Int.reduceToNat, dite_true, g1, g2, eq_true g3, hb]
    refine CallV.pure (find F e.name) ?_
    rintro _ F2 hF2 rfl
    by_cases t0 : findP e.name = 0
    · simp only [push_cast, ↓reduceIte, Nat.reduceEqDiff, Nat.reduceAdd, Nat.reduceMul, Nat.reduceSub, Nat.reduceLT, Nat.reduceLeDiff, reduceCtorEq, Nat.reduceMod, Int.reduceEq, Int.reduceLT, Int.reduceLE, Int.reduceToNat, dite_true, eq_true t0, hb]
      refine CallV.own (i := 0) rfl (fail F2 b _ vb (⟨false, at1, ee1⟩) e.at_ 34) ?_
      rintro _ F5 _ hF5 rfl
      simp only [push_cast, ↓reduceIte, Nat.reduceEqDiff, Nat.reduceAdd, Nat.reduceMul, Nat.reduceSub, Nat.reduceLT, Nat.reduceLeDiff, reduceCtorEq, Nat.reduceMod, Int.reduceEq, Int.reduceLT, Int.reduceLE, Int.reduceToNat, dite_true, hb]
      refine VC.draw (.q 0 (.q 1 (.q 2 (.q 3 (.e 4 (.q 5 (.done))))))) mixed (by rfl) ?_
      simp only [push_cast, ↓reduceIte, Nat.reduceEqDiff, Nat.reduceAdd, Nat.reduceMul, Nat.reduceSub, Nat.reduceLT, Nat.reduceLeDiff, reduceCtorEq, Nat.reduceMod, Int.reduceEq, Int.reduceLT, Int.reduceLE, Int.reduceToNat, dite_true, hb]
      refine CallV.pure (arity8 F5 (findP e.name)) ?_
      rintro _ Fm hFm rfl
      simp only [push_cast, ↓reduceIte, Nat.reduceEqDiff, Nat.reduceAdd, Nat.reduceMul, Nat.reduceSub, Nat.reduceLT, Nat.reduceLeDiff, reduceCtorEq, Nat.reduceMod, Int.reduceEq, Int.reduceLT, Int.reduceLE, Int.reduceToNat, dite_true]
      refine VC.go 100 ?_
      by_cases t1 : ¬ (e.atoms.length : Int) = arityP (findP e.name)
      · simp only [push_cast, ↓reduceIte, Nat.reduceEqDiff, Nat.reduceAdd, Nat.reduceMul, Nat.reduceSub, Nat.reduceLT, Nat.reduceLeDiff, reduceCtorEq, Nat.reduceMod, Int.reduceEq, Int.reduceLT, Int.reduceLE, Int.reduceToNat, dite_true, t1, hb]
        refine CallV.own (i := 0) rfl (fail Fm b _ vb (failC (⟨false, at1, ee1⟩) e.at_ 34) e.at_ 33) ?_
        rintro _ F6 _ hF6 rfl
        simp only [push_cast, ↓reduceIte, Nat.reduceEqDiff, Nat.reduceAdd, Nat.reduceMul, Nat.reduceSub, Nat.reduceLT, Nat.reduceLeDiff, reduceCtorEq, Nat.reduceMod, Int.reduceEq, Int.reduceLT, Int.reduceLE, Int.reduceToNat, dite_true, hb]
        refine CallV.own (i := 0) rfl (atomsF F6 b _ vb _ _ _ _ _ (failC (failC (⟨false, at1, ee1⟩) e.at_ 34) e.at_ 33) e inn (hX'.mono (PH.le_trans (PH.le_trans (PH.le_trans (hF2) hF5) hFm) hF6)) (hi.mono (PH.le_trans (PH.le_trans (PH.le_trans (hF2) hF5) hFm) hF6)) rfl hb) ?_
        rintro _ Fz _ hFz rfl
        simp only [push_cast, ↓reduceIte, Nat.reduceEqDiff, Nat.reduceAdd, Nat.reduceMul, Nat.reduceSub, Nat.reduceLT, Nat.reduceLeDiff, reduceCtorEq, Nat.reduceMod, Int.reduceEq, Int.reduceLT, Int.reduceLE, Int.reduceToNat, dite_true]
        have e9 : r = atomsC e.at_ inn e.atoms (failC (failC (⟨false, at1, ee1⟩) e.at_ 34) e.at_ 33) := by rw [← hr]; simp only [whenC]; rw [if_pos t1, if_pos t0]
        subst e9
        exact chk_ret rfl
      · simp only [push_cast, ↓reduceIte, Nat.reduceEqDiff, Nat.reduceAdd, Nat.reduceMul, Nat.reduceSub, Nat.reduceLT, Nat.reduceLeDiff, reduceCtorEq, Nat.reduceMod, Int.reduceEq, Int.reduceLT, Int.reduceLE, Int.reduceToNat, dite_true, eq_true (Decidable.not_not.1 t1), hb]
        refine CallV.own (i := 0) rfl (atomsF Fm b _ vb _ _ _ _ _ (failC (⟨false, at1, ee1⟩) e.at_ 34) e inn (hX'.mono (PH.le_trans (PH.le_trans (hF2) hF5) hFm)) (hi.mono (PH.le_trans (PH.le_trans (hF2) hF5) hFm)) rfl hb) ?_
        rintro _ Fz _ hFz rfl
        simp only [push_cast, ↓reduceIte, Nat.reduceEqDiff, Nat.reduceAdd, Nat.reduceMul, Nat.reduceSub, Nat.reduceLT, Nat.reduceLeDiff, reduceCtorEq, Nat.reduceMod, Int.reduceEq, Int.reduceLT, Int.reduceLE, Int.reduceToNat, dite_true]
        have e9 : r = atomsC e.at_ inn e.atoms (failC (⟨false, at1, ee1⟩) e.at_ 34) := by rw [← hr]; simp only [whenC]; rw [if_neg t1, if_pos t0]
        subst e9
        exact chk_ret rfl
    · simp only [push_cast, ↓reduceIte, Nat.reduceEqDiff, Nat.reduceAdd, Nat.reduceMul, Nat.reduceSub, Nat.reduceLT, Nat.reduceLeDiff, reduceCtorEq, Nat.reduceMod, Int.reduceEq, Int.reduceLT, Int.reduceLE, Int.reduceToNat, dite_true, t0, hb]
      refine VC.draw (.q 0 (.q 1 (.q 2 (.q 3 (.e 4 (.q 5 (.done))))))) mixed (by rfl) ?_
      simp only [push_cast, ↓reduceIte, Nat.reduceEqDiff, Nat.reduceAdd, Nat.reduceMul, Nat.reduceSub, Nat.reduceLT, Nat.reduceLeDiff, reduceCtorEq, Nat.reduceMod, Int.reduceEq, Int.reduceLT, Int.reduceLE, Int.reduceToNat, dite_true, hb]
      refine CallV.pure (arity8 F2 (findP e.name)) ?_
      rintro _ Fm hFm rfl
      simp only [push_cast, ↓reduceIte, Nat.reduceEqDiff, Nat.reduceAdd, Nat.reduceMul, Nat.reduceSub, Nat.reduceLT, Nat.reduceLeDiff, reduceCtorEq, Nat.reduceMod, Int.reduceEq, Int.reduceLT, Int.reduceLE, Int.reduceToNat, dite_true]
      refine VC.go 100 ?_
      by_cases t1 : ¬ (e.atoms.length : Int) = arityP (findP e.name)
      · simp only [push_cast, ↓reduceIte, Nat.reduceEqDiff, Nat.reduceAdd, Nat.reduceMul, Nat.reduceSub, Nat.reduceLT, Nat.reduceLeDiff, reduceCtorEq, Nat.reduceMod, Int.reduceEq, Int.reduceLT, Int.reduceLE, Int.reduceToNat, dite_true, t1, hb]
        refine CallV.own (i := 0) rfl (fail Fm b _ vb (⟨false, at1, ee1⟩) e.at_ 33) ?_
        rintro _ F6 _ hF6 rfl
        simp only [push_cast, ↓reduceIte, Nat.reduceEqDiff, Nat.reduceAdd, Nat.reduceMul, Nat.reduceSub, Nat.reduceLT, Nat.reduceLeDiff, reduceCtorEq, Nat.reduceMod, Int.reduceEq, Int.reduceLT, Int.reduceLE, Int.reduceToNat, dite_true, hb]
        refine CallV.own (i := 0) rfl (atomsF F6 b _ vb _ _ _ _ _ (failC (⟨false, at1, ee1⟩) e.at_ 33) e inn (hX'.mono (PH.le_trans (PH.le_trans (hF2) hFm) hF6)) (hi.mono (PH.le_trans (PH.le_trans (hF2) hFm) hF6)) rfl hb) ?_
        rintro _ Fz _ hFz rfl
        simp only [push_cast, ↓reduceIte, Nat.reduceEqDiff, Nat.reduceAdd, Nat.reduceMul, Nat.reduceSub, Nat.reduceLT, Nat.reduceLeDiff, reduceCtorEq, Nat.reduceMod, Int.reduceEq, Int.reduceLT, Int.reduceLE, Int.reduceToNat, dite_true]
        have e9 : r = atomsC e.at_ inn e.atoms (failC (⟨false, at1, ee1⟩) e.at_ 33) := by rw [← hr]; simp only [whenC]; rw [if_pos t1, if_neg t0]
        subst e9
        exact chk_ret rfl
      · simp only [push_cast, ↓reduceIte, Nat.reduceEqDiff, Nat.reduceAdd, Nat.reduceMul, Nat.reduceSub, Nat.reduceLT, Nat.reduceLeDiff, reduceCtorEq, Nat.reduceMod, Int.reduceEq, Int.reduceLT, Int.reduceLE, Int.reduceToNat, dite_true, eq_true (Decidable.not_not.1 t1), hb]
        refine CallV.own (i := 0) rfl (atomsF Fm b _ vb _ _ _ _ _ (⟨false, at1, ee1⟩) e inn (hX'.mono (PH.le_trans (hF2) hFm)) (hi.mono (PH.le_trans (hF2) hFm)) rfl hb) ?_
        rintro _ Fz _ hFz rfl
        simp only [push_cast, ↓reduceIte, Nat.reduceEqDiff, Nat.reduceAdd, Nat.reduceMul, Nat.reduceSub, Nat.reduceLT, Nat.reduceLeDiff, reduceCtorEq, Nat.reduceMod, Int.reduceEq, Int.reduceLT, Int.reduceLE, Int.reduceToNat, dite_true]
        have e9 : r = atomsC e.at_ inn e.atoms (⟨false, at1, ee1⟩) := by rw [← hr]; simp only [whenC]; rw [if_neg t1, if_neg t0]
        subst e9
        exact chk_ret rfl
  rw [if_neg g3] at hr
  by_cases g4 : e.kind = 4
  · rw [if_pos g4] at hr
    simp only [push_cast, ↓reduceIte, Nat.reduceEqDiff, Nat.reduceAdd, Nat.reduceMul, Nat.reduceSub, Nat.reduceLT, Nat.reduceLeDiff, reduceCtorEq, Nat.reduceMod, Int.reduceEq, Int.reduceLT, Int.reduceLE, Int.reduceToNat, dite_true, g1, g2, g3, eq_true g4, hb]
    subst hr
    exact chk_ret rfl
  rw [if_neg g4] at hr
  by_cases g5 : e.kind = 5
  · rw [if_pos g5] at hr
    simp only [push_cast, ↓reduceIte, Nat.reduceEqDiff, Nat.reduceAdd, Nat.reduceMul, Nat.reduceSub, Nat.reduceLT, Nat.reduceLeDiff, reduceCtorEq, Nat.reduceMod, Int.reduceEq, Int.reduceLT, Int.reduceLE, Int.reduceToNat, dite_true, g1, g2, g3, g4, eq_true g5, hb]
    refine CallV.own (i := 0) rfl (letF ds e ih F b _ vb _ _ _ _ _ ⟨false, at1, ee1⟩ inn hX' hi hd' hb hs) ?_
    rintro _ Fz _ hFz rfl
    simp only [push_cast, ↓reduceIte, Nat.reduceEqDiff, Nat.reduceAdd, Nat.reduceMul, Nat.reduceSub, Nat.reduceLT, Nat.reduceLeDiff, reduceCtorEq, Nat.reduceMod, Int.reduceEq, Int.reduceLT, Int.reduceLE, Int.reduceToNat, dite_true]
    have e9 : r = letC ds e inn ⟨false, at1, ee1⟩ := hr.symm
    subst e9
    exact chk_ret rfl
  rw [if_neg g5] at hr
  by_cases g6 : e.kind = 6
  · rw [if_pos g6] at hr
    simp only [push_cast, ↓reduceIte, Nat.reduceEqDiff, Nat.reduceAdd, Nat.reduceMul, Nat.reduceSub, Nat.reduceLT, Nat.reduceLeDiff, reduceCtorEq, Nat.reduceMod, Int.reduceEq, Int.reduceLT, Int.reduceLE, Int.reduceToNat, dite_true, g1, g2, g3, g4, g5, eq_true g6, hb]
    refine CallV.own (i := 0) rfl (casesF ds e ih F b _ vb _ _ _ _ _ ⟨false, at1, ee1⟩ inn hX' hi hd' hb hs) ?_
    rintro _ Fz _ hFz rfl
    simp only [push_cast, ↓reduceIte, Nat.reduceEqDiff, Nat.reduceAdd, Nat.reduceMul, Nat.reduceSub, Nat.reduceLT, Nat.reduceLeDiff, reduceCtorEq, Nat.reduceMod, Int.reduceEq, Int.reduceLT, Int.reduceLE, Int.reduceToNat, dite_true]
    have e9 : r = casesC ds e inn ⟨false, at1, ee1⟩ := hr.symm
    subst e9
    exact chk_ret rfl
  rw [if_neg g6] at hr
  simp only [push_cast, ↓reduceIte, Nat.reduceEqDiff, Nat.reduceAdd, Nat.reduceMul, Nat.reduceSub, Nat.reduceLT, Nat.reduceLeDiff, reduceCtorEq, Nat.reduceMod, Int.reduceEq, Int.reduceLT, Int.reduceLE, Int.reduceToNat, dite_true, g1, g2, g3, g4, g5, g6, hb]
  refine CallV.own (i := 0) rfl (fail F b _ vb ⟨false, at1, ee1⟩ e.at_ 2) ?_
  rintro _ Fz _ hFz rfl
  simp only [push_cast, ↓reduceIte, Nat.reduceEqDiff, Nat.reduceAdd, Nat.reduceMul, Nat.reduceSub, Nat.reduceLT, Nat.reduceLeDiff, reduceCtorEq, Nat.reduceMod, Int.reduceEq, Int.reduceLT, Int.reduceLE, Int.reduceToNat, dite_true]
  subst hr
  exact chk_ret rfl
theorem exp_all (ds : List Dat) (n : Nat) : ∀ e : Exp, e.size = n → ExpK ds e := by
  induction n using Nat.strongRecOn with
  | _ n ih =>
    intro e he
    exact exp_ok ds e fun e' h => ih e'.size (by omega) e' rfl
end Go.Proofs.YtjeidgjhkjnkeaaDoor.K
