/- Package scope: expressions. (Written by gen/p6.py.) -/
import Derived.Test.YtjeidgjhkjnkeaaDoorP6
import Derived.Test.YtjeidgjhkjnkeaaDoorK7
namespace Go.Proofs.YtjeidgjhkjnkeaaDoor.P
open Go Go.Eng Go.Proofs Go.Proofs.YtjeidgjhkjnkeaaDoor.T Go.Proofs.YtjeidgjhkjnkeaaDoor.K
set_option linter.unusedSimpArgs false
set_option linter.unusedVariables false
set_option maxRecDepth 100000
set_option maxHeartbeats 8000000
theorem whenC_congr {p q : Prop} [Decidable p] [Decidable q] {c : Ck} {a e : Int} (h : p ↔ q) : whenC p c a e = whenC q c a e := by
  unfold whenC
  by_cases hp : p
  · rw [if_pos hp, if_pos (h.1 hp)]
  · rw [if_neg hp, if_neg (fun hq => hp (h.2 hq))]
theorem exp_ok (ds : List Dat) (hds : ∀ d ∈ ds, d.arity ≤ 8) (e : Exp) (ih : ∀ e' : Exp, e'.size < e.size → ExpS ds e') : ExpS ds e := by
  intro F b mb v vs va w1 we wl c inn hr hX hs hd hT hsz
  have hX' := hX
  obtain ⟨pa, ca, pb, cb, pe, ce, pl, cl, rfl, rfl, rfl, rfl⟩ := hX.slices
  generalize hres : expC ds e inn c = res
  rw [expC_eq] at hres
  rcases hr with ⟨rfl, rfl⟩ | ⟨a', e', b', rfl, rfl, hb'⟩
  case inr =>
    refine OFn.intro (n := 92) (ts := []) Tryd.func36 rfl rfl rfl rfl (by simp) fun B hB => VC.go 100 ?_
    obtain rfl : res = ⟨true, a', e'⟩ := hres.symm
    simp only [push_cast, ↓reduceIte, Nat.reduceEqDiff, Nat.reduceAdd, Nat.reduceMul, Nat.reduceSub, Nat.reduceLT, Nat.reduceLeDiff, reduceCtorEq, Nat.reduceMod, Int.reduceEq, Int.reduceLT, Int.reduceLE, Int.reduceToNat, dite_true, Option.isNone_some]
    intro bx
    exact sret rfl (.inr ⟨a', e', b', rfl, rfl, hb'⟩)
  have hone : (Value.pointer none).oneCell' = true := rfl
  simp only [Bool.false_eq_true, if_false] at hres
  refine OFn.intro (n := 92) (ts := []) Tryd.func36 rfl rfl rfl rfl (by simp) fun B hB => VC.go 100 ?_
  simp only [push_cast, ↓reduceIte, Nat.reduceEqDiff, Nat.reduceAdd, Nat.reduceMul, Nat.reduceSub, Nat.reduceLT, Nat.reduceLeDiff, reduceCtorEq, Nat.reduceMod, Int.reduceEq, Int.reduceLT, Int.reduceLE, Int.reduceToNat, dite_true, Option.isNone_none]
  intro bx
  by_cases g1 : e.kind = 1
  · rw [if_pos g1] at hres
    simp only [push_cast, ↓reduceIte, Nat.reduceEqDiff, Nat.reduceAdd, Nat.reduceMul, Nat.reduceSub, Nat.reduceLT, Nat.reduceLeDiff, reduceCtorEq, Nat.reduceMod, Int.reduceEq, Int.reduceLT, Int.reduceLE, Int.reduceToNat, dite_true, eq_true g1, hone]
    refine CallV.pure (hasL F vs inn e.name hs) ?_
    rintro _ F2 hF2 rfl
    by_cases t0 : hasB inn e.name = false
    · simp only [push_cast, ↓reduceIte, Nat.reduceEqDiff, Nat.reduceAdd, Nat.reduceMul, Nat.reduceSub, Nat.reduceLT, Nat.reduceLeDiff, reduceCtorEq, Nat.reduceMod, Int.reduceEq, Int.reduceLT, Int.reduceLE, Int.reduceToNat, dite_true, t0, hone]
      refine CallV.own (i := 0) rfl (fail F2 b mb _ ⟨false, 0, 0⟩ e.at_ 31 (.inl ⟨rfl, rfl⟩)) ?_
      rintro _ F5 _ hF5 ⟨v5, rfl, hr5⟩
      have hone5 := hr5.one
      simp only [push_cast, ↓reduceIte, Nat.reduceEqDiff, Nat.reduceAdd, Nat.reduceMul, Nat.reduceSub, Nat.reduceLT, Nat.reduceLeDiff, reduceCtorEq, Nat.reduceMod, Int.reduceEq, Int.reduceLT, Int.reduceLE, Int.reduceToNat, dite_true, hone5]
      refine CallV.own (i := 0) rfl (atoms F5 b mb v5 vs _ _ _ _ (failC ⟨false, 0, 0⟩ e.at_ 31) e inn 0 8 (hr5) (hX'.mono (PH.le_trans (hF2) hF5)) (hs.mono (PH.le_trans (hF2) hF5))) ?_
      rintro _ Fz _ hFz ⟨vz, rfl, hrz⟩
      simp only [push_cast, ↓reduceIte, Nat.reduceEqDiff, Nat.reduceAdd, Nat.reduceMul, Nat.reduceSub, Nat.reduceLT, Nat.reduceLeDiff, reduceCtorEq, Nat.reduceMod, Int.reduceEq, Int.reduceLT, Int.reduceLE, Int.reduceToNat, dite_true]
      have e9 : res = atomsC e.at_ inn e.atoms (whenC ((e.atoms.length : Int) < 0 ∨ 8 < (e.atoms.length : Int)) (failC ⟨false, 0, 0⟩ e.at_ 31) e.at_ 33) := by
        rw [← hres, whenC_congr (show 8 < e.atoms.length ↔ ((e.atoms.length : Int) < 0 ∨ 8 < (e.atoms.length : Int)) by omega), show whenC (hasB inn e.name = false) ⟨false, 0, 0⟩ e.at_ 31 = failC ⟨false, 0, 0⟩ e.at_ 31 from if_pos t0]
      rw [← e9] at hrz
      exact sret rfl hrz
    · simp only [push_cast, ↓reduceIte, Nat.reduceEqDiff, Nat.reduceAdd, Nat.reduceMul, Nat.reduceSub, Nat.reduceLT, Nat.reduceLeDiff, reduceCtorEq, Nat.reduceMod, Int.reduceEq, Int.reduceLT, Int.reduceLE, Int.reduceToNat, dite_true, eq_true_of_ne_false t0, hone]
      refine CallV.own (i := 0) rfl (atoms F2 b mb _ vs _ _ _ _ (⟨false, 0, 0⟩) e inn 0 8 (.inl ⟨rfl, rfl⟩) (hX'.mono (hF2)) (hs.mono (hF2))) ?_
      rintro _ Fz _ hFz ⟨vz, rfl, hrz⟩
      simp only [push_cast, ↓reduceIte, Nat.reduceEqDiff, Nat.reduceAdd, Nat.reduceMul, Nat.reduceSub, Nat.reduceLT, Nat.reduceLeDiff, reduceCtorEq, Nat.reduceMod, Int.reduceEq, Int.reduceLT, Int.reduceLE, Int.reduceToNat, dite_true]
      have e9 : res = atomsC e.at_ inn e.atoms (whenC ((e.atoms.length : Int) < 0 ∨ 8 < (e.atoms.length : Int)) (⟨false, 0, 0⟩) e.at_ 33) := by
        rw [← hres, whenC_congr (show 8 < e.atoms.length ↔ ((e.atoms.length : Int) < 0 ∨ 8 < (e.atoms.length : Int)) by omega), show whenC (hasB inn e.name = false) ⟨false, 0, 0⟩ e.at_ 31 = ⟨false, 0, 0⟩ from if_neg t0]
      rw [← e9] at hrz
      exact sret rfl hrz
  rw [if_neg g1] at hres
  by_cases g2 : e.kind = 2
  · rw [if_pos g2] at hres
    simp only [push_cast, ↓reduceIte, Nat.reduceEqDiff, Nat.reduceAdd, Nat.reduceMul, Nat.reduceSub, Nat.reduceLT, Nat.reduceLeDiff, reduceCtorEq, Nat.reduceMod, Int.reduceEq, Int.reduceLT, Int.reduceLE, Int.reduceToNat, dite_true, g1, eq_true g2, hone]
    refine VC.draw (.q 0 (.q 1 (.q 2 (.q 3 (.q 4 (.q 5 (.e 6 (.q 7 (.q 8 (.q 9 (.q 10 (.q 11 (.done))))))))))))) mixed (by rfl) ?_
    simp only [push_cast, ↓reduceIte, Nat.reduceEqDiff, Nat.reduceAdd, Nat.reduceMul, Nat.reduceSub, Nat.reduceLT, Nat.reduceLeDiff, reduceCtorEq, Nat.reduceMod, Int.reduceEq, Int.reduceLT, Int.reduceLE, Int.reduceToNat, dite_true, hone]
    obtain ⟨es, cm, lm, hm1, hm2, hm3⟩ := hd
    refine Eff.lookup keyStr rfl ty52 rfl Tryd.underlying9 ty3 rfl rfl (.inl hm1) hm2 ?_
    rw [hm3]
    have hget : ((arityD ds e.name).map (Value.int .i64)).getD (.int .i64 0) = .int .i64 ((arityD ds e.name).getD 0) := by cases arityD ds e.name <;> rfl
    have hsome : ((arityD ds e.name).map (Value.int .i64)).isSome = (arityD ds e.name).isSome := by cases arityD ds e.name <;> rfl
    simp only [push_cast, ↓reduceIte, Nat.reduceEqDiff, Nat.reduceAdd, Nat.reduceMul, Nat.reduceSub, Nat.reduceLT, Nat.reduceLeDiff, reduceCtorEq, Nat.reduceMod, Int.reduceEq, Int.reduceLT, Int.reduceLE, Int.reduceToNat, dite_true, hget, hsome]
    refine VC.go 100 ?_
    by_cases t0 : (arityD ds e.name).isSome = false
    · simp only [push_cast, ↓reduceIte, Nat.reduceEqDiff, Nat.reduceAdd, Nat.reduceMul, Nat.reduceSub, Nat.reduceLT, Nat.reduceLeDiff, reduceCtorEq, Nat.reduceMod, Int.reduceEq, Int.reduceLT, Int.reduceLE, Int.reduceToNat, dite_true, t0, hone]
      refine CallV.own (i := 0) rfl (fail F b mb _ ⟨false, 0, 0⟩ e.at_ 32 (.inl ⟨rfl, rfl⟩)) ?_
      rintro _ F5 _ hF5 ⟨v5, rfl, hr5⟩
      have hone5 := hr5.one
      simp only [push_cast, ↓reduceIte, Nat.reduceEqDiff, Nat.reduceAdd, Nat.reduceMul, Nat.reduceSub, Nat.reduceLT, Nat.reduceLeDiff, reduceCtorEq, Nat.reduceMod, Int.reduceEq, Int.reduceLT, Int.reduceLE, Int.reduceToNat, dite_true, hone5]
      refine CallV.own (i := 0) rfl (atoms F5 b mb v5 vs _ _ _ _ (failC ⟨false, 0, 0⟩ e.at_ 32) e inn ((arityD ds e.name).getD 0) ((arityD ds e.name).getD 0) (hr5) (hX'.mono (PH.le_trans (PH.le_refl F) hF5)) (hs.mono (PH.le_trans (PH.le_refl F) hF5))) ?_
      rintro _ Fz _ hFz ⟨vz, rfl, hrz⟩
      simp only [push_cast, ↓reduceIte, Nat.reduceEqDiff, Nat.reduceAdd, Nat.reduceMul, Nat.reduceSub, Nat.reduceLT, Nat.reduceLeDiff, reduceCtorEq, Nat.reduceMod, Int.reduceEq, Int.reduceLT, Int.reduceLE, Int.reduceToNat, dite_true]
      have e9 : res = atomsC e.at_ inn e.atoms (whenC ((e.atoms.length : Int) < ((arityD ds e.name).getD 0) ∨ ((arityD ds e.name).getD 0) < (e.atoms.length : Int)) (failC ⟨false, 0, 0⟩ e.at_ 32) e.at_ 33) := by
        rw [← hres, whenC_congr (show (¬ (e.atoms.length : Int) = (arityD ds e.name).getD 0) ↔ ((e.atoms.length : Int) < (arityD ds e.name).getD 0 ∨ (arityD ds e.name).getD 0 < (e.atoms.length : Int)) by omega), show whenC ((arityD ds e.name).isSome = false) ⟨false, 0, 0⟩ e.at_ 32 = failC ⟨false, 0, 0⟩ e.at_ 32 from if_pos t0]
      rw [← e9] at hrz
      exact sret rfl hrz
    · simp only [push_cast, ↓reduceIte, Nat.reduceEqDiff, Nat.reduceAdd, Nat.reduceMul, Nat.reduceSub, Nat.reduceLT, Nat.reduceLeDiff, reduceCtorEq, Nat.reduceMod, Int.reduceEq, Int.reduceLT, Int.reduceLE, Int.reduceToNat, dite_true, eq_true_of_ne_false t0, hone]
      refine CallV.own (i := 0) rfl (atoms F b mb _ vs _ _ _ _ (⟨false, 0, 0⟩) e inn ((arityD ds e.name).getD 0) ((arityD ds e.name).getD 0) (.inl ⟨rfl, rfl⟩) (hX'.mono (PH.le_refl F)) (hs.mono (PH.le_refl F))) ?_
      rintro _ Fz _ hFz ⟨vz, rfl, hrz⟩
      simp only [push_cast, ↓reduceIte, Nat.reduceEqDiff, Nat.reduceAdd, Nat.reduceMul, Nat.reduceSub, Nat.reduceLT, Nat.reduceLeDiff, reduceCtorEq, Nat.reduceMod, Int.reduceEq, Int.reduceLT, Int.reduceLE, Int.reduceToNat, dite_true]
      have e9 : res = atomsC e.at_ inn e.atoms (whenC ((e.atoms.length : Int) < ((arityD ds e.name).getD 0) ∨ ((arityD ds e.name).getD 0) < (e.atoms.length : Int)) (⟨false, 0, 0⟩) e.at_ 33) := by
        rw [← hres, whenC_congr (show (¬ (e.atoms.length : Int) = (arityD ds e.name).getD 0) ↔ ((e.atoms.length : Int) < (arityD ds e.name).getD 0 ∨ (arityD ds e.name).getD 0 < (e.atoms.length : Int)) by omega), show whenC ((arityD ds e.name).isSome = false) ⟨false, 0, 0⟩ e.at_ 32 = ⟨false, 0, 0⟩ from if_neg t0]
      rw [← e9] at hrz
      exact sret rfl hrz
  rw [if_neg g2] at hres
  by_cases g3 : e.kind = 3
  · rw [if_pos g3] at hres
    simp only [push_cast, ↓reduceIte, Nat.reduceEqDiff, Nat.reduceAdd, Nat.reduceMul, Nat.reduceSub, Nat.reduceLT, Nat.reduceLeDiff, reduceCtorEq, Nat.reduceMod, Int.reduceEq, Int.reduceLT, Int.reduceLE, Int.reduceToNat, dite_true, g1, g2, eq_true g3, hone]
    refine CallV.pure (find F e.name hT) ?_
    rintro _ F2 hF2 rfl
    by_cases t0 : findP e.name = 0
    · simp only [push_cast, ↓reduceIte, Nat.reduceEqDiff, Nat.reduceAdd, Nat.reduceMul, Nat.reduceSub, Nat.reduceLT, Nat.reduceLeDiff, reduceCtorEq, Nat.reduceMod, Int.reduceEq, Int.reduceLT, Int.reduceLE, Int.reduceToNat, dite_true, eq_true t0, hone]
      refine CallV.own (i := 0) rfl (fail F2 b mb _ ⟨false, 0, 0⟩ e.at_ 34 (.inl ⟨rfl, rfl⟩)) ?_
      rintro _ F5 _ hF5 ⟨v5, rfl, hr5⟩
      have hone5 := hr5.one
      simp only [push_cast, ↓reduceIte, Nat.reduceEqDiff, Nat.reduceAdd, Nat.reduceMul, Nat.reduceSub, Nat.reduceLT, Nat.reduceLeDiff, reduceCtorEq, Nat.reduceMod, Int.reduceEq, Int.reduceLT, Int.reduceLE, Int.reduceToNat, dite_true, hone5]
      refine VC.draw (.q 0 (.q 1 (.q 2 (.q 3 (.q 5 (.e 4 (.e 6 (.es 7 [0, 1, 2, 3, 5] (.done))))))))) mixed (by rfl) ?_
      simp only [push_cast, ↓reduceIte, Nat.reduceEqDiff, Nat.reduceAdd, Nat.reduceMul, Nat.reduceSub, Nat.reduceLT, Nat.reduceLeDiff, reduceCtorEq, Nat.reduceMod, Int.reduceEq, Int.reduceLT, Int.reduceLE, Int.reduceToNat, dite_true, hone5]
      refine CallV.pure (arityPrim F5 (findP e.name) (hT.mono (PH.le_trans (hF2) hF5))) ?_
      rintro _ Fk hFk rfl
      simp only [push_cast, ↓reduceIte, Nat.reduceEqDiff, Nat.reduceAdd, Nat.reduceMul, Nat.reduceSub, Nat.reduceLT, Nat.reduceLeDiff, reduceCtorEq, Nat.reduceMod, Int.reduceEq, Int.reduceLT, Int.reduceLE, Int.reduceToNat, dite_true, hone5]
      refine CallV.pure (arityPrim Fk (findP e.name) (hT.mono (PH.le_trans (PH.le_trans (hF2) hF5) hFk))) ?_
      rintro _ Fl hFl rfl
      have hFm := PH.le_trans hFk hFl
      simp only [push_cast, ↓reduceIte, Nat.reduceEqDiff, Nat.reduceAdd, Nat.reduceMul, Nat.reduceSub, Nat.reduceLT, Nat.reduceLeDiff, reduceCtorEq, Nat.reduceMod, Int.reduceEq, Int.reduceLT, Int.reduceLE, Int.reduceToNat, dite_true, hone5]
      refine CallV.own (i := 0) rfl (atoms Fl b mb v5 vs _ _ _ _ (failC ⟨false, 0, 0⟩ e.at_ 34) e inn (arityP (findP e.name)) (arityP (findP e.name)) (hr5.mono hFm) (hX'.mono (PH.le_trans (PH.le_trans (hF2) hF5) hFm)) (hs.mono (PH.le_trans (PH.le_trans (hF2) hF5) hFm))) ?_
      rintro _ Fz _ hFz ⟨vz, rfl, hrz⟩
      simp only [push_cast, ↓reduceIte, Nat.reduceEqDiff, Nat.reduceAdd, Nat.reduceMul, Nat.reduceSub, Nat.reduceLT, Nat.reduceLeDiff, reduceCtorEq, Nat.reduceMod, Int.reduceEq, Int.reduceLT, Int.reduceLE, Int.reduceToNat, dite_true]
      refine VC.go 100 ?_
      simp only [push_cast, ↓reduceIte, Nat.reduceEqDiff, Nat.reduceAdd, Nat.reduceMul, Nat.reduceSub, Nat.reduceLT, Nat.reduceLeDiff, reduceCtorEq, Nat.reduceMod, Int.reduceEq, Int.reduceLT, Int.reduceLE, Int.reduceToNat, dite_true]
      have e9 : res = atomsC e.at_ inn e.atoms (whenC ((e.atoms.length : Int) < (arityP (findP e.name)) ∨ (arityP (findP e.name)) < (e.atoms.length : Int)) (failC ⟨false, 0, 0⟩ e.at_ 34) e.at_ 33) := by
        rw [← hres, whenC_congr (show (¬ (e.atoms.length : Int) = arityP (findP e.name)) ↔ ((e.atoms.length : Int) < arityP (findP e.name) ∨ arityP (findP e.name) < (e.atoms.length : Int)) by omega), show whenC (findP e.name = 0) ⟨false, 0, 0⟩ e.at_ 34 = failC ⟨false, 0, 0⟩ e.at_ 34 from if_pos t0]
      rw [← e9] at hrz
      exact sret rfl hrz
    · simp only [push_cast, ↓reduceIte, Nat.reduceEqDiff, Nat.reduceAdd, Nat.reduceMul, Nat.reduceSub, Nat.reduceLT, Nat.reduceLeDiff, reduceCtorEq, Nat.reduceMod, Int.reduceEq, Int.reduceLT, Int.reduceLE, Int.reduceToNat, dite_true, t0, hone]
      refine VC.draw (.q 0 (.q 1 (.q 2 (.q 3 (.q 5 (.e 4 (.e 6 (.es 7 [0, 1, 2, 3, 5] (.done))))))))) mixed (by rfl) ?_
      simp only [push_cast, ↓reduceIte, Nat.reduceEqDiff, Nat.reduceAdd, Nat.reduceMul, Nat.reduceSub, Nat.reduceLT, Nat.reduceLeDiff, reduceCtorEq, Nat.reduceMod, Int.reduceEq, Int.reduceLT, Int.reduceLE, Int.reduceToNat, dite_true, hone]
      refine CallV.pure (arityPrim F2 (findP e.name) (hT.mono (hF2))) ?_
      rintro _ Fk hFk rfl
      simp only [push_cast, ↓reduceIte, Nat.reduceEqDiff, Nat.reduceAdd, Nat.reduceMul, Nat.reduceSub, Nat.reduceLT, Nat.reduceLeDiff, reduceCtorEq, Nat.reduceMod, Int.reduceEq, Int.reduceLT, Int.reduceLE, Int.reduceToNat, dite_true, hone]
      refine CallV.pure (arityPrim Fk (findP e.name) (hT.mono (PH.le_trans (hF2) hFk))) ?_
      rintro _ Fl hFl rfl
      have hFm := PH.le_trans hFk hFl
      simp only [push_cast, ↓reduceIte, Nat.reduceEqDiff, Nat.reduceAdd, Nat.reduceMul, Nat.reduceSub, Nat.reduceLT, Nat.reduceLeDiff, reduceCtorEq, Nat.reduceMod, Int.reduceEq, Int.reduceLT, Int.reduceLE, Int.reduceToNat, dite_true, hone]
      refine CallV.own (i := 0) rfl (atoms Fl b mb _ vs _ _ _ _ (⟨false, 0, 0⟩) e inn (arityP (findP e.name)) (arityP (findP e.name)) (.inl ⟨rfl, rfl⟩) (hX'.mono (PH.le_trans (hF2) hFm)) (hs.mono (PH.le_trans (hF2) hFm))) ?_
      rintro _ Fz _ hFz ⟨vz, rfl, hrz⟩
      simp only [push_cast, ↓reduceIte, Nat.reduceEqDiff, Nat.reduceAdd, Nat.reduceMul, Nat.reduceSub, Nat.reduceLT, Nat.reduceLeDiff, reduceCtorEq, Nat.reduceMod, Int.reduceEq, Int.reduceLT, Int.reduceLE, Int.reduceToNat, dite_true]
      refine VC.go 100 ?_
      simp only [push_cast, ↓reduceIte, Nat.reduceEqDiff, Nat.reduceAdd, Nat.reduceMul, Nat.reduceSub, Nat.reduceLT, Nat.reduceLeDiff, reduceCtorEq, Nat.reduceMod, Int.reduceEq, Int.reduceLT, Int.reduceLE, Int.reduceToNat, dite_true]
      have e9 : res = atomsC e.at_ inn e.atoms (whenC ((e.atoms.length : Int) < (arityP (findP e.name)) ∨ (arityP (findP e.name)) < (e.atoms.length : Int)) (⟨false, 0, 0⟩) e.at_ 33) := by
        rw [← hres, whenC_congr (show (¬ (e.atoms.length : Int) = arityP (findP e.name)) ↔ ((e.atoms.length : Int) < arityP (findP e.name) ∨ arityP (findP e.name) < (e.atoms.length : Int)) by omega), show whenC (findP e.name = 0) ⟨false, 0, 0⟩ e.at_ 34 = ⟨false, 0, 0⟩ from if_neg t0]
      rw [← e9] at hrz
      exact sret rfl hrz
  rw [if_neg g3] at hres
  by_cases g4 : e.kind = 4
  · rw [if_pos g4] at hres
    simp only [push_cast, ↓reduceIte, Nat.reduceEqDiff, Nat.reduceAdd, Nat.reduceMul, Nat.reduceSub, Nat.reduceLT, Nat.reduceLeDiff, reduceCtorEq, Nat.reduceMod, Int.reduceEq, Int.reduceLT, Int.reduceLE, Int.reduceToNat, dite_true, g1, g2, g3, eq_true g4]
    subst hres
    exact sret rfl (.inl ⟨rfl, rfl⟩)
  rw [if_neg g4] at hres
  by_cases g5 : e.kind = 5
  · rw [if_pos g5] at hres
    simp only [push_cast, ↓reduceIte, Nat.reduceEqDiff, Nat.reduceAdd, Nat.reduceMul, Nat.reduceSub, Nat.reduceLT, Nat.reduceLeDiff, reduceCtorEq, Nat.reduceMod, Int.reduceEq, Int.reduceLT, Int.reduceLE, Int.reduceToNat, dite_true, g1, g2, g3, g4, eq_true g5]
    refine CallV.own (i := 0) rfl (let_ ds e ih F b mb _ vs _ _ _ _ ⟨false, 0, 0⟩ inn (.inl ⟨rfl, rfl⟩) hX' hs hd hT hsz) ?_
    rintro _ Fz _ hFz ⟨vz, rfl, hrz⟩
    simp only [push_cast, ↓reduceIte, Nat.reduceEqDiff, Nat.reduceAdd, Nat.reduceMul, Nat.reduceSub, Nat.reduceLT, Nat.reduceLeDiff, reduceCtorEq, Nat.reduceMod, Int.reduceEq, Int.reduceLT, Int.reduceLE, Int.reduceToNat, dite_true]
    have e9 : letC ds e inn ⟨false, 0, 0⟩ = res := hres
    rw [e9] at hrz
    exact sret rfl hrz
  rw [if_neg g5] at hres
  by_cases g6 : e.kind = 6
  · rw [if_pos g6] at hres
    simp only [push_cast, ↓reduceIte, Nat.reduceEqDiff, Nat.reduceAdd, Nat.reduceMul, Nat.reduceSub, Nat.reduceLT, Nat.reduceLeDiff, reduceCtorEq, Nat.reduceMod, Int.reduceEq, Int.reduceLT, Int.reduceLE, Int.reduceToNat, dite_true, g1, g2, g3, g4, g5, eq_true g6]
    refine CallV.own (i := 0) rfl (cases_ ds hds e ih F b mb _ vs _ _ _ _ ⟨false, 0, 0⟩ inn (.inl ⟨rfl, rfl⟩) hX' hs hd hT hsz) ?_
    rintro _ Fz _ hFz ⟨vz, rfl, hrz⟩
    simp only [push_cast, ↓reduceIte, Nat.reduceEqDiff, Nat.reduceAdd, Nat.reduceMul, Nat.reduceSub, Nat.reduceLT, Nat.reduceLeDiff, reduceCtorEq, Nat.reduceMod, Int.reduceEq, Int.reduceLT, Int.reduceLE, Int.reduceToNat, dite_true]
    have e9 : casesC ds e inn ⟨false, 0, 0⟩ = res := hres
    rw [e9] at hrz
    exact sret rfl hrz
  rw [if_neg g6] at hres
  simp only [push_cast, ↓reduceIte, Nat.reduceEqDiff, Nat.reduceAdd, Nat.reduceMul, Nat.reduceSub, Nat.reduceLT, Nat.reduceLeDiff, reduceCtorEq, Nat.reduceMod, Int.reduceEq, Int.reduceLT, Int.reduceLE, Int.reduceToNat, dite_true, g1, g2, g3, g4, g5, g6]
  refine CallV.own (i := 0) rfl (fail F b mb _ ⟨false, 0, 0⟩ e.at_ 2 (.inl ⟨rfl, rfl⟩)) ?_
  rintro _ Fz _ hFz ⟨vz, rfl, hrz⟩
  simp only [push_cast, ↓reduceIte, Nat.reduceEqDiff, Nat.reduceAdd, Nat.reduceMul, Nat.reduceSub, Nat.reduceLT, Nat.reduceLeDiff, reduceCtorEq, Nat.reduceMod, Int.reduceEq, Int.reduceLT, Int.reduceLE, Int.reduceToNat, dite_true]
  rw [hres] at hrz
  exact sret rfl hrz
theorem exp_all (ds : List Dat) (hds : ∀ d ∈ ds, d.arity ≤ 8) (n : Nat) : ∀ e : Exp, e.size = n → ExpS ds e := by
  induction n using Nat.strongRecOn with
  | _ n ih =>
    intro e he
    exact exp_ok ds hds e fun e' h => ih e'.size (by omega) e' rfl
end Go.Proofs.YtjeidgjhkjnkeaaDoor.P
