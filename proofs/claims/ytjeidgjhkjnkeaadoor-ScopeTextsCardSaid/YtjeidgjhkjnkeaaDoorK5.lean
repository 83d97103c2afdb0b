/- The document's checker: its walk over alternatives. -/
import Derived.Test.YtjeidgjhkjnkeaaDoorK4
namespace Go.Proofs.YtjeidgjhkjnkeaaDoor.K
open Go Go.Eng Go.Proofs Go.Proofs.YtjeidgjhkjnkeaaDoor.T
set_option linter.unusedSimpArgs false
set_option linter.unusedVariables false
set_option maxRecDepth 100000
set_option maxHeartbeats 4000000
theorem altF (ds : List Dat) (a : Alt) (hE : ExpK ds a.body) (again : Bool) (F : PH) (b : Nat) (vd vb vin v va w1 we wl : Value) (c : Ck) (inn : List ByteArray) (hv : Strs F v a.vars) (hX : ExpAt F a.body va w1 we wl) (hi : Strs F vin inn) (hd : Dats F vd ds) (hb : vb.oneCell' = true) (hs : inn.length + a.size ≤ 100000000) :
    ChkFn 70 [.agg (.int .i64 a.kind :: .int .i64 a.at_ :: .string a.name :: .int .i64 a.n :: v :: expCells a.body va w1 we wl).toArray, .bool again, vin] F b vd vb c (altC ds a again inn c) := by
  have hX' := hX
  obtain ⟨pa, ca, pb, cb, pe, ce, pl, cl, rfl, rfl, rfl, rfl⟩ := hX.slices
  have hd' := hd
  obtain ⟨pd, cd, rfl, _, _⟩ := hd.val
  have hv' := hv
  obtain ⟨pv, cv, rfl, hv1, hv2, hv3⟩ := hv
  have hbs := asize_eq a
  have hal := sizeS_len a.vars
  generalize hr : altC ds a again inn c = r
  rw [altC_eq] at hr
  refine OFn.intro (n := 87) (ts := []) Tryd.func70 rfl rfl rfl rfl (by simp) fun B hB => ?_
  refine VC.go 5 ?_
  simp only [push_cast, ↓reduceIte, Nat.reduceEqDiff, Nat.reduceAdd, Nat.reduceMul, Nat.reduceSub, Nat.reduceLT, Nat.reduceLeDiff, reduceCtorEq, Nat.reduceMod, Int.reduceEq, Int.reduceLT, Int.reduceLE, Int.reduceToNat, dite_true, hb]
  intro bx
  refine VC.cutM (ι := Value × Ck × PH) (fun i => [(5, .o 1 bx 0), (2, .v (.bool again)), (3, .v i.1), (0, .o 0 b 0)]) (fun i => [⟨0, b, 68, ckCells (.slice pd ds.length cd) vb i.2.1⟩, ⟨1, bx, 100, .int .i64 a.kind :: .int .i64 a.at_ :: .string a.name :: .int .i64 a.n :: .slice pv a.vars.length cv :: expCells a.body (.slice pa a.body.atoms.length ca) (.slice pb a.body.binds.length cb) (.slice pe a.body.kids.length ce) (.slice pl a.body.alts.length cl)⟩]) (fun i => i.2.2) (fun i => F.le i.2.2 ∧ i.2.1 = headC ds a.kind a.at_ a.name a.vars c ∧ Strs i.2.2 i.1 (altIn a.kind a.name a.vars inn)) ?_ ?_
  · intro G hG
    refine VC.go 100 ?_
    by_cases g1 : a.kind = 1
    · have hd1 : altIn a.kind a.name a.vars inn = inn ++ a.vars := if_pos g1
      have fin : ∀ (c2 : Ck) (F2 : PH) (S' : St) (v3 : Value), F.le F2 → c2 = headC ds a.kind a.at_ a.name a.vars c → Strs F2 v3 (inn ++ a.vars) → subk S'.L [(5, .o 1 bx 0), (2, .v (.bool again)), (3, .v v3), (0, .o 0 b 0)] →
          ([⟨0, b, 68, ckCells (.slice pd ds.length cd) vb c2⟩, ⟨1, bx, 100, .int .i64 a.kind :: .int .i64 a.at_ :: .string a.name :: .int .i64 a.n :: .slice pv a.vars.length cv :: expCells a.body (.slice pa a.body.atoms.length ca) (.slice pb a.body.binds.length cb) (.slice pe a.body.kids.length ce) (.slice pl a.body.alts.length cl)⟩] : List Own).Sublist S'.M → S'.F = F2 → S'.R = [] → G S' :=
        fun c2 F2 S' v3 h1 h2 h3 h4 h5 h6 h7 => hG (v3, c2, F2) S' ⟨h1, h2, by rw [hd1]; exact h3⟩ h4 h5 h6 h7
      simp only [push_cast, ↓reduceIte, Nat.reduceEqDiff, Nat.reduceAdd, Nat.reduceMul, Nat.reduceSub, Nat.reduceLT, Nat.reduceLeDiff, reduceCtorEq, Nat.reduceMod, Int.reduceEq, Int.reduceLT, Int.reduceLE, Int.reduceToNat, dite_true, eq_true g1, hb]
      refine VC.draw (.q 0 (.q 1 (.q 2 (.q 3 (.q 4 (.q 5 (.e 6 (.q 7 (.q 8 (.q 9 (.q 10 (.q 11 (.done))))))))))))) mixed (by rfl) ?_
      simp only [push_cast, ↓reduceIte, Nat.reduceEqDiff, Nat.reduceAdd, Nat.reduceMul, Nat.reduceSub, Nat.reduceLT, Nat.reduceLeDiff, reduceCtorEq, Nat.reduceMod, Int.reduceEq, Int.reduceLT, Int.reduceLE, Int.reduceToNat, dite_true, hb]
      refine CallV.pure (arity F _ vb ds a.name hd' hb) ?_
      rintro _ F2 hF2 rfl
      simp only [push_cast, ↓reduceIte, Nat.reduceEqDiff, Nat.reduceAdd, Nat.reduceMul, Nat.reduceSub, Nat.reduceLT, Nat.reduceLeDiff, reduceCtorEq, Nat.reduceMod, Int.reduceEq, Int.reduceLT, Int.reduceLE, Int.reduceToNat, dite_true]
      refine VC.go 100 ?_
      cases ha : arityD ds a.name with
      | none =>
        simp only [push_cast, ↓reduceIte, Nat.reduceEqDiff, Nat.reduceAdd, Nat.reduceMul, Nat.reduceSub, Nat.reduceLT, Nat.reduceLeDiff, reduceCtorEq, Nat.reduceMod, Int.reduceEq, Int.reduceLT, Int.reduceLE, Int.reduceToNat, dite_true, Option.isSome_none, hb]
        refine CallV.own (i := 0) rfl (fail F2 b _ vb c a.at_ 32) ?_
        rintro _ F3 _ hF3 rfl
        simp only [push_cast, ↓reduceIte, Nat.reduceEqDiff, Nat.reduceAdd, Nat.reduceMul, Nat.reduceSub, Nat.reduceLT, Nat.reduceLeDiff, reduceCtorEq, Nat.reduceMod, Int.reduceEq, Int.reduceLT, Int.reduceLE, Int.reduceToNat, dite_true, hb]
        refine CallV.sl (withs F3 _ _ inn a.vars (hi.mono (PH.le_trans hF2 hF3)) (hv'.mono (PH.le_trans hF2 hF3)) (by omega)) ?_
        intro v3 F4 m hF4 hm hv3
        simp only [push_cast, ↓reduceIte, Nat.reduceEqDiff, Nat.reduceAdd, Nat.reduceMul, Nat.reduceSub, Nat.reduceLT, Nat.reduceLeDiff, reduceCtorEq, Nat.reduceMod, Int.reduceEq, Int.reduceLT, Int.reduceLE, Int.reduceToNat, dite_true]
        exact fin (failC c a.at_ 32) F4 _ v3 (PH.le_trans hF2 (PH.le_trans hF3 hF4)) (by simp only [headC, if_pos g1, ha]) (sl_strs hm hv3) (by simp [subk, Eng.look]) (List.Sublist.refl _) rfl rfl
      | some m =>
        by_cases g2 : m = (a.vars.length : Int)
        case neg =>
          simp only [push_cast, ↓reduceIte, Nat.reduceEqDiff, Nat.reduceAdd, Nat.reduceMul, Nat.reduceSub, Nat.reduceLT, Nat.reduceLeDiff, reduceCtorEq, Nat.reduceMod, Int.reduceEq, Int.reduceLT, Int.reduceLE, Int.reduceToNat, dite_true, Option.isSome_some, Option.getD_some, g2, hb]
          refine CallV.own (i := 0) rfl (fail F2 b _ vb c a.at_ 33) ?_
          rintro _ F3 _ hF3 rfl
          simp only [push_cast, ↓reduceIte, Nat.reduceEqDiff, Nat.reduceAdd, Nat.reduceMul, Nat.reduceSub, Nat.reduceLT, Nat.reduceLeDiff, reduceCtorEq, Nat.reduceMod, Int.reduceEq, Int.reduceLT, Int.reduceLE, Int.reduceToNat, dite_true, hb]
          refine CallV.sl (withs F3 _ _ inn a.vars (hi.mono (PH.le_trans hF2 hF3)) (hv'.mono (PH.le_trans hF2 hF3)) (by omega)) ?_
          intro v3 F4 m hF4 hm hv3
          simp only [push_cast, ↓reduceIte, Nat.reduceEqDiff, Nat.reduceAdd, Nat.reduceMul, Nat.reduceSub, Nat.reduceLT, Nat.reduceLeDiff, reduceCtorEq, Nat.reduceMod, Int.reduceEq, Int.reduceLT, Int.reduceLE, Int.reduceToNat, dite_true]
          exact fin (failC c a.at_ 33) F4 _ v3 (PH.le_trans hF2 (PH.le_trans hF3 hF4)) (by simp only [headC, if_pos g1, ha, if_pos g2]) (sl_strs hm hv3) (by simp [subk, Eng.look]) (List.Sublist.refl _) rfl rfl
        simp only [push_cast, ↓reduceIte, Nat.reduceEqDiff, Nat.reduceAdd, Nat.reduceMul, Nat.reduceSub, Nat.reduceLT, Nat.reduceLeDiff, reduceCtorEq, Nat.reduceMod, Int.reduceEq, Int.reduceLT, Int.reduceLE, Int.reduceToNat, dite_true, Option.isSome_some, Option.getD_some, eq_true g2, hb]
        refine CallV.pure (has F2 _ a.vars ⟨#[]⟩ (hv'.mono hF2)) ?_
        rintro _ F5 hF5 rfl
        have hF25 := PH.le_trans hF2 hF5
        cases hh : hasB a.vars ⟨#[]⟩ with
        | true =>
          simp only [push_cast, ↓reduceIte, Nat.reduceEqDiff, Nat.reduceAdd, Nat.reduceMul, Nat.reduceSub, Nat.reduceLT, Nat.reduceLeDiff, reduceCtorEq, Nat.reduceMod, Int.reduceEq, Int.reduceLT, Int.reduceLE, Int.reduceToNat, dite_true, hb]
          refine CallV.own (i := 0) rfl (fail F5 b _ vb c a.at_ 31) ?_
          rintro _ F3 _ hF3 rfl
          simp only [push_cast, ↓reduceIte, Nat.reduceEqDiff, Nat.reduceAdd, Nat.reduceMul, Nat.reduceSub, Nat.reduceLT, Nat.reduceLeDiff, reduceCtorEq, Nat.reduceMod, Int.reduceEq, Int.reduceLT, Int.reduceLE, Int.reduceToNat, dite_true, hb]
          refine CallV.sl (withs F3 _ _ inn a.vars (hi.mono (PH.le_trans hF25 hF3)) (hv'.mono (PH.le_trans hF25 hF3)) (by omega)) ?_
          intro v3 F4 m hF4 hm hv3
          simp only [push_cast, ↓reduceIte, Nat.reduceEqDiff, Nat.reduceAdd, Nat.reduceMul, Nat.reduceSub, Nat.reduceLT, Nat.reduceLeDiff, reduceCtorEq, Nat.reduceMod, Int.reduceEq, Int.reduceLT, Int.reduceLE, Int.reduceToNat, dite_true]
          exact fin (failC c a.at_ 31) F4 _ v3 (PH.le_trans hF25 (PH.le_trans hF3 hF4)) (by simp only [headC, if_pos g1, ha, if_neg (not_not_intro g2), if_pos hh]) (sl_strs hm hv3) (by simp [subk, Eng.look]) (List.Sublist.refl _) rfl rfl
        | false =>
          simp only [push_cast, ↓reduceIte, Nat.reduceEqDiff, Nat.reduceAdd, Nat.reduceMul, Nat.reduceSub, Nat.reduceLT, Nat.reduceLeDiff, reduceCtorEq, Nat.reduceMod, Int.reduceEq, Int.reduceLT, Int.reduceLE, Int.reduceToNat, dite_true, hb]
          refine CallV.pure (twice F5 _ a.vars (hv'.mono hF25)) ?_
          rintro _ F6 hF6 rfl
          have hF26 := PH.le_trans hF25 hF6
          cases ht : twiceB [] a.vars with
          | true =>
            simp only [push_cast, ↓reduceIte, Nat.reduceEqDiff, Nat.reduceAdd, Nat.reduceMul, Nat.reduceSub, Nat.reduceLT, Nat.reduceLeDiff, reduceCtorEq, Nat.reduceMod, Int.reduceEq, Int.reduceLT, Int.reduceLE, Int.reduceToNat, dite_true, hb]
            refine CallV.own (i := 0) rfl (fail F6 b _ vb c a.at_ 30) ?_
            rintro _ F3 _ hF3 rfl
            simp only [push_cast, ↓reduceIte, Nat.reduceEqDiff, Nat.reduceAdd, Nat.reduceMul, Nat.reduceSub, Nat.reduceLT, Nat.reduceLeDiff, reduceCtorEq, Nat.reduceMod, Int.reduceEq, Int.reduceLT, Int.reduceLE, Int.reduceToNat, dite_true, hb]
            refine CallV.sl (withs F3 _ _ inn a.vars (hi.mono (PH.le_trans hF26 hF3)) (hv'.mono (PH.le_trans hF26 hF3)) (by omega)) ?_
            intro v3 F4 m hF4 hm hv3
            simp only [push_cast, ↓reduceIte, Nat.reduceEqDiff, Nat.reduceAdd, Nat.reduceMul, Nat.reduceSub, Nat.reduceLT, Nat.reduceLeDiff, reduceCtorEq, Nat.reduceMod, Int.reduceEq, Int.reduceLT, Int.reduceLE, Int.reduceToNat, dite_true]
            exact fin (failC c a.at_ 30) F4 _ v3 (PH.le_trans hF26 (PH.le_trans hF3 hF4)) (by simp only [headC, if_pos g1, ha, if_neg (not_not_intro g2), hh, Bool.false_eq_true, if_false, ht, if_true]) (sl_strs hm hv3) (by simp [subk, Eng.look]) (List.Sublist.refl _) rfl rfl
          | false =>
            simp only [push_cast, ↓reduceIte, Nat.reduceEqDiff, Nat.reduceAdd, Nat.reduceMul, Nat.reduceSub, Nat.reduceLT, Nat.reduceLeDiff, reduceCtorEq, Nat.reduceMod, Int.reduceEq, Int.reduceLT, Int.reduceLE, Int.reduceToNat, dite_true, hb]
            refine CallV.sl (withs F6 _ _ inn a.vars (hi.mono hF26) (hv'.mono hF26) (by omega)) ?_
            intro v3 F4 m hF4 hm hv3
            simp only [push_cast, ↓reduceIte, Nat.reduceEqDiff, Nat.reduceAdd, Nat.reduceMul, Nat.reduceSub, Nat.reduceLT, Nat.reduceLeDiff, reduceCtorEq, Nat.reduceMod, Int.reduceEq, Int.reduceLT, Int.reduceLE, Int.reduceToNat, dite_true]
            exact fin c F4 _ v3 (PH.le_trans hF26 hF4) (by simp only [headC, if_pos g1, ha, if_neg (not_not_intro g2), hh, Bool.false_eq_true, if_false, ht]) (sl_strs hm hv3) (by simp [subk, Eng.look]) (List.Sublist.refl _) rfl rfl
    by_cases g2 : a.kind = 2
    · simp only [push_cast, ↓reduceIte, Nat.reduceEqDiff, Nat.reduceAdd, Nat.reduceMul, Nat.reduceSub, Nat.reduceLT, Nat.reduceLeDiff, reduceCtorEq, Nat.reduceMod, Int.reduceEq, Int.reduceLT, Int.reduceLE, Int.reduceToNat, dite_true, g1, eq_true g2, hb]
      exact hG (vin, c, F) _ ⟨PH.le_refl _, by simp only [headC, if_neg g1, if_pos g2], by simp only [altIn, if_neg g1, if_neg (show ¬ a.kind = 3 by omega)]; exact hi⟩ (by simp [subk, Eng.look]) (List.Sublist.refl _) rfl rfl
    by_cases g3 : a.kind = 3
    · have hd3 : altIn a.kind a.name a.vars inn = inn ++ [a.name] := by simp only [altIn, if_neg g1, if_pos g3]
      by_cases g4 : a.name = ⟨#[]⟩
      · simp only [push_cast, ↓reduceIte, Nat.reduceEqDiff, Nat.reduceAdd, Nat.reduceMul, Nat.reduceSub, Nat.reduceLT, Nat.reduceLeDiff, reduceCtorEq, Nat.reduceMod, Int.reduceEq, Int.reduceLT, Int.reduceLE, Int.reduceToNat, dite_true, g1, g2, eq_true g3, eq_true g4, hb]
        refine CallV.own (i := 0) rfl (fail F b _ vb c a.at_ 31) ?_
        rintro _ F3 _ hF3 rfl
        simp only [push_cast, ↓reduceIte, Nat.reduceEqDiff, Nat.reduceAdd, Nat.reduceMul, Nat.reduceSub, Nat.reduceLT, Nat.reduceLeDiff, reduceCtorEq, Nat.reduceMod, Int.reduceEq, Int.reduceLT, Int.reduceLE, Int.reduceToNat, dite_true, hb]
        intro b5 F5 hF5 hb5
        refine CallV.sl (withs F5 _ _ inn [a.name] (hi.mono (PH.le_trans hF3 hF5)) (strs_blk (l := [a.name]) hb5 one_max) (by simp; omega)) ?_
        intro v3 F4 m hF4 hm hv3
        simp only [push_cast, ↓reduceIte, Nat.reduceEqDiff, Nat.reduceAdd, Nat.reduceMul, Nat.reduceSub, Nat.reduceLT, Nat.reduceLeDiff, reduceCtorEq, Nat.reduceMod, Int.reduceEq, Int.reduceLT, Int.reduceLE, Int.reduceToNat, dite_true]
        exact hG (v3, failC c a.at_ 31, F4) _ ⟨PH.le_trans hF3 (PH.le_trans hF5 hF4), by simp only [headC, if_neg g1, if_neg g2, if_pos g3, whenC, if_pos g4], by rw [hd3]; exact sl_strs hm hv3⟩ (by simp [subk, Eng.look]) (List.Sublist.refl _) rfl rfl
      · simp only [push_cast, ↓reduceIte, Nat.reduceEqDiff, Nat.reduceAdd, Nat.reduceMul, Nat.reduceSub, Nat.reduceLT, Nat.reduceLeDiff, reduceCtorEq, Nat.reduceMod, Int.reduceEq, Int.reduceLT, Int.reduceLE, Int.reduceToNat, dite_true, g1, g2, eq_true g3, g4, hb]
        intro b5 F5 hF5 hb5
        refine CallV.sl (withs F5 _ _ inn [a.name] (hi.mono hF5) (strs_blk (l := [a.name]) hb5 one_max) (by simp; omega)) ?_
        intro v3 F4 m hF4 hm hv3
        simp only [push_cast, ↓reduceIte, Nat.reduceEqDiff, Nat.reduceAdd, Nat.reduceMul, Nat.reduceSub, Nat.reduceLT, Nat.reduceLeDiff, reduceCtorEq, Nat.reduceMod, Int.reduceEq, Int.reduceLT, Int.reduceLE, Int.reduceToNat, dite_true]
        exact hG (v3, c, F4) _ ⟨PH.le_trans hF5 hF4, by simp only [headC, if_neg g1, if_neg g2, if_pos g3, whenC, if_neg g4], by rw [hd3]; exact sl_strs hm hv3⟩ (by simp [subk, Eng.look]) (List.Sublist.refl _) rfl rfl
    · simp only [push_cast, ↓reduceIte, Nat.reduceEqDiff, Nat.reduceAdd, Nat.reduceMul, Nat.reduceSub, Nat.reduceLT, Nat.reduceLeDiff, reduceCtorEq, Nat.reduceMod, Int.reduceEq, Int.reduceLT, Int.reduceLE, Int.reduceToNat, dite_true, g1, g2, g3, hb]
      refine CallV.own (i := 0) rfl (fail F b _ vb c a.at_ 2) ?_
      rintro _ F3 _ hF3 rfl
      simp only [push_cast, ↓reduceIte, Nat.reduceEqDiff, Nat.reduceAdd, Nat.reduceMul, Nat.reduceSub, Nat.reduceLT, Nat.reduceLeDiff, reduceCtorEq, Nat.reduceMod, Int.reduceEq, Int.reduceLT, Int.reduceLE, Int.reduceToNat, dite_true]
      exact hG (vin, failC c a.at_ 2, F3) _ ⟨hF3, by simp only [headC, if_neg g1, if_neg g2, if_neg g3], by simp only [altIn, if_neg g1, if_neg g3]; exact hi.mono hF3⟩ (by simp [subk, Eng.look]) (List.Sublist.refl _) rfl rfl
  · rintro ⟨v1, c2, F2⟩ ⟨hF2, rfl, hin⟩
    dsimp only at hF2 hin ⊢
    refine VC.go 100 ?_
    have hil : (altIn a.kind a.name a.vars inn).length ≤ inn.length + a.vars.length + 1 := by
      unfold altIn
      split
      · simp
      · split
        · simp
        · omega
    cases again
    · simp only [push_cast, ↓reduceIte, Nat.reduceEqDiff, Nat.reduceAdd, Nat.reduceMul, Nat.reduceSub, Nat.reduceLT, Nat.reduceLeDiff, reduceCtorEq, Nat.reduceMod, Int.reduceEq, Int.reduceLT, Int.reduceLE, Int.reduceToNat, dite_true, hb]
      refine CallV.own (i := 0) rfl (hE F2 b _ vb _ _ _ _ _ (headC ds a.kind a.at_ a.name a.vars c) _ (hX'.mono hF2) hin (hd'.mono' hF2) hb (by omega)) ?_
      rintro _ F4 _ hF4 rfl
      simp only [push_cast, ↓reduceIte, Nat.reduceEqDiff, Nat.reduceAdd, Nat.reduceMul, Nat.reduceSub, Nat.reduceLT, Nat.reduceLeDiff, reduceCtorEq, Nat.reduceMod, Int.reduceEq, Int.reduceLT, Int.reduceLE, Int.reduceToNat, dite_true]
      simp only [whenC, Bool.false_eq_true, if_false] at hr
      subst hr
      exact chk_ret rfl
    · simp only [push_cast, ↓reduceIte, Nat.reduceEqDiff, Nat.reduceAdd, Nat.reduceMul, Nat.reduceSub, Nat.reduceLT, Nat.reduceLeDiff, reduceCtorEq, Nat.reduceMod, Int.reduceEq, Int.reduceLT, Int.reduceLE, Int.reduceToNat, dite_true, hb]
      refine CallV.own (i := 0) rfl (fail F2 b _ vb (headC ds a.kind a.at_ a.name a.vars c) a.at_ 30) ?_
      rintro _ F3 _ hF3 rfl
      simp only [push_cast, ↓reduceIte, Nat.reduceEqDiff, Nat.reduceAdd, Nat.reduceMul, Nat.reduceSub, Nat.reduceLT, Nat.reduceLeDiff, reduceCtorEq, Nat.reduceMod, Int.reduceEq, Int.reduceLT, Int.reduceLE, Int.reduceToNat, dite_true, hb]
      refine CallV.own (i := 0) rfl (hE F3 b _ vb _ _ _ _ _ (failC (headC ds a.kind a.at_ a.name a.vars c) a.at_ 30) _ (hX'.mono (PH.le_trans hF2 hF3)) (hin.mono hF3) (hd'.mono' (PH.le_trans hF2 hF3)) hb (by omega)) ?_
      rintro _ F4 _ hF4 rfl
      simp only [push_cast, ↓reduceIte, Nat.reduceEqDiff, Nat.reduceAdd, Nat.reduceMul, Nat.reduceSub, Nat.reduceLT, Nat.reduceLeDiff, reduceCtorEq, Nat.reduceMod, Int.reduceEq, Int.reduceLT, Int.reduceLE, Int.reduceToNat, dite_true]
      simp only [whenC, if_true] at hr
      subst hr
      exact chk_ret rfl
end Go.Proofs.YtjeidgjhkjnkeaaDoor.K
