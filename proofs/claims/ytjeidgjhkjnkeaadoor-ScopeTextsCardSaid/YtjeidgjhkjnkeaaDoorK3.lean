/- The document's checker: its walk over forms, lets, cases, alternatives and expressions. -/
import Derived.Test.YtjeidgjhkjnkeaaDoorK2
import Derived.Test.YtjeidgjhkjnkeaaDoorX3
namespace Go.Proofs.YtjeidgjhkjnkeaaDoor.K
open Go Go.Eng Go.Proofs Go.Proofs.YtjeidgjhkjnkeaaDoor.T
set_option linter.unusedSimpArgs false
set_option linter.unusedVariables false
set_option maxRecDepth 100000
set_option maxHeartbeats 4000000
theorem expC_eq (ds : List Dat) (e : Exp) (inn : List ByteArray) (c : Ck) : expC ds e inn c = if c.bad = true then c
    else if e.kind = 1 then atomsC e.at_ inn e.atoms (whenC (8 < e.atoms.length) (whenC (hasB inn e.name = false) c e.at_ 31) e.at_ 33)
    else if e.kind = 2 then atomsC e.at_ inn e.atoms (whenC (¬ (e.atoms.length : Int) = (arityD ds e.name).getD 0) (whenC ((arityD ds e.name).isSome = false) c e.at_ 32) e.at_ 33)
    else if e.kind = 3 then atomsC e.at_ inn e.atoms (whenC (¬ (e.atoms.length : Int) = arityP (findP e.name)) (whenC (findP e.name = 0) c e.at_ 34) e.at_ 33)
    else if e.kind = 4 then c
    else if e.kind = 5 then (if e.binds.length = 0 ∨ e.kids.length = 0 then failC c e.at_ 2 else kidC ds e.kids (inn ++ e.binds.map Bind.name) (bindsC ds e.binds (inn ++ e.binds.map Bind.name) (dupC [] e.binds c)))
    else if e.kind = 6 then (if e.kids.length = 0 ∨ e.alts.length = 0 then failC c e.at_ 2 else altsC ds [] e.alts inn (kidC ds e.kids inn c))
    else failC c e.at_ 2 := by
  cases e; simp only [expC]; rfl
theorem formC_eq (ds : List Dat) (b : Bind) (inn : List ByteArray) (c : Ck) : formC ds b inn c = if c.bad = true then c else expC ds b.body (inn ++ b.args) (argsC b.at_ b.args c) := by
  cases b; simp only [formC]; rfl
theorem altC_eq (ds : List Dat) (a : Alt) (again : Bool) (inn : List ByteArray) (c : Ck) : altC ds a again inn c = expC ds a.body (altIn a.kind a.name a.vars inn) (whenC (again = true) (headC ds a.kind a.at_ a.name a.vars c) a.at_ 30) := by
  cases a; simp only [altC]; rfl
/-- The contract of the walk over one expression. -/
def ExpK (ds : List Dat) (e : Exp) : Prop := ∀ (F : PH) (b : Nat) (vd vb vin va w1 we wl : Value) (c : Ck) (inn : List ByteArray), ExpAt F e va w1 we wl → Strs F vin inn → Dats F vd ds → vb.oneCell' = true → inn.length + e.size ≤ 100000000 →
  ChkFn 38 [.agg (expCells e va w1 we wl).toArray, vin] F b vd vb c (expC ds e inn c)
theorem formF (ds : List Dat) (bd : Bind) (hE : ExpK ds bd.body) (F : PH) (b : Nat) (vd vb vin v va w1 we wl : Value) (c : Ck) (inn : List ByteArray) (hv : Strs F v bd.args) (hX : ExpAt F bd.body va w1 we wl) (hi : Strs F vin inn) (hd : Dats F vd ds) (hb : vb.oneCell' = true) (hs : inn.length + bd.size ≤ 100000000) :
    ChkFn 23 [.agg (.string bd.name :: .int .i64 bd.at_ :: v :: expCells bd.body va w1 we wl).toArray, vin] F b vd vb c (formC ds bd inn c) := by
  have hX' := hX
  obtain ⟨pa, ca, pb, cb, pe, ce, pl, cl, rfl, rfl, rfl, rfl⟩ := hX.slices
  have hd' := hd
  obtain ⟨pd, cd, rfl, _, _⟩ := hd.val
  have hv' := hv
  obtain ⟨pv, cv, rfl, hv1, hv2, hv3⟩ := hv
  have hbs := bsize_eq bd
  have hal := sizeS_len bd.args
  refine OFn.intro (n := 45) (ts := []) Tryd.func23 rfl rfl rfl rfl (by simp) fun B hB => ?_
  generalize hr : formC ds bd inn c = r
  rw [formC_eq] at hr
  obtain ⟨bad, at_, ee⟩ := c
  cases bad
  case true =>
    obtain rfl : r = ⟨true, at_, ee⟩ := hr.symm
    refine VC.go 100 ?_
    simp only [push_cast, ↓reduceIte, Nat.reduceEqDiff, Nat.reduceAdd, Nat.reduceMul, Nat.reduceSub, Nat.reduceLT, Nat.reduceLeDiff, reduceCtorEq, Nat.reduceMod, Int.reduceEq, Int.reduceLT, Int.reduceLE, Int.reduceToNat, dite_true, hb]
    intro bx
    exact chk_ret rfl
  simp only [Bool.false_eq_true, if_false] at hr
  refine VC.go 8 ?_
  simp only [push_cast, ↓reduceIte, Nat.reduceEqDiff, Nat.reduceAdd, Nat.reduceMul, Nat.reduceSub, Nat.reduceLT, Nat.reduceLeDiff, reduceCtorEq, Nat.reduceMod, Int.reduceEq, Int.reduceLT, Int.reduceLE, Int.reduceToNat, dite_true, hb]
  intro bx
  refine VC.cutM (ι := Ck × PH) (fun i => [(4, .o 1 bx 0), (2, .v vin), (0, .o 0 b 0)]) (fun i => [⟨0, b, 68, ckCells (.slice pd ds.length cd) vb i.1⟩, ⟨1, bx, 46, .string bd.name :: .int .i64 bd.at_ :: .slice pv bd.args.length cv :: expCells bd.body (.slice pa bd.body.atoms.length ca) (.slice pb bd.body.binds.length cb) (.slice pe bd.body.kids.length ce) (.slice pl bd.body.alts.length cl)⟩]) (fun i => i.2) (fun i => F.le i.2 ∧ i.1 = argsC bd.at_ bd.args ⟨false, at_, ee⟩) ?_ ?_
  · intro G hG
    refine VC.go 100 ?_
    by_cases h8 : 8 < bd.args.length
    · have h8' : (8 : Int) < (bd.args.length : Int) := by omega
      simp only [push_cast, ↓reduceIte, Nat.reduceEqDiff, Nat.reduceAdd, Nat.reduceMul, Nat.reduceSub, Nat.reduceLT, Nat.reduceLeDiff, reduceCtorEq, Nat.reduceMod, Int.reduceEq, Int.reduceLT, Int.reduceLE, Int.reduceToNat, dite_true, h8', hb]
      refine CallV.own (i := 0) rfl (fail F b _ vb _ bd.at_ 33) ?_
      rintro _ F2 _ hF2 rfl
      simp only [push_cast, ↓reduceIte, Nat.reduceEqDiff, Nat.reduceAdd, Nat.reduceMul, Nat.reduceSub, Nat.reduceLT, Nat.reduceLeDiff, reduceCtorEq, Nat.reduceMod, Int.reduceEq, Int.reduceLT, Int.reduceLE, Int.reduceToNat, dite_true]
      exact hG (_, F2) _ ⟨hF2, by simp only [argsC, if_pos h8]; rfl⟩ (by simp [subk, Eng.look]) (List.Sublist.refl _) rfl rfl
    have h8' : ¬ (8 : Int) < (bd.args.length : Int) := by omega
    simp only [push_cast, ↓reduceIte, Nat.reduceEqDiff, Nat.reduceAdd, Nat.reduceMul, Nat.reduceSub, Nat.reduceLT, Nat.reduceLeDiff, reduceCtorEq, Nat.reduceMod, Int.reduceEq, Int.reduceLT, Int.reduceLE, Int.reduceToNat, dite_true, h8', hb]
    refine CallV.pure (has F _ bd.args ⟨#[]⟩ hv') ?_
    rintro _ F2 hF2 rfl
    cases hh : hasB bd.args ⟨#[]⟩ with
    | true =>
      simp only [push_cast, ↓reduceIte, Nat.reduceEqDiff, Nat.reduceAdd, Nat.reduceMul, Nat.reduceSub, Nat.reduceLT, Nat.reduceLeDiff, reduceCtorEq, Nat.reduceMod, Int.reduceEq, Int.reduceLT, Int.reduceLE, Int.reduceToNat, dite_true, hb]
      refine CallV.own (i := 0) rfl (fail F2 b _ vb _ bd.at_ 31) ?_
      rintro _ F3 _ hF3 rfl
      simp only [push_cast, ↓reduceIte, Nat.reduceEqDiff, Nat.reduceAdd, Nat.reduceMul, Nat.reduceSub, Nat.reduceLT, Nat.reduceLeDiff, reduceCtorEq, Nat.reduceMod, Int.reduceEq, Int.reduceLT, Int.reduceLE, Int.reduceToNat, dite_true]
      exact hG (_, F3) _ ⟨PH.le_trans hF2 hF3, by simp only [argsC, if_neg h8, if_pos hh]; rfl⟩ (by simp [subk, Eng.look]) (List.Sublist.refl _) rfl rfl
    | false =>
      simp only [push_cast, ↓reduceIte, Nat.reduceEqDiff, Nat.reduceAdd, Nat.reduceMul, Nat.reduceSub, Nat.reduceLT, Nat.reduceLeDiff, reduceCtorEq, Nat.reduceMod, Int.reduceEq, Int.reduceLT, Int.reduceLE, Int.reduceToNat, dite_true, hb]
      refine CallV.pure (twice F2 _ bd.args (hv'.mono hF2)) ?_
      rintro _ F3 hF3 rfl
      cases ht : twiceB [] bd.args with
      | true =>
        simp only [push_cast, ↓reduceIte, Nat.reduceEqDiff, Nat.reduceAdd, Nat.reduceMul, Nat.reduceSub, Nat.reduceLT, Nat.reduceLeDiff, reduceCtorEq, Nat.reduceMod, Int.reduceEq, Int.reduceLT, Int.reduceLE, Int.reduceToNat, dite_true, hb]
        refine CallV.own (i := 0) rfl (fail F3 b _ vb _ bd.at_ 30) ?_
        rintro _ F4 _ hF4 rfl
        simp only [push_cast, ↓reduceIte, Nat.reduceEqDiff, Nat.reduceAdd, Nat.reduceMul, Nat.reduceSub, Nat.reduceLT, Nat.reduceLeDiff, reduceCtorEq, Nat.reduceMod, Int.reduceEq, Int.reduceLT, Int.reduceLE, Int.reduceToNat, dite_true]
        exact hG (_, F4) _ ⟨PH.le_trans hF2 (PH.le_trans hF3 hF4), by simp only [argsC, if_neg h8, hh, ht, Bool.false_eq_true, if_false, if_true]; rfl⟩ (by simp [subk, Eng.look]) (List.Sublist.refl _) rfl rfl
      | false =>
        simp only [push_cast, ↓reduceIte, Nat.reduceEqDiff, Nat.reduceAdd, Nat.reduceMul, Nat.reduceSub, Nat.reduceLT, Nat.reduceLeDiff, reduceCtorEq, Nat.reduceMod, Int.reduceEq, Int.reduceLT, Int.reduceLE, Int.reduceToNat, dite_true, hb]
        exact hG (⟨false, at_, ee⟩, F3) _ ⟨PH.le_trans hF2 hF3, by simp only [argsC, if_neg h8, hh, ht, Bool.false_eq_true, if_false, if_true]⟩ (by simp [subk, Eng.look]) (List.Sublist.refl _) rfl rfl
  · rintro ⟨c2, F2⟩ ⟨hF2, rfl⟩
    dsimp only at hF2 ⊢
    refine VC.draw (.q 0 (.q 1 (.q 2 (.q 3 (.q 4 (.q 5 (.q 6 (.q 7 (.e 8 (.es 9 [0, 1, 2, 3, 4, 5, 6, 7] (.done))))))))))) mixed (by rfl) ?_
    simp only [push_cast, ↓reduceIte, Nat.reduceEqDiff, Nat.reduceAdd, Nat.reduceMul, Nat.reduceSub, Nat.reduceLT, Nat.reduceLeDiff, reduceCtorEq, Nat.reduceMod, Int.reduceEq, Int.reduceLT, Int.reduceLE, Int.reduceToNat, dite_true, hb]
    refine CallV.sl (withs F2 _ _ inn bd.args (hi.mono hF2) (hv'.mono hF2) (by omega)) ?_
    intro v3 F3 m hF3 hm hv3
    simp only [push_cast, ↓reduceIte, Nat.reduceEqDiff, Nat.reduceAdd, Nat.reduceMul, Nat.reduceSub, Nat.reduceLT, Nat.reduceLeDiff, reduceCtorEq, Nat.reduceMod, Int.reduceEq, Int.reduceLT, Int.reduceLE, Int.reduceToNat, dite_true, hb]
    refine CallV.own (i := 0) rfl (hE F3 b _ vb _ _ _ _ _ (argsC bd.at_ bd.args ⟨false, at_, ee⟩) (inn ++ bd.args) (hX'.mono (PH.le_trans hF2 hF3)) (sl_strs hm hv3) (hd'.mono' (PH.le_trans hF2 hF3)) hb (by simp; omega)) ?_
    rintro _ F4 _ hF4 rfl
    simp only [push_cast, ↓reduceIte, Nat.reduceEqDiff, Nat.reduceAdd, Nat.reduceMul, Nat.reduceSub, Nat.reduceLT, Nat.reduceLeDiff, reduceCtorEq, Nat.reduceMod, Int.reduceEq, Int.reduceLT, Int.reduceLE, Int.reduceToNat, dite_true]
    refine VC.go 100 ?_
    simp only [push_cast, ↓reduceIte, Nat.reduceEqDiff, Nat.reduceAdd, Nat.reduceMul, Nat.reduceSub, Nat.reduceLT, Nat.reduceLeDiff, reduceCtorEq, Nat.reduceMod, Int.reduceEq, Int.reduceLT, Int.reduceLE, Int.reduceToNat, dite_true]
    subst hr
    exact chk_ret rfl
end Go.Proofs.YtjeidgjhkjnkeaaDoor.K
