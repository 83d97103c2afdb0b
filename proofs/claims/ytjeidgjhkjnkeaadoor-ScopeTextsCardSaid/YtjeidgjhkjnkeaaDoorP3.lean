/- Package scope: forms. -/
import Derived.Test.YtjeidgjhkjnkeaaDoorP2
import Derived.Test.YtjeidgjhkjnkeaaDoorX3
import Derived.Test.YtjeidgjhkjnkeaaDoorK3
namespace Go.Proofs.YtjeidgjhkjnkeaaDoor.P
open Go Go.Eng Go.Proofs Go.Proofs.YtjeidgjhkjnkeaaDoor.T Go.Proofs.YtjeidgjhkjnkeaaDoor.K
set_option linter.unusedSimpArgs false
set_option linter.unusedVariables false
set_option maxRecDepth 100000
set_option maxHeartbeats 4000000
/-- The map of constructors. -/
def Cons (F : PH) (mb : Nat) (ds : List Dat) : Prop := ∃ es c l, F mb = some (.map es c) ∧ MapAs Value.string es l ∧ ∀ s, mget l s = (arityD ds s).map (Value.int .i64)
theorem Cons.mono {F G : PH} {mb : Nat} {ds : List Dat} (h : Cons F mb ds) (hl : F.le G) : Cons G mb ds := let ⟨es, c, l, h1, h2⟩ := h; ⟨es, c, l, hl _ _ h1, h2⟩
/-- The contract of the walk over one expression. -/
def ExpS (ds : List Dat) (e : Exp) : Prop := ∀ (F : PH) (b mb : Nat) (v vs va w1 we wl : Value) (c : Ck) (inn : List ByteArray), RepC F c v → ExpAt F e va w1 we wl → ScpL F vs inn → Cons F mb ds → Table F → inn.length + e.size ≤ 100000000 →
  SFn 36 [.agg (expCells e va w1 we wl).toArray, vs] F b mb v (expC ds e inn c)
theorem whenC_bad {p : Prop} [Decidable p] {c : Ck} {a e : Int} (h : c.bad = true) : whenC p c a e = c := by
  unfold whenC; split
  · exact failC_bad h
  · rfl
theorem argsS (a : Int) (l : List ByteArray) (c : Ck) : whenC ((whenC (hasB l ⟨#[]⟩ = true) (whenC (8 < l.length) c a 33) a 31).bad = false ∧ twiceB [] l = true) (whenC (hasB l ⟨#[]⟩ = true) (whenC (8 < l.length) c a 33) a 31) a 30 = argsC a l c := by
  obtain ⟨bad, at_, ee⟩ := c
  cases bad with
  | true =>
    have h1 : ∀ (p : Prop) [Decidable p] (e : Int), whenC p ⟨true, at_, ee⟩ a e = ⟨true, at_, ee⟩ := fun p _ e => whenC_bad rfl
    rw [h1, h1, h1]
    unfold argsC
    split
    · rfl
    split
    · rfl
    split
    · rfl
    · rfl
  | false =>
    unfold argsC
    by_cases g1 : 8 < l.length
    · simp [whenC, g1, failC]
    by_cases g2 : hasB l ⟨#[]⟩ = true
    · simp [whenC, g1, g2, failC]
    by_cases g3 : twiceB [] l = true
    · simp [whenC, g1, g2, g3, failC]
    · simp [whenC, g1, g2, g3, failC]
theorem form (ds : List Dat) (bd : Bind) (hE : ExpS ds bd.body) (F : PH) (b mb : Nat) (v vs w va w1 we wl : Value) (c : Ck) (inn : List ByteArray) (hr : RepC F c v) (hv : Strs F w bd.args) (hX : ExpAt F bd.body va w1 we wl) (hs : ScpL F vs inn) (hd : Cons F mb ds) (hT : Table F) (hsz : inn.length + bd.size ≤ 100000000) :
    SFn 18 [.agg (.string bd.name :: .int .i64 bd.at_ :: w :: expCells bd.body va w1 we wl).toArray, vs] F b mb v (formC ds bd inn c) := by
  have hX' := hX
  obtain ⟨pa, ca, pb, cb, pe, ce, pl, cl, rfl, rfl, rfl, rfl⟩ := hX.slices
  have hv' := hv
  obtain ⟨pv, cv, rfl, hv1, hv2, hv3⟩ := hv
  have hbs := bsize_eq bd
  have hal := sizeS_len bd.args
  have hone := hr.one
  -- what the arguments leave
  have hargs : formC ds bd inn c = expC ds bd.body (inn ++ bd.args) (argsC bd.at_ bd.args c) := by
    rw [formC_eq]
    split
    · rename_i hb
      have : argsC bd.at_ bd.args c = c := by
        unfold argsC
        split
        · exact failC_bad hb
        split
        · exact failC_bad hb
        split
        · exact failC_bad hb
        · rfl
      rw [this, expC_eq, if_pos hb]
    · rfl
  rw [hargs]
  clear hargs
  refine OFn.intro (n := 49) (ts := []) Tryd.func18 rfl rfl rfl rfl (by simp) fun B hB => ?_
  refine VC.go 5 ?_
  simp only [push_cast, ↓reduceIte, Nat.reduceEqDiff, Nat.reduceAdd, Nat.reduceMul, Nat.reduceSub, Nat.reduceLT, Nat.reduceLeDiff, reduceCtorEq, Nat.reduceMod, Int.reduceEq, Int.reduceLT, Int.reduceLE, Int.reduceToNat, dite_true, hone]
  intro bx b6
  refine VC.cutM (ι := Value × Ck × PH) (fun i => [(6, .o 2 b6 0), (4, .o 1 bx 0), (2, .v vs), (0, .o 0 b 0)]) (fun i => [⟨0, b, 55, [.map (some mb), i.1]⟩, ⟨1, bx, 46, .string bd.name :: .int .i64 bd.at_ :: .slice pv bd.args.length cv :: expCells bd.body (.slice pa bd.body.atoms.length ca) (.slice pb bd.body.binds.length cb) (.slice pe bd.body.kids.length ce) (.slice pl bd.body.alts.length cl)⟩, ⟨2, b6, 35, [.slice pv bd.args.length cv]⟩]) (fun i => i.2.2) (fun i => F.le i.2.2 ∧ RepC i.2.2 i.2.1 i.1 ∧ i.2.1 = whenC (8 < bd.args.length) c bd.at_ 33) ?_ ?_
  · intro G hG
    refine VC.go 100 ?_
    by_cases h8 : 8 < bd.args.length
    · have h8' : (8 : Int) < (bd.args.length : Int) := by omega
      simp only [push_cast, ↓reduceIte, Nat.reduceEqDiff, Nat.reduceAdd, Nat.reduceMul, Nat.reduceSub, Nat.reduceLT, Nat.reduceLeDiff, reduceCtorEq, Nat.reduceMod, Int.reduceEq, Int.reduceLT, Int.reduceLE, Int.reduceToNat, dite_true, h8', hone]
      refine CallV.own (i := 0) rfl (fail F b mb v c bd.at_ 33 hr) ?_
      rintro _ F2 _ hF2 ⟨v2, rfl, hr2⟩
      simp only [push_cast, ↓reduceIte, Nat.reduceEqDiff, Nat.reduceAdd, Nat.reduceMul, Nat.reduceSub, Nat.reduceLT, Nat.reduceLeDiff, reduceCtorEq, Nat.reduceMod, Int.reduceEq, Int.reduceLT, Int.reduceLE, Int.reduceToNat, dite_true]
      exact hG (v2, failC c bd.at_ 33, F2) _ ⟨hF2, hr2, by rw [whenC, if_pos h8]⟩ (by simp [subk, Eng.look]) (List.Sublist.refl _) rfl rfl
    · have h8' : ¬ (8 : Int) < (bd.args.length : Int) := by omega
      simp only [push_cast, ↓reduceIte, Nat.reduceEqDiff, Nat.reduceAdd, Nat.reduceMul, Nat.reduceSub, Nat.reduceLT, Nat.reduceLeDiff, reduceCtorEq, Nat.reduceMod, Int.reduceEq, Int.reduceLT, Int.reduceLE, Int.reduceToNat, dite_true, h8', hone]
      exact hG (v, c, F) _ ⟨PH.le_refl _, hr, by rw [whenC, if_neg h8]⟩ (by simp [subk, Eng.look]) (List.Sublist.refl _) rfl rfl
  rintro ⟨v1, c1, F1⟩ ⟨hF1, hr1, hc1⟩
  dsimp only at hF1 hr1 hc1 ⊢
  have hone1 := hr1.one
  refine VC.go 1 ?_
  simp only [push_cast, ↓reduceIte, Nat.reduceEqDiff, Nat.reduceAdd, Nat.reduceMul, Nat.reduceSub, Nat.reduceLT, Nat.reduceLeDiff, reduceCtorEq, Nat.reduceMod, Int.reduceEq, Int.reduceLT, Int.reduceLE, Int.reduceToNat, dite_true]
  refine VC.cutM (ι := Value × Ck × PH) (fun i => [(6, .o 2 b6 0), (4, .o 1 bx 0), (2, .v vs), (0, .o 0 b 0)]) (fun i => [⟨0, b, 55, [.map (some mb), i.1]⟩, ⟨1, bx, 46, .string bd.name :: .int .i64 bd.at_ :: .slice pv bd.args.length cv :: expCells bd.body (.slice pa bd.body.atoms.length ca) (.slice pb bd.body.binds.length cb) (.slice pe bd.body.kids.length ce) (.slice pl bd.body.alts.length cl)⟩, ⟨2, b6, 35, [.slice pv bd.args.length cv]⟩]) (fun i => i.2.2) (fun i => F1.le i.2.2 ∧ RepC i.2.2 i.2.1 i.1 ∧ i.2.1 = whenC (hasB bd.args ⟨#[]⟩ = true) c1 bd.at_ 31) ?_ ?_
  · intro G hG
    refine VC.go 100 ?_
    simp only [push_cast, ↓reduceIte, Nat.reduceEqDiff, Nat.reduceAdd, Nat.reduceMul, Nat.reduceSub, Nat.reduceLT, Nat.reduceLeDiff, reduceCtorEq, Nat.reduceMod, Int.reduceEq, Int.reduceLT, Int.reduceLE, Int.reduceToNat, dite_true, hone1]
    refine CallV.pure (empty F1 _ bd.args (hv'.mono hF1)) ?_
    rintro _ F2 hF2 rfl
    cases hh : hasB bd.args ⟨#[]⟩ with
    | true =>
      simp only [push_cast, ↓reduceIte, Nat.reduceEqDiff, Nat.reduceAdd, Nat.reduceMul, Nat.reduceSub, Nat.reduceLT, Nat.reduceLeDiff, reduceCtorEq, Nat.reduceMod, Int.reduceEq, Int.reduceLT, Int.reduceLE, Int.reduceToNat, dite_true, hone1]
      refine CallV.own (i := 0) rfl (fail F2 b mb v1 c1 bd.at_ 31 (hr1.mono hF2)) ?_
      rintro _ F3 _ hF3 ⟨v3, rfl, hr3⟩
      simp only [push_cast, ↓reduceIte, Nat.reduceEqDiff, Nat.reduceAdd, Nat.reduceMul, Nat.reduceSub, Nat.reduceLT, Nat.reduceLeDiff, reduceCtorEq, Nat.reduceMod, Int.reduceEq, Int.reduceLT, Int.reduceLE, Int.reduceToNat, dite_true]
      exact hG (v3, failC c1 bd.at_ 31, F3) _ ⟨PH.le_trans hF2 hF3, hr3, by rw [whenC, hh, if_pos rfl]⟩ (by simp [subk, Eng.look]) (List.Sublist.refl _) rfl rfl
    | false =>
      simp only [push_cast, ↓reduceIte, Nat.reduceEqDiff, Nat.reduceAdd, Nat.reduceMul, Nat.reduceSub, Nat.reduceLT, Nat.reduceLeDiff, reduceCtorEq, Nat.reduceMod, Int.reduceEq, Int.reduceLT, Int.reduceLE, Int.reduceToNat, dite_true, hone1]
      exact hG (v1, c1, F2) _ ⟨hF2, hr1.mono hF2, by rw [whenC, hh, if_neg Bool.false_ne_true]⟩ (by simp [subk, Eng.look]) (List.Sublist.refl _) rfl rfl
  rintro ⟨v2, c2, F2⟩ ⟨hF2, hr2, hc2⟩
  dsimp only at hF2 hr2 hc2 ⊢
  have hF12 := PH.le_trans hF1 hF2
  refine VC.freeze (m := ⟨2, b6, 35, [.slice pv bd.args.length cv]⟩) (M := [⟨0, b, 55, [.map (some mb), v2]⟩, ⟨1, bx, 46, .string bd.name :: .int .i64 bd.at_ :: .slice pv bd.args.length cv :: expCells bd.body (.slice pa bd.body.atoms.length ca) (.slice pb bd.body.binds.length cb) (.slice pe bd.body.kids.length ce) (.slice pl bd.body.alts.length cl)⟩]) (List.perm_middle (l₁ := [_, _]) (l₂ := [])) fun F3 hF3 hb6 => ?_
  refine VC.reL [(6, .v (.pointer (some ⟨b6, 0, none⟩))), (4, .o 1 bx 0), (2, .v vs), (0, .o 0 b 0)] (by simp [subv, Eng.look, AV.val]) ?_
  have hc6 : F3.cell ⟨b6, 0, none⟩ = some (.slice pv bd.args.length cv) := by rw [cell_one hb6]; rfl
  have hF13 := PH.le_trans hF12 hF3
  have hr3 := hr2.mono hF3
  refine VC.go 1 ?_
  simp only [push_cast, ↓reduceIte, Nat.reduceEqDiff, Nat.reduceAdd, Nat.reduceMul, Nat.reduceSub, Nat.reduceLT, Nat.reduceLeDiff, reduceCtorEq, Nat.reduceMod, Int.reduceEq, Int.reduceLT, Int.reduceLE, Int.reduceToNat, dite_true]
  refine VC.cutM (ι := Value × Ck × PH) (fun i => [(6, .v (.pointer (some ⟨b6, 0, none⟩))), (4, .o 1 bx 0), (2, .v vs), (0, .o 0 b 0)]) (fun i => [⟨0, b, 55, [.map (some mb), i.1]⟩, ⟨1, bx, 46, .string bd.name :: .int .i64 bd.at_ :: .slice pv bd.args.length cv :: expCells bd.body (.slice pa bd.body.atoms.length ca) (.slice pb bd.body.binds.length cb) (.slice pe bd.body.kids.length ce) (.slice pl bd.body.alts.length cl)⟩]) (fun i => i.2.2) (fun i => F3.le i.2.2 ∧ RepC i.2.2 i.2.1 i.1 ∧ i.2.1 = whenC (c2.bad = false ∧ twiceB [] bd.args = true) c2 bd.at_ 30) ?_ ?_
  · intro G hG
    refine VC.go 1 ?_
    simp only [push_cast, ↓reduceIte, Nat.reduceEqDiff, Nat.reduceAdd, Nat.reduceMul, Nat.reduceSub, Nat.reduceLT, Nat.reduceLeDiff, reduceCtorEq, Nat.reduceMod, Int.reduceEq, Int.reduceLT, Int.reduceLE, Int.reduceToNat, dite_true]
    refine VC.draw (.q 0 (.q 1 (.q 2 (.q 3 (.q 4 (.q 5 (.q 6 (.q 7 (.q 8 (.q 10 (.q 11 (.e 9 (.q 12 (.q 13 (.done))))))))))))))) mixed (by rfl) ?_
    rcases hr3 with ⟨rfl, rfl⟩ | ⟨a', e', b', rfl, rfl, hb'⟩
    · simp only [push_cast, ↓reduceIte, Nat.reduceEqDiff, Nat.reduceAdd, Nat.reduceMul, Nat.reduceSub, Nat.reduceLT, Nat.reduceLeDiff, reduceCtorEq, Nat.reduceMod, Int.reduceEq, Int.reduceLT, Int.reduceLE, Int.reduceToNat, dite_true, Option.isNone_none, hc6]
      refine CallV.pure (twice F3 bd.args.length (Nat.le_trans hv1 hv2) _ #[] #[.pointer (some ⟨b6, 0, none⟩)] (fun i k => decide (bd.args.getD i (bs []) = bd.args.getD k (bs []))) fun i k hi hk F' hF' => like_form F' b6 _ bd.args (hF'.cell hc6) (hv'.mono (PH.le_trans hF13 hF')) i k hi hk) ?_
      rintro _ F4 hF4 ⟨i, rfl, hdup⟩
      obtain ⟨d1, d2, _⟩ := dupAt_twice hdup
      by_cases hi : i < bd.args.length
      · have hi' : (i : Int) < (bd.args.length : Int) := by omega
        simp only [push_cast, ↓reduceIte, Nat.reduceEqDiff, Nat.reduceAdd, Nat.reduceMul, Nat.reduceSub, Nat.reduceLT, Nat.reduceLeDiff, reduceCtorEq, Nat.reduceMod, Int.reduceEq, Int.reduceLT, Int.reduceLE, Int.reduceToNat, dite_true, hi', hF4.cell hc6]
        refine VC.go 100 ?_
        simp only [push_cast, ↓reduceIte, Nat.reduceEqDiff, Nat.reduceAdd, Nat.reduceMul, Nat.reduceSub, Nat.reduceLT, Nat.reduceLeDiff, reduceCtorEq, Nat.reduceMod, Int.reduceEq, Int.reduceLT, Int.reduceLE, Int.reduceToNat, dite_true]
        refine CallV.own (i := 0) rfl (fail F4 b mb _ ⟨false, 0, 0⟩ bd.at_ 30 (.inl ⟨rfl, rfl⟩)) ?_
        rintro _ F5 _ hF5 ⟨v5, rfl, hr5⟩
        simp only [push_cast, ↓reduceIte, Nat.reduceEqDiff, Nat.reduceAdd, Nat.reduceMul, Nat.reduceSub, Nat.reduceLT, Nat.reduceLeDiff, reduceCtorEq, Nat.reduceMod, Int.reduceEq, Int.reduceLT, Int.reduceLE, Int.reduceToNat, dite_true]
        exact hG (v5, failC ⟨false, 0, 0⟩ bd.at_ 30, F5) _ ⟨PH.le_trans hF4 hF5, hr5, by rw [whenC, if_pos ⟨rfl, d2.1 hi⟩]⟩ (by simp [subk, Eng.look]) (List.Sublist.refl _) rfl rfl
      · have hi' : ¬ (i : Int) < (bd.args.length : Int) := by omega
        simp only [push_cast, ↓reduceIte, Nat.reduceEqDiff, Nat.reduceAdd, Nat.reduceMul, Nat.reduceSub, Nat.reduceLT, Nat.reduceLeDiff, reduceCtorEq, Nat.reduceMod, Int.reduceEq, Int.reduceLT, Int.reduceLE, Int.reduceToNat, dite_true, hi', hF4.cell hc6]
        refine VC.go 100 ?_
        simp only [push_cast, ↓reduceIte, Nat.reduceEqDiff, Nat.reduceAdd, Nat.reduceMul, Nat.reduceSub, Nat.reduceLT, Nat.reduceLeDiff, reduceCtorEq, Nat.reduceMod, Int.reduceEq, Int.reduceLT, Int.reduceLE, Int.reduceToNat, dite_true]
        exact hG (.pointer none, ⟨false, 0, 0⟩, F4) _ ⟨hF4, .inl ⟨rfl, rfl⟩, by rw [whenC, if_neg (fun h => hi (d2.2 h.2))]⟩ (by simp [subk, Eng.look]) (List.Sublist.refl _) rfl rfl
    · simp only [push_cast, ↓reduceIte, Nat.reduceEqDiff, Nat.reduceAdd, Nat.reduceMul, Nat.reduceSub, Nat.reduceLT, Nat.reduceLeDiff, reduceCtorEq, Nat.reduceMod, Int.reduceEq, Int.reduceLT, Int.reduceLE, Int.reduceToNat, dite_true, Option.isNone_some, hc6]
      refine VC.go 100 ?_
      simp only [push_cast, ↓reduceIte, Nat.reduceEqDiff, Nat.reduceAdd, Nat.reduceMul, Nat.reduceSub, Nat.reduceLT, Nat.reduceLeDiff, reduceCtorEq, Nat.reduceMod, Int.reduceEq, Int.reduceLT, Int.reduceLE, Int.reduceToNat, dite_true]
      exact hG (.pointer (some ⟨b', 0, none⟩), ⟨true, a', e'⟩, F3) _ ⟨PH.le_refl _, .inr ⟨a', e', b', rfl, rfl, hb'⟩, by rw [whenC, if_neg (fun h => nomatch h.1)]⟩ (by simp [subk, Eng.look]) (List.Sublist.refl _) rfl rfl
  rintro ⟨v4, c4, F4⟩ ⟨hF4, hr4, hc4⟩
  dsimp only at hF4 hr4 hc4 ⊢
  have hF14 := PH.le_trans hF13 hF4
  have hone4 := hr4.one
  have harg : c4 = argsC bd.at_ bd.args c := by rw [hc4, hc2, hc1]; exact argsS _ _ _
  clear hc4 hc2 hc1
  subst harg
  refine VC.draw (.q 0 (.q 1 (.q 2 (.q 3 (.q 4 (.q 5 (.e 6 (.es 7 [0, 1, 2, 3, 4, 5] (.done))))))))) mixed (by rfl) ?_
  simp only [push_cast, ↓reduceIte, Nat.reduceEqDiff, Nat.reduceAdd, Nat.reduceMul, Nat.reduceSub, Nat.reduceLT, Nat.reduceLeDiff, reduceCtorEq, Nat.reduceMod, Int.reduceEq, Int.reduceLT, Int.reduceLE, Int.reduceToNat, dite_true, hF4.cell hc6, hone4]
  refine CallV.pure (withL F4 vs _ inn bd.args (hs.mono hF14) (hv'.mono hF14)) ?_
  intro v5 F5 hF5 hs5
  simp only [push_cast, ↓reduceIte, Nat.reduceEqDiff, Nat.reduceAdd, Nat.reduceMul, Nat.reduceSub, Nat.reduceLT, Nat.reduceLeDiff, reduceCtorEq, Nat.reduceMod, Int.reduceEq, Int.reduceLT, Int.reduceLE, Int.reduceToNat, dite_true, (PH.le_trans hF4 hF5).cell hc6, hone4]
  refine CallV.own (i := 0) rfl (hE F5 b mb v4 v5 _ _ _ _ (argsC bd.at_ bd.args c) (inn ++ bd.args) (hr4.mono hF5) (hX'.mono (PH.le_trans hF14 hF5)) hs5 (hd.mono (PH.le_trans hF14 hF5)) (hT.mono (PH.le_trans hF14 hF5)) (by simp; omega)) ?_
  rintro _ F6 _ hF6 ⟨v6, rfl, hr6⟩
  simp only [push_cast, ↓reduceIte, Nat.reduceEqDiff, Nat.reduceAdd, Nat.reduceMul, Nat.reduceSub, Nat.reduceLT, Nat.reduceLeDiff, reduceCtorEq, Nat.reduceMod, Int.reduceEq, Int.reduceLT, Int.reduceLE, Int.reduceToNat, dite_true, (PH.le_trans hF4 (PH.le_trans hF5 hF6)).cell hc6]
  refine VC.go 100 ?_
  simp only [push_cast, ↓reduceIte, Nat.reduceEqDiff, Nat.reduceAdd, Nat.reduceMul, Nat.reduceSub, Nat.reduceLT, Nat.reduceLeDiff, reduceCtorEq, Nat.reduceMod, Int.reduceEq, Int.reduceLT, Int.reduceLE, Int.reduceToNat, dite_true]
  exact sret rfl hr6
end Go.Proofs.YtjeidgjhkjnkeaaDoor.P
