/- Scope: what must come at any rate; which programs are right; constructors and their fields. -/
import Derived.Test.YtjeidgjhkjnkeaaDoorP8
import Derived.Test.YtjeidgjhkjnkeaaDoorE16
namespace Go.Proofs.YtjeidgjhkjnkeaaDoor.P
open Go Go.Eng Go.Proofs Go.Proofs.YtjeidgjhkjnkeaaDoor.T Go.Proofs.YtjeidgjhkjnkeaaDoor.K
set_option linter.unusedSimpArgs false
set_option linter.unusedVariables false
set_option maxRecDepth 100000
set_option maxHeartbeats 4000000
def wakeX : Exp := .mk 1 7 (bs [102]) 0 [] [] [] []
def wakeY : Exp := .mk 4 0 (bs []) 0 [] [] [] []
def wakeB : Bind := .mk (bs [109, 97, 105, 110]) 0 [] wakeX
def wakeC : Bind := .mk (bs [102]) 0 [] wakeY
theorem wake1 : (checkC [] [wakeB]).at_ = 7 ∧ (checkC [] [wakeB]).e = 31 := by decide +kernel
theorem wake2 : (checkC [] [wakeB, wakeC]).at_ = 0 ∧ (checkC [] [wakeB, wakeC]).e = 0 := by decide +kernel
abbrev nilS : Value := .slice none 0 0
abbrev wakeBc : List Value := .string (bs [109, 97, 105, 110]) :: .int .i64 0 :: nilS :: expCells wakeX nilS nilS nilS nilS
abbrev wakeCc : List Value := .string (bs [102]) :: .int .i64 0 :: nilS :: expCells wakeY nilS nilS nilS nilS
theorem wakeXat (F : PH) : ExpAt F wakeX nilS nilS nilS nilS := ⟨⟨none, 0, rfl, Nat.le_refl _, Nat.zero_le _, rfl, fun h => absurd h (by simp [wakeX, Exp.atoms])⟩, nil_sle _ _ _, nil_sle _ _ _, nil_sle _ _ _⟩
theorem wakeYat (F : PH) : ExpAt F wakeY nilS nilS nilS nilS := ⟨⟨none, 0, rfl, Nat.le_refl _, Nat.zero_le _, rfl, fun h => absurd h (by simp [wakeY, Exp.atoms])⟩, nil_sle _ _ _, nil_sle _ _ _, nil_sle _ _ _⟩
theorem wakeBr (F : PH) : RBind F wakeB wakeBc := RBind_iff.2 ⟨nilS, _, rfl, nil_strs F, RExp_iff.2 ⟨_, _, _, _, rfl, wakeXat F⟩⟩
theorem wakeCr (F : PH) : RBind F wakeC wakeCc := RBind_iff.2 ⟨nilS, _, rfl, nil_strs F, RExp_iff.2 ⟨_, _, _, _, rfl, wakeYat F⟩⟩
theorem awake (F : PH) (hT : Table F) : PFn Tryd.prog 10 [] F (fun v _ => v = .bool true) := by
  refine Fn.intro (n := 45) (ts := [0]) Tryd.func10 rfl rfl rfl rfl (by simp) fun B hB => VC.go 100 ?_
  simp only [push_cast, ↓reduceIte, Nat.reduceEqDiff, Nat.reduceAdd, Nat.reduceMul, Nat.reduceSub, Nat.reduceLT, Nat.reduceLeDiff, reduceCtorEq, Nat.reduceMod, Int.reduceEq, Int.reduceLT, Int.reduceLE, Int.reduceToNat, dite_true]
  intro b1 b11 F1 hF1 hb11 b2
  have hs1 : Src F1 (some ⟨b11, 0, none⟩) (1 * 11) wakeBc := Src.blk hb11 rfl
  have hsl : SlE F1 11 (RBind F1) (.slice (some ⟨b11, 0, none⟩) 1 1) [wakeB] := ⟨wakeBc, ⟨_, _, rfl, Nat.le_refl _, one_max, hs1⟩, wakeBc, [], by simp, wakeBr F1, rfl⟩
  refine CallV.pure (check [] [wakeB] F1 nilS _ (nil_sle _ _ _) hsl (hT.mono hF1) (by decide)) ?_
  rintro _ F2 hF2 rfl
  rw [wake1.1, wake1.2]
  simp only [push_cast, ↓reduceIte, Nat.reduceEqDiff, Nat.reduceAdd, Nat.reduceMul, Nat.reduceSub, Nat.reduceLT, Nat.reduceLeDiff, reduceCtorEq, Nat.reduceMod, Int.reduceEq, Int.reduceLT, Int.reduceLE, Int.reduceToNat, dite_true]
  intro b23 F3 hF3 hb23
  have hs1' : Src F3 (some ⟨b11, 0, none⟩) (1 * 11) wakeBc := hs1.mono (PH.le_trans hF2 hF3)
  have hs2 : Src F3 (some ⟨b23, 0, none⟩) (1 * 11) wakeCc := Src.blk hb23 rfl
  refine Eff.appendG (xs := wakeBc) (ys := wakeCc) rfl rfl rfl ty23 rfl ty46 rfl (by decide) rfl rfl hs1' hs2 (Nat.le_refl _) (by decide) (by decide) (by decide) ?_
  intro v24 r24 hr24
  obtain ⟨p24, n24, c24, rfl⟩ := hr24.val
  simp only [push_cast, ↓reduceIte, Nat.reduceEqDiff, Nat.reduceAdd, Nat.reduceMul, Nat.reduceSub, Nat.reduceLT, Nat.reduceLeDiff, reduceCtorEq, Nat.reduceMod, Int.reduceEq, Int.reduceLT, Int.reduceLE, Int.reduceToNat, dite_true]
  refine CallV.lendPure (r := r24) (Rf := []) (Q := fun v => v = .tuple #[.int .i64 (checkC [] [wakeB, wakeC]).at_, .int .i64 (checkC [] [wakeB, wakeC]).e]) (List.Perm.refl _) ⟨_, Tryd.func8, rfl, rfl⟩ (fun hdj => ?_) ?_
  · obtain ⟨m, hm, hsl2⟩ := hr24.sl (PH.or_right hdj)
    have hm2 : m = 2 := by
      have hm' : 22 = m * 11 := hm
      omega
    subst hm2
    refine check [] [wakeB, wakeC] _ nilS _ (nil_sle _ _ _) ⟨wakeBc ++ wakeCc, hsl2, wakeBc, wakeCc, rfl, wakeBr _, wakeCc, [], by simp, wakeCr _, rfl⟩ (hT.mono (PH.le_trans hF1 (PH.le_trans hF2 (PH.le_trans hF3 (PH.or_left _ _))))) (by decide)
  rintro _ F4 hF4 rfl
  rw [wake2.1, wake2.2]
  simp only [push_cast, ↓reduceIte, Nat.reduceEqDiff, Nat.reduceAdd, Nat.reduceMul, Nat.reduceSub, Nat.reduceLT, Nat.reduceLeDiff, reduceCtorEq, Nat.reduceMod, Int.reduceEq, Int.reduceLT, Int.reduceLE, Int.reduceToNat, dite_true]
  exact RetOk.p rfl rfl
theorem law_checks (ds : List Dat) (bl : List Bind) (F : PH) (vd vb : Value) (hd : Dats F vd ds) (hbs : SlE F 11 (RBind F) vb bl) (hT : Table F) (hs : sizeBs bl ≤ 10000000) :
    PFn Tryd.prog 3 [.agg #[vd, vb]] F (fun v _ => v = .bool true) := by
  have hd' := hd
  have hb' := hbs
  obtain ⟨pd, cd, rfl, _, _⟩ := hd.val
  obtain ⟨pb, cb, rfl, _, _⟩ := hbs.val
  refine Fn.intro (n := 28) (ts := [2]) Tryd.func3 rfl rfl rfl rfl (by simp) fun B hB => VC.go 100 ?_
  simp only [push_cast, ↓reduceIte, Nat.reduceEqDiff, Nat.reduceAdd, Nat.reduceMul, Nat.reduceSub, Nat.reduceLT, Nat.reduceLeDiff, reduceCtorEq, Nat.reduceMod, Int.reduceEq, Int.reduceLT, Int.reduceLE, Int.reduceToNat, dite_true]
  intro b
  refine CallV.pure (check ds bl F _ _ hd' hb' hT hs) ?_
  rintro _ F1 hF1 rfl
  simp only [push_cast, ↓reduceIte, Nat.reduceEqDiff, Nat.reduceAdd, Nat.reduceMul, Nat.reduceSub, Nat.reduceLT, Nat.reduceLeDiff, reduceCtorEq, Nat.reduceMod, Int.reduceEq, Int.reduceLT, Int.reduceLE, Int.reduceToNat, dite_true]
  refine CallV.pure (K.check ds bl F1 _ _ (hd'.mono' hF1) (hb'.mono hF1 (fun _ _ _ h => h.mono hF1)) hs) ?_
  rintro _ F2 hF2 rfl
  simp only [push_cast, ↓reduceIte, Nat.reduceEqDiff, Nat.reduceAdd, Nat.reduceMul, Nat.reduceSub, Nat.reduceLT, Nat.reduceLeDiff, reduceCtorEq, Nat.reduceMod, Int.reduceEq, Int.reduceLT, Int.reduceLE, Int.reduceToNat, dite_true]
  refine CallV.pure (awake F2 (hT.mono (PH.le_trans hF1 hF2))) ?_
  rintro _ F3 hF3 rfl
  simp only [push_cast, ↓reduceIte, Nat.reduceEqDiff, Nat.reduceAdd, Nat.reduceMul, Nat.reduceSub, Nat.reduceLT, Nat.reduceLeDiff, reduceCtorEq, Nat.reduceMod, Int.reduceEq, Int.reduceLT, Int.reduceLE, Int.reduceToNat, dite_true]
  exact RetOk.p rfl (by simp [rval])
theorem arityS (F : PH) (dv bv : Value) (l : List Dat) (s : ByteArray) (hd : Dats F dv l) (hone : bv.oneCell' = true) : PFn Tryd.prog 14 [.agg #[dv, bv], .string s] F (fun v _ => v = arityV (arityD l s)) := by
  have hd' := hd
  obtain ⟨pl, cl, rfl, hl1, hl2⟩ := hd.val
  refine Fn.intro (n := 22) (ts := [4, 5]) Tryd.func14 rfl rfl rfl rfl (by simp) fun B hB => VC.go 100 ?_
  simp only [push_cast, ↓reduceIte, Nat.reduceEqDiff, Nat.reduceAdd, Nat.reduceMul, Nat.reduceSub, Nat.reduceLT, Nat.reduceLeDiff, reduceCtorEq, Nat.reduceMod, Int.reduceEq, Int.reduceLT, Int.reduceLE, Int.reduceToNat, dite_true, hone]
  intro b
  refine VC.loopL (fun i : Nat => [(11, .v (.int .i64 i)), (10, .v (.int .i64 l.length)), (9, .v (.slice pl l.length cl)), (1, .v (.string s))]) (fun i => i ≤ l.length ∧ ∀ j, ∀ hj : j < l.length, j < i → (l[j]).name ≠ s) (fun i => l.length - i) 0 ⟨Nat.zero_le _, fun _ _ h => absurd h (Nat.not_lt_zero _)⟩ (by simp [subk, Eng.look]) ?_
  intro i ⟨hi, ht⟩ G hG
  refine VC.go 100 ?_
  by_cases h : i < l.length
  case neg =>
    have h' : ¬ (i : Int) < (l.length : Int) := by omega
    simp only [push_cast, ↓reduceIte, Nat.reduceEqDiff, Nat.reduceAdd, Nat.reduceMul, Nat.reduceSub, Nat.reduceLT, Nat.reduceLeDiff, reduceCtorEq, Nat.reduceMod, Int.reduceEq, Int.reduceLT, Int.reduceLE, Int.reduceToNat, dite_true, h']
    exact RetOk.p rfl (by rw [arityD_none fun j hj => ht j hj (by omega)]; rfl)
  have h' : (i : Int) < (l.length : Int) := by omega
  have h0 : (0 : Int) ≤ (i : Int) := by omega
  obtain ⟨q, _, cs, eq, _, _, kl, kr⟩ := hd'.elem (by decide) (i := i) (a := l[i]) (List.getElem?_eq_getElem h) (fun _ _ h => h.len)
  cases eq
  obtain rfl := kr
  have e2 : IntKind.i64.wrap ((i : Int) + 1) = ((i + 1 : Nat) : Int) := wadd i h (Nat.le_trans hl1 hl2)
  by_cases g : (l[i]).name = s
  · simp only [push_cast, ↓reduceIte, Nat.reduceEqDiff, Nat.reduceAdd, Nat.reduceMul, Nat.reduceSub, Nat.reduceLT, Nat.reduceLeDiff, reduceCtorEq, Nat.reduceMod, Int.reduceEq, Int.reduceLT, Int.reduceLE, Int.reduceToNat, dite_true, h', h0, kl, eq_true g]
    intro b7
    exact RetOk.p rfl (by rw [arityD_at h ht g]; rfl)
  · simp only [push_cast, ↓reduceIte, Nat.reduceEqDiff, Nat.reduceAdd, Nat.reduceMul, Nat.reduceSub, Nat.reduceLT, Nat.reduceLeDiff, reduceCtorEq, Nat.reduceMod, Int.reduceEq, Int.reduceLT, Int.reduceLE, Int.reduceToNat, dite_true, h', h0, kl, g, e2]
    intro b7
    refine hG (i + 1) _ ⟨by omega, fun j hj hlt => ?_⟩ (by omega) (by simp [subk, Eng.look]) (by simp) rfl rfl
    by_cases e : j = i
    · subst e; exact g
    · exact ht j hj (by omega)
theorem law_arity (ds : List Dat) (F : PH) (vd vb : Value) (s : ByteArray) (hd : Dats F vd ds) (hone : vb.oneCell' = true) (hT : Table F) :
    PFn Tryd.prog 7 [.agg #[vd, vb], .string s] F (fun v _ => v = .bool true) := by
  have hd' := hd
  obtain ⟨pd, cd, rfl, _, _⟩ := hd.val
  refine Fn.intro (n := 32) (ts := [4]) Tryd.func7 rfl rfl rfl rfl (by simp) fun B hB => VC.go 100 ?_
  simp only [push_cast, ↓reduceIte, Nat.reduceEqDiff, Nat.reduceAdd, Nat.reduceMul, Nat.reduceSub, Nat.reduceLT, Nat.reduceLeDiff, reduceCtorEq, Nat.reduceMod, Int.reduceEq, Int.reduceLT, Int.reduceLE, Int.reduceToNat, dite_true, hone]
  intro b
  refine CallV.pure (arityS F _ vb ds s hd' hone) ?_
  rintro _ F1 hF1 rfl
  simp only [push_cast, ↓reduceIte, Nat.reduceEqDiff, Nat.reduceAdd, Nat.reduceMul, Nat.reduceSub, Nat.reduceLT, Nat.reduceLeDiff, reduceCtorEq, Nat.reduceMod, Int.reduceEq, Int.reduceLT, Int.reduceLE, Int.reduceToNat, dite_true, hone]
  refine CallV.pure (K.arity F1 _ vb ds s (hd'.mono' hF1) hone) ?_
  rintro _ F2 hF2 rfl
  simp only [push_cast, ↓reduceIte, Nat.reduceEqDiff, Nat.reduceAdd, Nat.reduceMul, Nat.reduceSub, Nat.reduceLT, Nat.reduceLeDiff, reduceCtorEq, Nat.reduceMod, Int.reduceEq, Int.reduceLT, Int.reduceLE, Int.reduceToNat, dite_true]
  refine CallV.pure (awake F2 (hT.mono (PH.le_trans hF1 hF2))) ?_
  rintro _ F3 hF3 rfl
  cases arityD ds s <;> (simp only [push_cast, ↓reduceIte, Nat.reduceEqDiff, Nat.reduceAdd, Nat.reduceMul, Nat.reduceSub, Nat.reduceLT, Nat.reduceLeDiff, reduceCtorEq, Nat.reduceMod, Int.reduceEq, Int.reduceLT, Int.reduceLE, Int.reduceToNat, dite_true, Option.isSome_none, Option.isSome_some, Option.getD_none, Option.getD_some]; exact RetOk.p rfl rfl)
end Go.Proofs.YtjeidgjhkjnkeaaDoor.P
