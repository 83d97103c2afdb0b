/- What is laid for every form: the law. -/
import Derived.Test.YtlgfajdedmajcaaC2
import Derived.Test.YtlgfajdedmajcaaV3
namespace Go.Proofs.Ytlgfajdedmajcaa.V
open Go Go.Eng Go.Proofs Go.Proofs.Ytlgfajdedmajcaa.T
set_option linter.unusedSimpArgs false
set_option linter.unusedVariables false
set_option maxRecDepth 100000
def bs (l : List UInt8) : ByteArray := ⟨l.toArray⟩
def wakeExp : Exp := .mk 1 0 (bs [102]) 0 [(bs [120], 0), (bs [121], 0), (bs [102], 0)] [] [] []
theorem nil_strs (F : PH) : Strs F (.slice none 0 0) [] := ⟨none, 0, rfl, Nat.le_refl _, Nat.zero_le _, rfl, fun h => absurd h (by simp)⟩
theorem nil_sle {α : Type} (F : PH) (sz : Nat) (R : α → List Value → Prop) : SlE F sz R (.slice none 0 0) [] := ⟨[], ⟨none, 0, rfl, Nat.le_refl _, Nat.zero_le _, by simp, fun h => absurd h (by simp)⟩, rfl⟩
theorem awake10 (F : PH) : PFn Try.prog 18 [] F (fun v _ => v = .bool true) := by
  refine Fn.intro (n := 33) (ts := [0]) Try.func18 rfl rfl rfl rfl (by simp) fun B hB => VC.go 100 ?_
  simp only [push_cast, ↓reduceIte, Nat.reduceEqDiff, Nat.reduceAdd, Nat.reduceMul, Nat.reduceSub, Nat.reduceLT, Nat.reduceLeDiff, reduceCtorEq, Nat.reduceMod, Int.reduceEq, Int.reduceLT, Int.reduceLE, Int.reduceToNat, dite_true]
  intro b1 F1 hF1 hb1 b2 b3 F2 hF2 hb3
  have hx : ExpAt F2 wakeExp (.slice (some ⟨b1, 0, none⟩) 3 3) (.slice none 0 0) (.slice none 0 0) (.slice none 0 0) :=
    ⟨⟨_, _, rfl, Nat.le_refl _, by decide, (Src.blk hb1 rfl).mono hF2⟩, nil_sle _ _ _, nil_sle _ _ _, nil_sle _ _ _⟩
  have hs : wakeExp.size ≤ 100000000 := by decide
  have hW := within_all _ wakeExp rfl hs
  refine CallV.sl (free F2 ([bs [120]], wakeExp) _ _ _ _ _ (strs_blk (l := [bs [120]]) hb3 one_max) hx hW hs) ?_
  intro v F3 m hF3 hm hv
  have hr : lessL (within wakeExp) [bs [120]] = [bs [102], bs [121]] := by decide +kernel
  have hv2 := sl_strs hm hv
  simp only [hr] at hv2
  obtain ⟨p, c, rfl, k1, k2, k3⟩ := hv2
  obtain ⟨a, rfl, ha0⟩ := k3.elem1 (i := 0) rfl
  obtain ⟨_, e, ha1⟩ := k3.elem1 (i := 1) rfl
  cases e
  have e0 : ({ data := #[102] } : ByteArray) = bs [102] := rfl
  have e1 : ({ data := #[121] } : ByteArray) = bs [121] := rfl
  simp only [push_cast, ↓reduceIte, Nat.reduceEqDiff, Nat.reduceAdd, Nat.reduceMul, Nat.reduceSub, Nat.reduceLT, Nat.reduceLeDiff, reduceCtorEq, Nat.reduceMod, Int.reduceEq, Int.reduceLT, Int.reduceLE, Int.reduceToNat, dite_true, ha0, ha1, e0, e1, Int.reduceAdd]
  refine CallV.pure (clas F3 ([], wakeExp) (.slice none 0 0) _ _ _ _ (nil_strs _) (hx.mono hF3)) ?_
  rintro _ F4 hF4 rfl
  simp only [push_cast, ↓reduceIte, Nat.reduceEqDiff, Nat.reduceAdd, Nat.reduceMul, Nat.reduceSub, Nat.reduceLT, Nat.reduceLeDiff, reduceCtorEq, Nat.reduceMod, Int.reduceEq, Int.reduceLT, Int.reduceLE, Int.reduceToNat, dite_true, show classOf [] wakeExp = 6 from by decide +kernel]
  exact RetOk.p rfl rfl
theorem law_class (F : PH) (f : List ByteArray × Exp) (v va vb ve vl : Value) (hv : Strs F v f.1) (h : ExpAt F f.2 va vb ve vl) : PFn Try.prog 6 [.agg (v :: expCells f.2 va vb ve vl).toArray] F (fun v _ => v = .bool true) := by
  have hv' := hv
  obtain ⟨pv, cv, rfl, hv1, hv2, hv3⟩ := hv
  obtain ⟨_, _, _, _, _, _, _, _, rfl, rfl, rfl, rfl⟩ := h.slices
  refine Fn.intro (n := 53) (ts := [2]) Try.func6 rfl rfl rfl rfl (by simp) fun B hB => VC.go 100 ?_
  simp only [push_cast, ↓reduceIte, Nat.reduceEqDiff, Nat.reduceAdd, Nat.reduceMul, Nat.reduceSub, Nat.reduceLT, Nat.reduceLeDiff, reduceCtorEq, Nat.reduceMod, Int.reduceEq, Int.reduceLT, Int.reduceLE, Int.reduceToNat, dite_true]
  intro b
  refine CallV.pure (field F f _ _ _ _ _ hv' h) ?_
  rintro _ F1 hF1 rfl
  simp only [push_cast, ↓reduceIte, Nat.reduceEqDiff, Nat.reduceAdd, Nat.reduceMul, Nat.reduceSub, Nat.reduceLT, Nat.reduceLeDiff, reduceCtorEq, Nat.reduceMod, Int.reduceEq, Int.reduceLT, Int.reduceLE, Int.reduceToNat, dite_true]
  refine CallV.pure (reffield F1 f _ _ _ _ _ (hv'.mono hF1) (h.mono hF1)) ?_
  rintro _ F2 hF2 rfl
  have hF12 := PH.le_trans hF1 hF2
  simp only [push_cast, ↓reduceIte, Nat.reduceEqDiff, Nat.reduceAdd, Nat.reduceMul, Nat.reduceSub, Nat.reduceLT, Nat.reduceLeDiff, reduceCtorEq, Nat.reduceMod, Int.reduceEq, Int.reduceLT, Int.reduceLE, Int.reduceToNat, dite_true]
  refine VC.draw (.e 0 (.q 1 (.q 2 (.q 3 (.q 4 (.q 5 (.q 6 (.q 7 (.q 8 (.q 9 (.q 10 (.q 11 (.q 12 (.q 13 (.q 14 (.q 15 (.q 16 (.q 17 (.q 18 (.q 19 (.q 20 (.q 21 (.q 22 (.q 24 (.e 23 (.e 25 (.q 26 (.q 27 (.q 28 (.done)))))))))))))))))))))))))))))) mixed (by rfl) ?_
  simp only [push_cast, ↓reduceIte, Nat.reduceEqDiff, Nat.reduceAdd, Nat.reduceMul, Nat.reduceSub, Nat.reduceLT, Nat.reduceLeDiff, reduceCtorEq, Nat.reduceMod, Int.reduceEq, Int.reduceLT, Int.reduceLE, Int.reduceToNat, dite_true]
  refine CallV.pure (awake10 F2) ?_
  rintro _ F3 hF3 rfl
  have hF13 := PH.le_trans hF12 hF3
  simp only [push_cast, ↓reduceIte, Nat.reduceEqDiff, Nat.reduceAdd, Nat.reduceMul, Nat.reduceSub, Nat.reduceLT, Nat.reduceLeDiff, reduceCtorEq, Nat.reduceMod, Int.reduceEq, Int.reduceLT, Int.reduceLE, Int.reduceToNat, dite_true]
  refine CallV.pure (clas F3 f _ _ _ _ _ (hv'.mono hF13) (h.mono hF13)) ?_
  rintro _ F4 hF4 rfl
  have hF14 := PH.le_trans hF13 hF4
  simp only [push_cast, ↓reduceIte, Nat.reduceEqDiff, Nat.reduceAdd, Nat.reduceMul, Nat.reduceSub, Nat.reduceLT, Nat.reduceLeDiff, reduceCtorEq, Nat.reduceMod, Int.reduceEq, Int.reduceLT, Int.reduceLE, Int.reduceToNat, dite_true]
  refine CallV.pure (refclas F4 f _ _ _ _ _ (hv'.mono hF14) (h.mono hF14)) ?_
  rintro _ F5 hF5 rfl
  simp only [push_cast, ↓reduceIte, Nat.reduceEqDiff, Nat.reduceAdd, Nat.reduceMul, Nat.reduceSub, Nat.reduceLT, Nat.reduceLeDiff, reduceCtorEq, Nat.reduceMod, Int.reduceEq, Int.reduceLT, Int.reduceLE, Int.reduceToNat, dite_true]
  refine VC.go 100 ?_
  simp only [push_cast, ↓reduceIte, Nat.reduceEqDiff, Nat.reduceAdd, Nat.reduceMul, Nat.reduceSub, Nat.reduceLT, Nat.reduceLeDiff, reduceCtorEq, Nat.reduceMod, Int.reduceEq, Int.reduceLT, Int.reduceLE, Int.reduceToNat, dite_true]
  exact RetOk.p rfl rfl
end Go.Proofs.Ytlgfajdedmajcaa.V
