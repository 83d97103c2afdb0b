/- gen: what must come at any rate; every program has its code. -/
import Derived.Test.YtoepmdbicdoieaaDoorJ10
namespace Go.Proofs.YtoepmdbicdoieaaDoor.J
open Go Go.Eng Go.RowKit Go.Proofs Go.Proofs.YtoepmdbicdoieaaDoor.T Go.Proofs.YtoepmdbicdoieaaDoor.V Go.Proofs.YtoepmdbicdoieaaDoor.K Go.Proofs.YtoepmdbicdoieaaDoor.U
open Go.Proofs.YtoepmdbicdoieaaDoor.W (i64v ptr Ints RowE RMk RIns RInf RArm RNum RFrm src_one each_snoc Fits CompQ RCode Right nil_code nil_ints sle_one)
set_option linter.unusedSimpArgs false
set_option linter.unusedVariables false
set_option maxRecDepth 100000
set_option maxHeartbeats 4000000
def wkX : Exp := .mk 4 0 ⟨#[]⟩ 5 [] [] [] []
def wkB : Bind := .mk (bs [109, 97, 105, 110]) 0 [] wkX
abbrev nilV : Value := .slice none 0 0
def wkS : Sc := stepQ (env [] [wkB]) 0 ([], wkX) [] (begins [wkB])
theorem wk_check : (checkC [] [wkB]).e = 0 := by decide +kernel
theorem wk_run : RunQ (env [] [wkB]) 0 (begins [wkB]) wkS :=
  .step ([], wkX) [] rfl rfl rfl (.stop fun h => by have := h.1; revert this; decide)
theorem wk_facts : wkS.big = false ∧ wkS.ins.length = 2 ∧ wkS.infos.length = 1 := by decide
theorem wk_ins : ∃ i0 i1, wkS.ins = [i0, i1] ∧ i0.makes = [⟨2, 0, 5, []⟩] := ⟨_, _, rfl, rfl⟩
theorem wk_at (F : PH) : ExpAt F wkX nilV nilV nilV nilV := ⟨⟨none, 0, rfl, Nat.le_refl _, Nat.zero_le _, rfl, fun h => absurd h (by simp [wkX, Exp.atoms])⟩, nil_sle _ _ _, nil_sle _ _ _, nil_sle _ _ _⟩
theorem wkBr (F : PH) : RBind F wkB (.string (bs [109, 97, 105, 110]) :: .int .i64 0 :: nilV :: expCells wkX nilV nilV nilV nilV) := RBind_iff.2 ⟨nilV, _, rfl, nil_strs F, RExp_iff.2 ⟨_, _, _, _, rfl, wk_at F⟩⟩
theorem awake13 (F : PH) (hT : P.Table F) : PFn Tryd.prog 9 [] F (fun v _ => v = .bool true) := by
  refine Fn.intro (n := 43) (ts := [0]) Tryd.func9 rfl rfl rfl rfl (by simp) fun B hB => VC.go 100 ?_
  simp only [push_cast, ↓reduceIte, Nat.reduceEqDiff, Nat.reduceAdd, Nat.reduceMul, Nat.reduceSub, Nat.reduceLT, Nat.reduceLeDiff, reduceCtorEq, Nat.reduceMod, Int.reduceEq, Int.reduceLT, Int.reduceLE, Int.reduceToNat, dite_true]
  intro b8 F1 hF1 hb8
  refine CallV.pure (W.compile [] [wkB] F1 nilV (.slice (some ⟨b8, 0, none⟩) 1 1) (nil_sle _ _ _) (sle_one hb8 rfl (wkBr F1)) (hT.mono hF1) (by decide) (by decide) N.right_right) ?_
  rintro _ F2 hF2 ⟨c, at_, e, vc, vg, vi, vn, rfl, hc, hcomp⟩
  have hcode : c = codeOf [] [wkB] wkS ∧ at_ = 0 ∧ e = 0 := by
    refine compiles_one hcomp ?_
    unfold Compiles
    rw [if_pos wk_check]
    exact ⟨wkS, wk_run, rfl, by rw [if_neg (by rw [wk_facts.1]; decide)]; exact ⟨rfl, rfl⟩⟩
  obtain ⟨rfl, rfl, rfl⟩ := hcode
  obtain ⟨i0, i1, hins, hmk⟩ := wk_ins
  have h1 := hc.cons
  have h2 := hc.globals
  have h3 := hc.infos
  have h4 := hc.ins
  obtain ⟨p1, c1, rfl, _, _⟩ := h1.val
  obtain ⟨p2, c2, rfl, _, _⟩ := h2.val
  obtain ⟨p3, c3, rfl, _, _⟩ := h3.val
  have h4' := h4
  obtain ⟨p4, c4, rfl, _, _⟩ := h4.val
  have el3 : (codeOf [] [wkB] wkS).infos.length = 1 := wk_facts.2.2
  have el4 : (codeOf [] [wkB] wkS).ins.length = 2 := wk_facts.2.1
  obtain ⟨q, _, cs, eq, _, _, kl, kr⟩ := h4'.elem (by decide) (i := 0) (a := i0) (by show wkS.ins[0]? = _; rw [hins]; rfl) (fun _ _ h => h.len)
  cases eq
  obtain ⟨vl, vk, vm, va, rfl, _, _, hm, _⟩ := kr
  rw [hmk] at hm
  obtain ⟨q2, _, cs2, eq, _, _, kl2, kr2⟩ := hm.elem (by decide) (i := 0) (a := ⟨2, 0, 5, []⟩) rfl (fun _ _ h => h.len)
  subst eq
  obtain ⟨vf, rfl, _⟩ := kr2
  rw [Nat.zero_mul, add_zero'] at kl kl2
  have k5 := cell_at kl (o := 5) rfl
  have k2 := cell_at kl2 (o := 2) rfl
  simp only [push_cast, ↓reduceIte, Nat.reduceEqDiff, Nat.reduceAdd, Nat.reduceMul, Nat.reduceSub, Nat.reduceLT, Nat.reduceLeDiff, reduceCtorEq, Nat.reduceMod, Int.reduceEq, Int.reduceLT, Int.reduceLE, Int.reduceToNat, dite_true, el3, el4, Nat.zero_mul, add_zero', k5, k2, Int.reduceAdd]
  intro b
  exact RetOk.p rfl rfl
theorem law_compiles (ds : List Dat) (bs : List Bind) (F : PH) (vd vb : Value) (hd : Dats F vd ds) (hbs : SlE F 11 (RBind F) vb bs) (hT : P.Table F) (hs : sizeBs bs ≤ 4000000) (hdl : ds.length ≤ 10000000) :
    PFn Tryd.prog 3 [.agg #[vd, vb]] F (fun v _ => v = .bool true) := by
  have hd' := hd
  have hbs' := hbs
  obtain ⟨pd, cd, rfl, hd1, hd2⟩ := hd.val
  obtain ⟨pb, cb, rfl, hb1, hb2⟩ := hbs.val
  refine Fn.intro (n := 37) (ts := [2]) Tryd.func3 rfl rfl rfl rfl (by simp) fun B hB => VC.go 100 ?_
  simp only [push_cast, ↓reduceIte, Nat.reduceEqDiff, Nat.reduceAdd, Nat.reduceMul, Nat.reduceSub, Nat.reduceLT, Nat.reduceLeDiff, reduceCtorEq, Nat.reduceMod, Int.reduceEq, Int.reduceLT, Int.reduceLE, Int.reduceToNat, dite_true]
  intro b1
  refine CallV.pure (W.compile ds bs F _ _ hd' hbs' hT hs hdl N.right_right) ?_
  rintro _ F1 hF1 ⟨c, at_, e, vc, vg, vi, vn, rfl, hc, hcomp⟩
  have h1 := hc.cons
  have h2 := hc.globals
  have h3 := hc.infos
  have h4 := hc.ins
  obtain ⟨p1, c1, rfl, _, _⟩ := h1.val
  obtain ⟨p2, c2, rfl, _, _⟩ := h2.val
  obtain ⟨p3, c3, rfl, _, _⟩ := h3.val
  obtain ⟨p4, c4, rfl, _, _⟩ := h4.val
  simp only [push_cast, ↓reduceIte, Nat.reduceEqDiff, Nat.reduceAdd, Nat.reduceMul, Nat.reduceSub, Nat.reduceLT, Nat.reduceLeDiff, reduceCtorEq, Nat.reduceMod, Int.reduceEq, Int.reduceLT, Int.reduceLE, Int.reduceToNat, dite_true]
  intro b3
  refine CallV.pure (compile ds bs F1 _ _ (hd'.mono' hF1) (hbs'.mono hF1 fun _ _ _ h => h.mono hF1) (hT.mono hF1) hs hdl N.right_right) ?_
  rintro _ F2 hF2 ⟨c', at', e', vc', vg', vi', vn', rfl, hc', hcomp'⟩
  obtain ⟨rfl, rfl, rfl⟩ := compiles_one hcomp hcomp'
  have k1 := hc'.cons
  have k2 := hc'.globals
  have k3 := hc'.infos
  have k4 := hc'.ins
  obtain ⟨q1, d1, rfl, _, _⟩ := k1.val
  obtain ⟨q2, d2, rfl, _, _⟩ := k2.val
  obtain ⟨q3, d3, rfl, _, _⟩ := k3.val
  obtain ⟨q4, d4, rfl, _, _⟩ := k4.val
  simp only [push_cast, ↓reduceIte, Nat.reduceEqDiff, Nat.reduceAdd, Nat.reduceMul, Nat.reduceSub, Nat.reduceLT, Nat.reduceLeDiff, reduceCtorEq, Nat.reduceMod, Int.reduceEq, Int.reduceLT, Int.reduceLE, Int.reduceToNat, dite_true]
  intro b6
  refine CallV.pure (awake13 F2 (hT.mono (PH.le_trans hF1 hF2))) ?_
  rintro _ F3 hF3 rfl
  simp only [push_cast, ↓reduceIte, Nat.reduceEqDiff, Nat.reduceAdd, Nat.reduceMul, Nat.reduceSub, Nat.reduceLT, Nat.reduceLeDiff, reduceCtorEq, Nat.reduceMod, Int.reduceEq, Int.reduceLT, Int.reduceLE, Int.reduceToNat, dite_true]
  refine CallV.pure (same12 F3 c _ _ _ _ _ _ _ _ (hc.mono (PH.le_trans hF2 hF3)) (hc'.mono hF3)) ?_
  rintro _ F4 hF4 rfl
  simp only [push_cast, ↓reduceIte, Nat.reduceEqDiff, Nat.reduceAdd, Nat.reduceMul, Nat.reduceSub, Nat.reduceLT, Nat.reduceLeDiff, reduceCtorEq, Nat.reduceMod, Int.reduceEq, Int.reduceLT, Int.reduceLE, Int.reduceToNat, dite_true]
  exact RetOk.p rfl rfl
end Go.Proofs.YtoepmdbicdoieaaDoor.J
