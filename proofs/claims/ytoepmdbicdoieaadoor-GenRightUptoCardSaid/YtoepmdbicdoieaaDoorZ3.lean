/- The document's check of codes: let, on codes that are right. -/
import Derived.Test.YtoepmdbicdoieaaDoorZ2
namespace Go.Proofs.YtoepmdbicdoieaaDoor.Z
open Go Go.Eng Go.RowKit Go.Proofs Go.Proofs.YtoepmdbicdoieaaDoor.T Go.Proofs.YtoepmdbicdoieaaDoor.V Go.Proofs.YtoepmdbicdoieaaDoor.K Go.Proofs.YtoepmdbicdoieaaDoor.U Go.Proofs.YtoepmdbicdoieaaDoor.N
open Go.Proofs.YtoepmdbicdoieaaDoor.W (i64v ptr Ints RowE RMk RIns RInf RArm RNum RFrm src_one each_snoc Fits CompQ RCode nil_code nil_ints sle_one)
set_option linter.unusedSimpArgs false
set_option linter.unusedVariables false
set_option maxRecDepth 100000
set_option maxHeartbeats 4000000
theorem let12 (F : PH) (c : Cd) (v1 v2 v3 v4 : Value) (hc : RCode F c v1 v2 v3 v4) (at_ : Nat) (x : Ins) (cx : List Value) (hx : RIns F x cx)
    (hb0 : 0 ≤ x.b) (hb1 : x.b + x.makes.length ≤ 1000) (hne : x.makes ≠ []) (hmk : ∀ k ∈ x.makes, MkOK c (x.b + x.makes.length) k) (hnx : ∃ j, c.ins[at_ + 1]? = some j ∧ j.b = x.b + x.makes.length) :
    PFn Tryd.prog 58 [.agg #[v1, v2, v3, v4], i64v at_, .agg cx.toArray] F (fun v _ => v = i64v 0) := by
  have hc' := hc
  obtain ⟨p1, q1, rfl, l1, m1⟩ := hc.cons.val
  obtain ⟨p2, q2, rfl, l2, m2⟩ := hc.globals.val
  obtain ⟨p3, q3, rfl, l3, m3⟩ := hc.infos.val
  obtain ⟨p4, q4, rfl, l4, m4⟩ := hc.ins.val
  obtain ⟨vl, vk, vm, va, rfl, hx1, hx2, hx3, hx4⟩ := hx
  have hl := hx1
  have hk := hx2
  obtain ⟨pl, cl, rfl, _, _, _⟩ := hx1
  obtain ⟨pk, ck, rfl, _, _, _⟩ := hx2
  obtain ⟨pm, cm, rfl, lm, mm⟩ := hx3.val
  obtain ⟨pa, ca, rfl, la, ma⟩ := hx4.val
  have hne' : ¬ (x.makes.length : Int) = 0 := fun e => hne (List.length_eq_zero_iff.1 (by omega))
  have e4 : IntKind.i64.wrap (x.b + (x.makes.length : Int)) = x.b + (x.makes.length : Int) := w64 _ (by omega)
  obtain ⟨j, hj1, hj2⟩ := hnx
  have hj := (List.getElem?_eq_some_iff.1 hj1).1
  have e5 : IntKind.i64.wrap ((at_ : Int) + 1) = ((at_ + 1 : Nat) : Int) := wadd at_ (c := q4) (by omega) m4
  refine Fn.intro (n := 126) (ts := [6]) Tryd.func58 rfl rfl rfl rfl (by simp) fun B hB => VC.go 7 ?_
  simp only [push_cast, ↓reduceIte, Nat.reduceEqDiff, Nat.reduceAdd, Nat.reduceMul, Nat.reduceSub, Nat.reduceLT, Nat.reduceLeDiff, reduceCtorEq, Nat.reduceMod, Int.reduceEq, Int.reduceLT, Int.reduceLE, Int.reduceToNat, dite_true, hne']
  intro b3 b5
  refine VC.seq (VC.cutW (ι := PH) (fun _ => [(1, .v (i64v at_)), (3, .o 0 b3 0), (5, .o 1 b5 0)]) (fun _ => [⟨0, b3, 31, [.slice p1 c.cons.length q1, .slice p2 c.globals.length q2, .slice p3 c.infos.length q3, .slice p4 c.ins.length q4]⟩, ⟨1, b5, 89, [i64v x.op, i64v x.a, i64v x.b, .slice pl x.list.length cl, .slice pk x.keep.length ck, .slice pm x.makes.length cm, .slice pa x.arms.length ca]⟩]) (fun j => j) (fun _ => []) (fun j => F.le j) (fun G hG => ?_) ?_)
  · have hF1 := PH.le_refl F
    refine VC.go 100 ?_
    simp only [push_cast, ↓reduceIte, Nat.reduceEqDiff, Nat.reduceAdd, Nat.reduceMul, Nat.reduceSub, Nat.reduceLT, Nat.reduceLeDiff, reduceCtorEq, Nat.reduceMod, Int.reduceEq, Int.reduceLT, Int.reduceLE, Int.reduceToNat, dite_true]
    refine VC.loopW (ι := Nat × PH) (fun j => [(7, .v (i64v j.1)), (1, .v (i64v at_)), (3, .o 0 b3 0), (5, .o 1 b5 0)]) (fun _ => [⟨0, b3, 31, [.slice p1 c.cons.length q1, .slice p2 c.globals.length q2, .slice p3 c.infos.length q3, .slice p4 c.ins.length q4]⟩, ⟨1, b5, 89, [i64v x.op, i64v x.a, i64v x.b, .slice pl x.list.length cl, .slice pk x.keep.length ck, .slice pm x.makes.length cm, .slice pa x.arms.length ca]⟩]) (fun j => j.2) (fun _ => []) (fun j => j.1 ≤ x.makes.length ∧ F.le j.2) (fun j => x.makes.length - j.1) (0, F) ⟨Nat.zero_le _, PH.le_refl _⟩ (by simp [subk, Eng.look]) (List.Sublist.refl _) rfl (subR_refl _) ?_
    rintro ⟨i, F2⟩ ⟨hi, hF2'⟩ G1 hG1
    dsimp only at hi hF2' hG1 ⊢
    have hF2 : F.le F2 := PH.le_trans hF1 hF2'
    refine VC.go 100 ?_
    by_cases h : i < x.makes.length
    case neg =>
      have h' : ¬ (i : Int) < (x.makes.length : Int) := by omega
      simp only [push_cast, ↓reduceIte, Nat.reduceEqDiff, Nat.reduceAdd, Nat.reduceMul, Nat.reduceSub, Nat.reduceLT, Nat.reduceLeDiff, reduceCtorEq, Nat.reduceMod, Int.reduceEq, Int.reduceLT, Int.reduceLE, Int.reduceToNat, dite_true, h']
      exact hG F2 _ hF2 (by simp [subk, Eng.look]) (List.Sublist.refl _) rfl (subR_refl _)
    have h' : (i : Int) < (x.makes.length : Int) := by omega
    have h0 : (0 : Int) ≤ (i : Int) := by omega
    have e2 : IntKind.i64.wrap ((i : Int) + 1) = ((i + 1 : Nat) : Int) := wadd i h (Nat.le_trans lm mm)
    obtain ⟨qa, _, csa, eq, _, _, kla, kra⟩ := (hx3.mono (R' := RMk F2) hF2 (fun _ _ _ h => h.mono hF2)).elem (by decide) (i := i) (a := x.makes[i]) (List.getElem?_eq_getElem h) (fun _ _ h => h.len)
    cases eq
    obtain ⟨vf, rfl, hvf⟩ := kra
    have hvf' := hvf
    obtain ⟨pf, cf, rfl, _, _, _⟩ := hvf
    have k3 := cell_at kla (o := 3) rfl
    simp only [push_cast, ↓reduceIte, Nat.reduceEqDiff, Nat.reduceAdd, Nat.reduceMul, Nat.reduceSub, Nat.reduceLT, Nat.reduceLeDiff, reduceCtorEq, Nat.reduceMod, Int.reduceEq, Int.reduceLT, Int.reduceLE, Int.reduceToNat, dite_true, h']
    refine VC.draw (.q 0 (.q 1 (.q 2 (.q 3 (.q 4 (.q 5 (.e 6 (.q 7 (.done))))))))) mixed (by rfl) ?_
    simp only [push_cast, ↓reduceIte, Nat.reduceEqDiff, Nat.reduceAdd, Nat.reduceMul, Nat.reduceSub, Nat.reduceLT, Nat.reduceLeDiff, reduceCtorEq, Nat.reduceMod, Int.reduceEq, Int.reduceLT, Int.reduceLE, Int.reduceToNat, dite_true, h', h0, kla]
    refine CallV.pure (takes F2 c _ _ _ _ (code_mono hF2 hc') (x.b + x.makes.length) x.makes[i] _ hvf' (hmk _ (List.getElem_mem h))) ?_
    rintro _ F3 hF3 rfl
    have k3' := PH.le.cell hF3 k3
    simp only [push_cast, ↓reduceIte, Nat.reduceEqDiff, Nat.reduceAdd, Nat.reduceMul, Nat.reduceSub, Nat.reduceLT, Nat.reduceLeDiff, reduceCtorEq, Nat.reduceMod, Int.reduceEq, Int.reduceLT, Int.reduceLE, Int.reduceToNat, dite_true]
    refine VC.go 100 ?_
    simp only [push_cast, ↓reduceIte, Nat.reduceEqDiff, Nat.reduceAdd, Nat.reduceMul, Nat.reduceSub, Nat.reduceLT, Nat.reduceLeDiff, reduceCtorEq, Nat.reduceMod, Int.reduceEq, Int.reduceLT, Int.reduceLE, Int.reduceToNat, dite_true, h', h0, k3', e2, ne_eq, not_true_eq_false, decide_false]
    exact hG1 (i + 1, F3) _ ⟨by omega, PH.le_trans hF2' hF3⟩ (by simp; omega) (by simp [subk, Eng.look]) (List.Sublist.refl _) rfl (subR_refl _)
  intro F1 hF1
  refine VC.seq (VC.cutW (ι := PH) (fun _ => [(1, .v (i64v at_)), (3, .o 0 b3 0), (5, .o 1 b5 0)]) (fun _ => [⟨0, b3, 31, [.slice p1 c.cons.length q1, .slice p2 c.globals.length q2, .slice p3 c.infos.length q3, .slice p4 c.ins.length q4]⟩, ⟨1, b5, 89, [i64v x.op, i64v x.a, i64v x.b, .slice pl x.list.length cl, .slice pk x.keep.length ck, .slice pm x.makes.length cm, .slice pa x.arms.length ca]⟩]) (fun j => j) (fun _ => []) (fun j => F.le j) (fun G hG => ?_) ?_)
  · refine VC.go 100 ?_
    simp only [push_cast, ↓reduceIte, Nat.reduceEqDiff, Nat.reduceAdd, Nat.reduceMul, Nat.reduceSub, Nat.reduceLT, Nat.reduceLeDiff, reduceCtorEq, Nat.reduceMod, Int.reduceEq, Int.reduceLT, Int.reduceLE, Int.reduceToNat, dite_true]
    refine VC.loopW (ι := Nat × PH) (fun j => [(9, .v (i64v j.1)), (1, .v (i64v at_)), (3, .o 0 b3 0), (5, .o 1 b5 0)]) (fun _ => [⟨0, b3, 31, [.slice p1 c.cons.length q1, .slice p2 c.globals.length q2, .slice p3 c.infos.length q3, .slice p4 c.ins.length q4]⟩, ⟨1, b5, 89, [i64v x.op, i64v x.a, i64v x.b, .slice pl x.list.length cl, .slice pk x.keep.length ck, .slice pm x.makes.length cm, .slice pa x.arms.length ca]⟩]) (fun j => j.2) (fun _ => []) (fun j => j.1 ≤ x.makes.length ∧ F1.le j.2) (fun j => x.makes.length - j.1) (0, F1) ⟨Nat.zero_le _, PH.le_refl _⟩ (by simp [subk, Eng.look]) (List.Sublist.refl _) rfl (subR_refl _) ?_
    rintro ⟨i, F2⟩ ⟨hi, hF2'⟩ G1 hG1
    dsimp only at hi hF2' hG1 ⊢
    have hF2 : F.le F2 := PH.le_trans hF1 hF2'
    refine VC.go 100 ?_
    by_cases h : i < x.makes.length
    case neg =>
      have h' : ¬ (i : Int) < (x.makes.length : Int) := by omega
      simp only [push_cast, ↓reduceIte, Nat.reduceEqDiff, Nat.reduceAdd, Nat.reduceMul, Nat.reduceSub, Nat.reduceLT, Nat.reduceLeDiff, reduceCtorEq, Nat.reduceMod, Int.reduceEq, Int.reduceLT, Int.reduceLE, Int.reduceToNat, dite_true, h']
      exact hG F2 _ hF2 (by simp [subk, Eng.look]) (List.Sublist.refl _) rfl (subR_refl _)
    have h' : (i : Int) < (x.makes.length : Int) := by omega
    have h0 : (0 : Int) ≤ (i : Int) := by omega
    have e2 : IntKind.i64.wrap ((i : Int) + 1) = ((i + 1 : Nat) : Int) := wadd i h (Nat.le_trans lm mm)
    obtain ⟨qa, _, csa, eq, _, _, kla, kra⟩ := (hx3.mono (R' := RMk F2) hF2 (fun _ _ _ h => h.mono hF2)).elem (by decide) (i := i) (a := x.makes[i]) (List.getElem?_eq_getElem h) (fun _ _ h => h.len)
    cases eq
    obtain ⟨vf, rfl, hvf⟩ := kra
    have hvf' := hvf
    obtain ⟨pf, cf, rfl, _, _, _⟩ := hvf
    have hmi := hmk _ (List.getElem_mem h)
    simp only [push_cast, ↓reduceIte, Nat.reduceEqDiff, Nat.reduceAdd, Nat.reduceMul, Nat.reduceSub, Nat.reduceLT, Nat.reduceLeDiff, reduceCtorEq, Nat.reduceMod, Int.reduceEq, Int.reduceLT, Int.reduceLE, Int.reduceToNat, dite_true, h', h0, kla]
    intro b10
    have hlen : ¬ ((x.makes[i]).frm.length : Int) < 0 := by omega
    refine CallV.pure (takes F2 c _ _ _ _ (code_mono hF2 hc') (x.b + x.makes.length) x.makes[i] _ hvf' hmi) ?_
    rintro _ F3 hF3 rfl
    simp only [push_cast, ↓reduceIte, Nat.reduceEqDiff, Nat.reduceAdd, Nat.reduceMul, Nat.reduceSub, Nat.reduceLT, Nat.reduceLeDiff, reduceCtorEq, Nat.reduceMod, Int.reduceEq, Int.reduceLT, Int.reduceLE, Int.reduceToNat, dite_true, hlen]
    by_cases n7 : (x.makes[i]).kind = 7
    case neg =>
      refine VC.draw (.q 0 (.q 1 (.q 2 (.q 3 (.q 4 (.q 5 (.q 6 (.e 7 (.q 8 (.q 9 (.q 10 (.q 11 (.q 12 (.q 13 (.q 14 (.q 15 (.q 16 (.q 17 (.q 18 (.q 19 (.q 20 (.q 21 (.q 22 (.q 23 (.q 24 (.q 25 (.q 26 (.done)))))))))))))))))))))))))))) mixed (by rfl) ?_
      simp only [push_cast, ↓reduceIte, Nat.reduceEqDiff, Nat.reduceAdd, Nat.reduceMul, Nat.reduceSub, Nat.reduceLT, Nat.reduceLeDiff, reduceCtorEq, Nat.reduceMod, Int.reduceEq, Int.reduceLT, Int.reduceLE, Int.reduceToNat, dite_true, n7]
      refine VC.go 100 ?_
      simp only [push_cast, ↓reduceIte, Nat.reduceEqDiff, Nat.reduceAdd, Nat.reduceMul, Nat.reduceSub, Nat.reduceLT, Nat.reduceLeDiff, reduceCtorEq, Nat.reduceMod, Int.reduceEq, Int.reduceLT, Int.reduceLE, Int.reduceToNat, dite_true, e2]
      exact hG1 (i + 1, F3) _ ⟨by omega, PH.le_trans hF2' hF3⟩ (by simp; omega) (by simp [subk, Eng.look]) (List.sublist_append_left [_, _] [_]) rfl (subR_refl _)
    rcases hmi.1 with ⟨g1, _⟩ | ⟨g1, _⟩ | ⟨g1, g2, m, y, g3, g4, g5, g6⟩ | ⟨g1, _⟩
    · omega
    · omega
    rotate_left
    · omega
    have hm := (List.getElem?_eq_some_iff.1 g4).1
    obtain ⟨qb, _, csb, eq, _, _, klb, krb⟩ := (hc'.cons.mono (R' := RNum) (PH.le_trans hF2 hF3) (fun _ _ _ h => h)).elem (by decide) g4 (fun _ _ h => h.len)
    cases eq
    unfold RNum at krb
    subst krb
    have kb := cell_at klb (o := 1) rfl
    have hm0 : (0 : Int) ≤ (m : Int) := by omega
    have hm' : (m : Int) < (c.cons.length : Int) := by omega
    have n5 : ¬ (x.makes[i]).n < 0 := by omega
    have n6 : ¬ y.2 ≤ (x.makes[i]).n := by omega
    refine VC.draw (.q 0 (.q 1 (.q 2 (.q 3 (.q 4 (.q 5 (.q 6 (.e 7 (.q 8 (.q 9 (.q 10 (.q 11 (.q 12 (.q 13 (.q 14 (.q 15 (.q 16 (.q 17 (.q 18 (.q 19 (.q 20 (.q 21 (.q 22 (.q 23 (.q 24 (.q 25 (.q 26 (.done)))))))))))))))))))))))))))) mixed (by rfl) ?_
    simp only [push_cast, ↓reduceIte, Nat.reduceEqDiff, Nat.reduceAdd, Nat.reduceMul, Nat.reduceSub, Nat.reduceLT, Nat.reduceLeDiff, reduceCtorEq, Nat.reduceMod, Int.reduceEq, Int.reduceLT, Int.reduceLE, Int.reduceToNat, dite_true, g1, g3]
    refine CallV.pure (con F3 c _ _ _ _ (code_mono (PH.le_trans hF2 hF3) hc') m hm) ?_
    rintro _ F4 hF4 rfl
    have kb' := PH.le.cell hF4 kb
    simp only [push_cast, ↓reduceIte, Nat.reduceEqDiff, Nat.reduceAdd, Nat.reduceMul, Nat.reduceSub, Nat.reduceLT, Nat.reduceLeDiff, reduceCtorEq, Nat.reduceMod, Int.reduceEq, Int.reduceLT, Int.reduceLE, Int.reduceToNat, dite_true, hm0, hm', kb', n5, n6]
    refine VC.go 100 ?_
    simp only [push_cast, ↓reduceIte, Nat.reduceEqDiff, Nat.reduceAdd, Nat.reduceMul, Nat.reduceSub, Nat.reduceLT, Nat.reduceLeDiff, reduceCtorEq, Nat.reduceMod, Int.reduceEq, Int.reduceLT, Int.reduceLE, Int.reduceToNat, dite_true, e2]
    exact hG1 (i + 1, F4) _ ⟨by omega, PH.le_trans hF2' (PH.le_trans hF3 hF4)⟩ (by simp; omega) (by simp [subk, Eng.look]) (List.sublist_append_left [_, _] [_]) rfl (subR_refl _)
  intro F1 hF1
  refine VC.seq (VC.cutW (ι := PH) (fun _ => [(1, .v (i64v at_)), (3, .o 0 b3 0), (5, .o 1 b5 0)]) (fun _ => [⟨0, b3, 31, [.slice p1 c.cons.length q1, .slice p2 c.globals.length q2, .slice p3 c.infos.length q3, .slice p4 c.ins.length q4]⟩, ⟨1, b5, 89, [i64v x.op, i64v x.a, i64v x.b, .slice pl x.list.length cl, .slice pk x.keep.length ck, .slice pm x.makes.length cm, .slice pa x.arms.length ca]⟩]) (fun j => j) (fun _ => []) (fun j => F.le j) (fun G hG => ?_) ?_)
  · refine VC.go 100 ?_
    simp only [push_cast, ↓reduceIte, Nat.reduceEqDiff, Nat.reduceAdd, Nat.reduceMul, Nat.reduceSub, Nat.reduceLT, Nat.reduceLeDiff, reduceCtorEq, Nat.reduceMod, Int.reduceEq, Int.reduceLT, Int.reduceLE, Int.reduceToNat, dite_true]
    refine VC.loopW (ι := Nat × PH) (fun j => [(11, .v (i64v j.1)), (1, .v (i64v at_)), (3, .o 0 b3 0), (5, .o 1 b5 0)]) (fun _ => [⟨0, b3, 31, [.slice p1 c.cons.length q1, .slice p2 c.globals.length q2, .slice p3 c.infos.length q3, .slice p4 c.ins.length q4]⟩, ⟨1, b5, 89, [i64v x.op, i64v x.a, i64v x.b, .slice pl x.list.length cl, .slice pk x.keep.length ck, .slice pm x.makes.length cm, .slice pa x.arms.length ca]⟩]) (fun j => j.2) (fun _ => []) (fun j => j.1 ≤ x.makes.length ∧ F1.le j.2) (fun j => x.makes.length - j.1) (0, F1) ⟨Nat.zero_le _, PH.le_refl _⟩ (by simp [subk, Eng.look]) (List.Sublist.refl _) rfl (subR_refl _) ?_
    rintro ⟨i, F2⟩ ⟨hi, hF2'⟩ G1 hG1
    dsimp only at hi hF2' hG1 ⊢
    have hF2 : F.le F2 := PH.le_trans hF1 hF2'
    refine VC.go 100 ?_
    by_cases h : i < x.makes.length
    case neg =>
      have h' : ¬ (i : Int) < (x.makes.length : Int) := by omega
      simp only [push_cast, ↓reduceIte, Nat.reduceEqDiff, Nat.reduceAdd, Nat.reduceMul, Nat.reduceSub, Nat.reduceLT, Nat.reduceLeDiff, reduceCtorEq, Nat.reduceMod, Int.reduceEq, Int.reduceLT, Int.reduceLE, Int.reduceToNat, dite_true, h']
      exact hG F2 _ hF2 (by simp [subk, Eng.look]) (List.Sublist.refl _) rfl (subR_refl _)
    have h' : (i : Int) < (x.makes.length : Int) := by omega
    have h0 : (0 : Int) ≤ (i : Int) := by omega
    have e2 : IntKind.i64.wrap ((i : Int) + 1) = ((i + 1 : Nat) : Int) := wadd i h (Nat.le_trans lm mm)
    obtain ⟨qa, _, csa, eq, _, _, kla, kra⟩ := (hx3.mono (R' := RMk F2) hF2 (fun _ _ _ h => h.mono hF2)).elem (by decide) (i := i) (a := x.makes[i]) (List.getElem?_eq_getElem h) (fun _ _ h => h.len)
    cases eq
    obtain ⟨vf, rfl, hvf⟩ := kra
    have hvf' := hvf
    obtain ⟨pf, cf, rfl, _, _, _⟩ := hvf
    have k3 := cell_at kla (o := 3) rfl
    have hmi := hmk _ (List.getElem_mem h)
    simp only [push_cast, ↓reduceIte, Nat.reduceEqDiff, Nat.reduceAdd, Nat.reduceMul, Nat.reduceSub, Nat.reduceLT, Nat.reduceLeDiff, reduceCtorEq, Nat.reduceMod, Int.reduceEq, Int.reduceLT, Int.reduceLE, Int.reduceToNat, dite_true, h']
    refine VC.draw (.q 0 (.q 1 (.q 2 (.q 3 (.q 4 (.q 5 (.q 6 (.q 7 (.q 8 (.q 9 (.q 10 (.q 11 (.q 12 (.e 13 (.done))))))))))))))) mixed (by rfl) ?_
    simp only [push_cast, ↓reduceIte, Nat.reduceEqDiff, Nat.reduceAdd, Nat.reduceMul, Nat.reduceSub, Nat.reduceLT, Nat.reduceLeDiff, reduceCtorEq, Nat.reduceMod, Int.reduceEq, Int.reduceLT, Int.reduceLE, Int.reduceToNat, dite_true, h', h0, k3, e4]
    refine CallV.pure (outside F2 c _ _ _ _ (code_mono hF2 hc') (x.b + x.makes.length) _ _ hvf' hmi.2) ?_
    rintro _ F3 hF3 rfl
    simp only [push_cast, ↓reduceIte, Nat.reduceEqDiff, Nat.reduceAdd, Nat.reduceMul, Nat.reduceSub, Nat.reduceLT, Nat.reduceLeDiff, reduceCtorEq, Nat.reduceMod, Int.reduceEq, Int.reduceLT, Int.reduceLE, Int.reduceToNat, dite_true]
    refine VC.go 100 ?_
    simp only [push_cast, ↓reduceIte, Nat.reduceEqDiff, Nat.reduceAdd, Nat.reduceMul, Nat.reduceSub, Nat.reduceLT, Nat.reduceLeDiff, reduceCtorEq, Nat.reduceMod, Int.reduceEq, Int.reduceLT, Int.reduceLE, Int.reduceToNat, dite_true, e2]
    exact hG1 (i + 1, F3) _ ⟨by omega, PH.le_trans hF2' hF3⟩ (by simp; omega) (by simp [subk, Eng.look]) (List.Sublist.refl _) rfl (subR_refl _)
  intro F1 hF1
  refine VC.go 100 ?_
  simp only [push_cast, ↓reduceIte, Nat.reduceEqDiff, Nat.reduceAdd, Nat.reduceMul, Nat.reduceSub, Nat.reduceLT, Nat.reduceLeDiff, reduceCtorEq, Nat.reduceMod, Int.reduceEq, Int.reduceLT, Int.reduceLE, Int.reduceToNat, dite_true, e5]
  refine CallV.pure (there F1 c _ _ _ _ (code_mono hF1 hc') (at_ + 1) hj) ?_
  rintro _ F2 hF2 rfl
  have hF02 := PH.le_trans hF1 hF2
  obtain ⟨qa, _, csa, eq, _, _, kla, kra⟩ := (hc'.ins.mono (R' := RIns F2) hF02 (fun _ _ _ h => h.mono hF02)).elem (by decide) hj1 (fun _ _ h => h.len)
  cases eq
  obtain ⟨wl, wk, wm, wa, rfl, _, _, _, _⟩ := kra
  have k2 := cell_at kla (o := 2) rfl
  have h0 : (0 : Int) ≤ ((at_ + 1 : Nat) : Int) := by omega
  have h' : ((at_ + 1 : Nat) : Int) < (c.ins.length : Int) := by omega
  rw [Int.natCast_add, Int.natCast_one] at h0 h'
  simp only [push_cast, ↓reduceIte, Nat.reduceEqDiff, Nat.reduceAdd, Nat.reduceMul, Nat.reduceSub, Nat.reduceLT, Nat.reduceLeDiff, reduceCtorEq, Nat.reduceMod, Int.reduceEq, Int.reduceLT, Int.reduceLE, Int.reduceToNat, dite_true]
  refine VC.draw (.q 0 (.q 1 (.q 2 (.q 3 (.q 4 (.q 5 (.q 6 (.q 7 (.q 8 (.q 9 (.q 10 (.q 11 (.q 12 (.q 13 (.done))))))))))))))) mixed (by rfl) ?_
  have tn : ((at_ : Int) + 1).toNat = at_ + 1 := by omega
  simp only [push_cast, ↓reduceIte, Nat.reduceEqDiff, Nat.reduceAdd, Nat.reduceMul, Nat.reduceSub, Nat.reduceLT, Nat.reduceLeDiff, reduceCtorEq, Nat.reduceMod, Int.reduceEq, Int.reduceLT, Int.reduceLE, Int.reduceToNat, dite_true, e4, e5, h0, h', tn, k2, hj2]
  refine VC.go 100 ?_
  simp only [push_cast, ↓reduceIte, Nat.reduceEqDiff, Nat.reduceAdd, Nat.reduceMul, Nat.reduceSub, Nat.reduceLT, Nat.reduceLeDiff, reduceCtorEq, Nat.reduceMod, Int.reduceEq, Int.reduceLT, Int.reduceLE, Int.reduceToNat, dite_true, ne_eq, not_true_eq_false, decide_false]
  exact RetOk.p rfl rfl
end Go.Proofs.YtoepmdbicdoieaaDoor.Z
