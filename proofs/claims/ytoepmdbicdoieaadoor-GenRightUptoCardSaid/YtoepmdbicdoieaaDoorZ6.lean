/- The document's check of codes, on codes that are right. -/
import Derived.Test.YtoepmdbicdoieaaDoorZ5
namespace Go.Proofs.YtoepmdbicdoieaaDoor.Z
open Go Go.Eng Go.RowKit Go.Proofs Go.Proofs.YtoepmdbicdoieaaDoor.T Go.Proofs.YtoepmdbicdoieaaDoor.V Go.Proofs.YtoepmdbicdoieaaDoor.K Go.Proofs.YtoepmdbicdoieaaDoor.U Go.Proofs.YtoepmdbicdoieaaDoor.N
open Go.Proofs.YtoepmdbicdoieaaDoor.W (i64v ptr Ints RowE RMk RIns RInf RArm RNum RFrm src_one each_snoc Fits CompQ RCode nil_code nil_ints sle_one)
set_option linter.unusedSimpArgs false
set_option linter.unusedVariables false
set_option maxRecDepth 100000
set_option maxHeartbeats 4000000
theorem check12 (F : PH) (c : Cd) (v1 v2 v3 v4 : Value) (hc : RCode F c v1 v2 v3 v4) (hK : CodeOK c) :
    PFn Tryd.prog 11 [.agg #[v1, v2, v3, v4]] F (fun v _ => v = .tuple #[i64v 0, i64v 0]) := by
  have hc' := hc
  obtain ⟨p1, q1, rfl, l1, m1⟩ := hc.cons.val
  obtain ⟨p2, q2, rfl, l2, m2⟩ := hc.globals.val
  obtain ⟨p3, q3, rfl, l3, m3⟩ := hc.infos.val
  obtain ⟨p4, q4, rfl, l4, m4⟩ := hc.ins.val
  refine Fn.intro (n := 98) (ts := [2, 3]) Tryd.func11 rfl rfl rfl rfl (by simp) fun B hB => VC.go 2 ?_
  simp only [push_cast, ↓reduceIte, Nat.reduceEqDiff, Nat.reduceAdd, Nat.reduceMul, Nat.reduceSub, Nat.reduceLT, Nat.reduceLeDiff, reduceCtorEq, Nat.reduceMod, Int.reduceEq, Int.reduceLT, Int.reduceLE, Int.reduceToNat, dite_true]
  intro b1
  refine VC.seq (VC.cutW (ι := PH) (fun _ => [(1, .o 0 b1 0)]) (fun _ => [⟨0, b1, 31, [.slice p1 c.cons.length q1, .slice p2 c.globals.length q2, .slice p3 c.infos.length q3, .slice p4 c.ins.length q4]⟩]) (fun j => j) (fun _ => []) (fun j => F.le j) (fun G hG => ?_) ?_)
  · have hF1 := PH.le_refl F
    refine VC.go 100 ?_
    simp only [push_cast, ↓reduceIte, Nat.reduceEqDiff, Nat.reduceAdd, Nat.reduceMul, Nat.reduceSub, Nat.reduceLT, Nat.reduceLeDiff, reduceCtorEq, Nat.reduceMod, Int.reduceEq, Int.reduceLT, Int.reduceLE, Int.reduceToNat, dite_true]
    refine VC.loopW (ι := Nat × PH) (fun j => [(4, .v (i64v j.1)), (1, .o 0 b1 0)]) (fun _ => [⟨0, b1, 31, [.slice p1 c.cons.length q1, .slice p2 c.globals.length q2, .slice p3 c.infos.length q3, .slice p4 c.ins.length q4]⟩]) (fun j => j.2) (fun _ => []) (fun j => j.1 ≤ c.cons.length ∧ F.le j.2) (fun j => c.cons.length - j.1) (0, F) ⟨Nat.zero_le _, PH.le_refl _⟩ (by simp [subk, Eng.look]) (List.Sublist.refl _) rfl (subR_refl _) ?_
    rintro ⟨i, F2⟩ ⟨hi, hF2'⟩ G1 hG1
    dsimp only at hi hF2' hG1 ⊢
    have hF2 : F.le F2 := PH.le_trans hF1 hF2'
    refine VC.go 100 ?_
    by_cases h : i < c.cons.length
    case neg =>
      have h' : ¬ (i : Int) < (c.cons.length : Int) := by omega
      simp only [push_cast, ↓reduceIte, Nat.reduceEqDiff, Nat.reduceAdd, Nat.reduceMul, Nat.reduceSub, Nat.reduceLT, Nat.reduceLeDiff, reduceCtorEq, Nat.reduceMod, Int.reduceEq, Int.reduceLT, Int.reduceLE, Int.reduceToNat, dite_true, h']
      exact hG F2 _ hF2 (by simp [subk, Eng.look]) (List.Sublist.refl _) rfl (subR_refl _)
    have h' : (i : Int) < (c.cons.length : Int) := by omega
    have h0 : (0 : Int) ≤ (i : Int) := by omega
    have e2 : IntKind.i64.wrap ((i : Int) + 1) = ((i + 1 : Nat) : Int) := wadd i h (Nat.le_trans l1 m1)
    have hat := List.getElem?_eq_getElem h
    obtain ⟨qa, _, csa, eq, _, _, kla, kra⟩ := (hc'.cons.mono (R' := RNum) hF2 (fun _ _ _ h => h)).elem (by decide) hat (fun _ _ h => h.len)
    cases eq
    unfold RNum at kra
    subst kra
    have k1 := cell_at kla (o := 1) rfl
    obtain ⟨g1, g2⟩ := hK.cons i _ hat
    have g1' : ¬ (c.cons[i]).2 < 0 := by omega
    have g2' : ¬ 8 < (c.cons[i]).2 := by omega
    simp only [push_cast, ↓reduceIte, Nat.reduceEqDiff, Nat.reduceAdd, Nat.reduceMul, Nat.reduceSub, Nat.reduceLT, Nat.reduceLeDiff, reduceCtorEq, Nat.reduceMod, Int.reduceEq, Int.reduceLT, Int.reduceLE, Int.reduceToNat, dite_true, h', h0, k1, g1', g2', e2]
    exact hG1 (i + 1, F2) _ ⟨by omega, hF2'⟩ (by simp; omega) (by simp [subk, Eng.look]) (List.Sublist.refl _) rfl (subR_refl _)
  intro F1 hF1
  refine VC.seq (VC.cutW (ι := PH) (fun _ => [(1, .o 0 b1 0)]) (fun _ => [⟨0, b1, 31, [.slice p1 c.cons.length q1, .slice p2 c.globals.length q2, .slice p3 c.infos.length q3, .slice p4 c.ins.length q4]⟩]) (fun j => j) (fun _ => []) (fun j => F.le j) (fun G hG => ?_) ?_)
  · refine VC.go 100 ?_
    simp only [push_cast, ↓reduceIte, Nat.reduceEqDiff, Nat.reduceAdd, Nat.reduceMul, Nat.reduceSub, Nat.reduceLT, Nat.reduceLeDiff, reduceCtorEq, Nat.reduceMod, Int.reduceEq, Int.reduceLT, Int.reduceLE, Int.reduceToNat, dite_true]
    refine VC.loopW (ι := Nat × PH) (fun j => [(5, .v (i64v j.1)), (1, .o 0 b1 0)]) (fun _ => [⟨0, b1, 31, [.slice p1 c.cons.length q1, .slice p2 c.globals.length q2, .slice p3 c.infos.length q3, .slice p4 c.ins.length q4]⟩]) (fun j => j.2) (fun _ => []) (fun j => j.1 ≤ c.infos.length ∧ F1.le j.2) (fun j => c.infos.length - j.1) (0, F1) ⟨Nat.zero_le _, PH.le_refl _⟩ (by simp [subk, Eng.look]) (List.Sublist.refl _) rfl (subR_refl _) ?_
    rintro ⟨i, F2⟩ ⟨hi, hF2'⟩ G1 hG1
    dsimp only at hi hF2' hG1 ⊢
    have hF2 : F.le F2 := PH.le_trans hF1 hF2'
    refine VC.go 100 ?_
    by_cases h : i < c.infos.length
    case neg =>
      have h' : ¬ (i : Int) < (c.infos.length : Int) := by omega
      simp only [push_cast, ↓reduceIte, Nat.reduceEqDiff, Nat.reduceAdd, Nat.reduceMul, Nat.reduceSub, Nat.reduceLT, Nat.reduceLeDiff, reduceCtorEq, Nat.reduceMod, Int.reduceEq, Int.reduceLT, Int.reduceLE, Int.reduceToNat, dite_true, h']
      exact hG F2 _ hF2 (by simp [subk, Eng.look]) (List.Sublist.refl _) rfl (subR_refl _)
    have h' : (i : Int) < (c.infos.length : Int) := by omega
    have h0 : (0 : Int) ≤ (i : Int) := by omega
    have e2 : IntKind.i64.wrap ((i : Int) + 1) = ((i + 1 : Nat) : Int) := wadd i h (Nat.le_trans l3 m3)
    have hat := List.getElem?_eq_getElem h
    obtain ⟨qa, _, csa, eq, _, _, kla, kra⟩ := (hc'.infos.mono (R' := RInf) hF2 (fun _ _ _ h => h)).elem (by decide) hat (fun _ _ h => h.len)
    cases eq
    unfold RInf at kra
    subst kra
    simp only [push_cast, ↓reduceIte, Nat.reduceEqDiff, Nat.reduceAdd, Nat.reduceMul, Nat.reduceSub, Nat.reduceLT, Nat.reduceLeDiff, reduceCtorEq, Nat.reduceMod, Int.reduceEq, Int.reduceLT, Int.reduceLE, Int.reduceToNat, dite_true, h']
    refine VC.draw (.q 0 (.q 1 (.q 2 (.q 3 (.q 4 (.q 5 (.e 6 (.q 7 (.done))))))))) mixed (by rfl) ?_
    simp only [push_cast, ↓reduceIte, Nat.reduceEqDiff, Nat.reduceAdd, Nat.reduceMul, Nat.reduceSub, Nat.reduceLT, Nat.reduceLeDiff, reduceCtorEq, Nat.reduceMod, Int.reduceEq, Int.reduceLT, Int.reduceLE, Int.reduceToNat, dite_true, h', h0, kla]
    refine CallV.pure (info12 F2 c _ _ _ _ (code_mono hF2 hc') hK _ (hK.infos i _ hat)) ?_
    rintro _ F3 hF3 rfl
    simp only [push_cast, ↓reduceIte, Nat.reduceEqDiff, Nat.reduceAdd, Nat.reduceMul, Nat.reduceSub, Nat.reduceLT, Nat.reduceLeDiff, reduceCtorEq, Nat.reduceMod, Int.reduceEq, Int.reduceLT, Int.reduceLE, Int.reduceToNat, dite_true]
    refine VC.go 100 ?_
    simp only [push_cast, ↓reduceIte, Nat.reduceEqDiff, Nat.reduceAdd, Nat.reduceMul, Nat.reduceSub, Nat.reduceLT, Nat.reduceLeDiff, reduceCtorEq, Nat.reduceMod, Int.reduceEq, Int.reduceLT, Int.reduceLE, Int.reduceToNat, dite_true, e2]
    exact hG1 (i + 1, F3) _ ⟨by omega, PH.le_trans hF2' hF3⟩ (by simp; omega) (by simp [subk, Eng.look]) (List.Sublist.refl _) rfl (subR_refl _)
  intro F1 hF1
  refine VC.seq (VC.cutW (ι := PH) (fun _ => [(1, .o 0 b1 0)]) (fun _ => [⟨0, b1, 31, [.slice p1 c.cons.length q1, .slice p2 c.globals.length q2, .slice p3 c.infos.length q3, .slice p4 c.ins.length q4]⟩]) (fun j => j) (fun _ => []) (fun j => F.le j) (fun G hG => ?_) ?_)
  · refine VC.go 100 ?_
    simp only [push_cast, ↓reduceIte, Nat.reduceEqDiff, Nat.reduceAdd, Nat.reduceMul, Nat.reduceSub, Nat.reduceLT, Nat.reduceLeDiff, reduceCtorEq, Nat.reduceMod, Int.reduceEq, Int.reduceLT, Int.reduceLE, Int.reduceToNat, dite_true]
    refine VC.loopW (ι := Nat × PH) (fun j => [(7, .v (i64v j.1)), (1, .o 0 b1 0)]) (fun _ => [⟨0, b1, 31, [.slice p1 c.cons.length q1, .slice p2 c.globals.length q2, .slice p3 c.infos.length q3, .slice p4 c.ins.length q4]⟩]) (fun j => j.2) (fun _ => []) (fun j => j.1 ≤ c.globals.length ∧ F1.le j.2) (fun j => c.globals.length - j.1) (0, F1) ⟨Nat.zero_le _, PH.le_refl _⟩ (by simp [subk, Eng.look]) (List.Sublist.refl _) rfl (subR_refl _) ?_
    rintro ⟨i, F2⟩ ⟨hi, hF2'⟩ G1 hG1
    dsimp only at hi hF2' hG1 ⊢
    have hF2 : F.le F2 := PH.le_trans hF1 hF2'
    refine VC.go 100 ?_
    by_cases h : i < c.globals.length
    case neg =>
      have h' : ¬ (i : Int) < (c.globals.length : Int) := by omega
      simp only [push_cast, ↓reduceIte, Nat.reduceEqDiff, Nat.reduceAdd, Nat.reduceMul, Nat.reduceSub, Nat.reduceLT, Nat.reduceLeDiff, reduceCtorEq, Nat.reduceMod, Int.reduceEq, Int.reduceLT, Int.reduceLE, Int.reduceToNat, dite_true, h']
      exact hG F2 _ hF2 (by simp [subk, Eng.look]) (List.Sublist.refl _) rfl (subR_refl _)
    have h' : (i : Int) < (c.globals.length : Int) := by omega
    have h0 : (0 : Int) ≤ (i : Int) := by omega
    have e2 : IntKind.i64.wrap ((i : Int) + 1) = ((i + 1 : Nat) : Int) := wadd i h (Nat.le_trans l2 m2)
    have hat := List.getElem?_eq_getElem h
    obtain ⟨qa, _, csa, eq, _, _, kla, kra⟩ := (hc'.globals.mono (R' := RNum) hF2 (fun _ _ _ h => h)).elem (by decide) hat (fun _ _ h => h.len)
    cases eq
    unfold RNum at kra
    subst kra
    have k1 := cell_at kla (o := 1) rfl
    obtain ⟨m, v, g1, g2, g3⟩ := hK.globals i _ hat
    have hm := (List.getElem?_eq_some_iff.1 g2).1
    obtain ⟨qb, _, csb, eq, _, _, klb, krb⟩ := (hc'.infos.mono (R' := RInf) hF2 (fun _ _ _ h => h)).elem (by decide) g2 (fun _ _ h => h.len)
    cases eq
    unfold RInf at krb
    subst krb
    have k2 := cell_at klb (o := 2) rfl
    have hm0 : (0 : Int) ≤ (m : Int) := by omega
    have hm1 : ¬ (m : Int) < 0 := by omega
    have hm' : (m : Int) < (c.infos.length : Int) := by omega
    have hm2 : ¬ (c.infos.length : Int) ≤ (m : Int) := by omega
    simp only [push_cast, ↓reduceIte, Nat.reduceEqDiff, Nat.reduceAdd, Nat.reduceMul, Nat.reduceSub, Nat.reduceLT, Nat.reduceLeDiff, reduceCtorEq, Nat.reduceMod, Int.reduceEq, Int.reduceLT, Int.reduceLE, Int.reduceToNat, dite_true, h', h0, k1, g1, hm0, hm1, hm', hm2, k2, g3, e2, ne_eq, not_true_eq_false, decide_false]
    exact hG1 (i + 1, F2) _ ⟨by omega, hF2'⟩ (by simp; omega) (by simp [subk, Eng.look]) (List.Sublist.refl _) rfl (subR_refl _)
  intro F1 hF1
  refine VC.seq (VC.cutW (ι := PH) (fun _ => [(1, .o 0 b1 0)]) (fun _ => [⟨0, b1, 31, [.slice p1 c.cons.length q1, .slice p2 c.globals.length q2, .slice p3 c.infos.length q3, .slice p4 c.ins.length q4]⟩]) (fun j => j) (fun _ => []) (fun j => F.le j) (fun G hG => ?_) ?_)
  · refine VC.go 100 ?_
    simp only [push_cast, ↓reduceIte, Nat.reduceEqDiff, Nat.reduceAdd, Nat.reduceMul, Nat.reduceSub, Nat.reduceLT, Nat.reduceLeDiff, reduceCtorEq, Nat.reduceMod, Int.reduceEq, Int.reduceLT, Int.reduceLE, Int.reduceToNat, dite_true]
    refine VC.loopW (ι := Nat × PH) (fun j => [(9, .v (i64v j.1)), (1, .o 0 b1 0)]) (fun _ => [⟨0, b1, 31, [.slice p1 c.cons.length q1, .slice p2 c.globals.length q2, .slice p3 c.infos.length q3, .slice p4 c.ins.length q4]⟩]) (fun j => j.2) (fun _ => []) (fun j => j.1 ≤ c.ins.length ∧ F1.le j.2) (fun j => c.ins.length - j.1) (0, F1) ⟨Nat.zero_le _, PH.le_refl _⟩ (by simp [subk, Eng.look]) (List.Sublist.refl _) rfl (subR_refl _) ?_
    rintro ⟨i, F2⟩ ⟨hi, hF2'⟩ G1 hG1
    dsimp only at hi hF2' hG1 ⊢
    have hF2 : F.le F2 := PH.le_trans hF1 hF2'
    refine VC.go 100 ?_
    by_cases h : i < c.ins.length
    case neg =>
      have h' : ¬ (i : Int) < (c.ins.length : Int) := by omega
      simp only [push_cast, ↓reduceIte, Nat.reduceEqDiff, Nat.reduceAdd, Nat.reduceMul, Nat.reduceSub, Nat.reduceLT, Nat.reduceLeDiff, reduceCtorEq, Nat.reduceMod, Int.reduceEq, Int.reduceLT, Int.reduceLE, Int.reduceToNat, dite_true, h']
      exact hG F2 _ hF2 (by simp [subk, Eng.look]) (List.Sublist.refl _) rfl (subR_refl _)
    have h' : (i : Int) < (c.ins.length : Int) := by omega
    have h0 : (0 : Int) ≤ (i : Int) := by omega
    have e2 : IntKind.i64.wrap ((i : Int) + 1) = ((i + 1 : Nat) : Int) := wadd i h (Nat.le_trans l4 m4)
    have hat := List.getElem?_eq_getElem h
    simp only [push_cast, ↓reduceIte, Nat.reduceEqDiff, Nat.reduceAdd, Nat.reduceMul, Nat.reduceSub, Nat.reduceLT, Nat.reduceLeDiff, reduceCtorEq, Nat.reduceMod, Int.reduceEq, Int.reduceLT, Int.reduceLE, Int.reduceToNat, dite_true, h']
    refine CallV.pure (insn12 F2 c _ _ _ _ (code_mono hF2 hc') hK i _ hat) ?_
    rintro _ F3 hF3 rfl
    simp only [push_cast, ↓reduceIte, Nat.reduceEqDiff, Nat.reduceAdd, Nat.reduceMul, Nat.reduceSub, Nat.reduceLT, Nat.reduceLeDiff, reduceCtorEq, Nat.reduceMod, Int.reduceEq, Int.reduceLT, Int.reduceLE, Int.reduceToNat, dite_true, e2]
    exact hG1 (i + 1, F3) _ ⟨by omega, PH.le_trans hF2' hF3⟩ (by simp; omega) (by simp [subk, Eng.look]) (List.Sublist.refl _) rfl (subR_refl _)
  intro F1 hF1
  refine VC.go 100 ?_
  simp only [push_cast, ↓reduceIte, Nat.reduceEqDiff, Nat.reduceAdd, Nat.reduceMul, Nat.reduceSub, Nat.reduceLT, Nat.reduceLeDiff, reduceCtorEq, Nat.reduceMod, Int.reduceEq, Int.reduceLT, Int.reduceLE, Int.reduceToNat, dite_true]
  exact RetOk.p rfl rfl
end Go.Proofs.YtoepmdbicdoieaaDoor.Z
