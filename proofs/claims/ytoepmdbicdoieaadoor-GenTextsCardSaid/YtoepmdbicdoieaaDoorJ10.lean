/- The document's comparison of codes: the same code is the same. -/
import Derived.Test.YtoepmdbicdoieaaDoorN4
namespace Go.Proofs.YtoepmdbicdoieaaDoor.J
open Go Go.Eng Go.RowKit Go.Proofs Go.Proofs.YtoepmdbicdoieaaDoor.T Go.Proofs.YtoepmdbicdoieaaDoor.V Go.Proofs.YtoepmdbicdoieaaDoor.K Go.Proofs.YtoepmdbicdoieaaDoor.U
open Go.Proofs.YtoepmdbicdoieaaDoor.W (i64v ptr Ints RowE RMk RIns RInf RArm RNum RFrm src_one each_snoc Fits CompQ RCode Right nil_code nil_ints sle_one)
set_option linter.unusedSimpArgs false
set_option linter.unusedVariables false
set_option maxRecDepth 100000
set_option maxHeartbeats 4000000
theorem _root_.Go.Proofs.YtoepmdbicdoieaaDoor.W.RCode.mono {F G : PH} (hl : F.le G) {c : Cd} {v1 v2 v3 v4 : Value} (h : RCode F c v1 v2 v3 v4) : RCode G c v1 v2 v3 v4 :=
  ⟨h.cons.mono hl fun _ _ _ h => h, h.globals.mono hl fun _ _ _ h => h, h.infos.mono hl fun _ _ _ h => h, h.ins.mono hl fun _ _ _ h => h.mono hl⟩
theorem arm_eq (a b c d : Int) : sEq Tryd.prog 138 #[i64v a, i64v b, i64v c, i64v d] #[i64v a, i64v b, i64v c, i64v d] = some true := sEq_same (by kernel_rfl)
theorem inf_eq (a b c d : Int) : sEq Tryd.prog 41 #[i64v a, i64v b, i64v c, i64v d] #[i64v a, i64v b, i64v c, i64v d] = some true := sEq_same (by kernel_rfl)
theorem con_eq (s : ByteArray) (b : Int) : sEq Tryd.prog 74 #[.string s, i64v b] #[.string s, i64v b] = some true := sEq_same (by kernel_rfl)
theorem glob_eq (s : ByteArray) (b : Int) : sEq Tryd.prog 43 #[.string s, i64v b] #[.string s, i64v b] = some true := sEq_same (by kernel_rfl)
theorem ints12 (F : PH) (va vb : Value) (l : List Int) (ha : Ints F va l) (hb : Ints F vb l) : PFn Tryd.prog 56 [va, vb] F (fun v _ => v = .bool true) := by
  obtain ⟨pa, ca, rfl, ha1, ha2, ha3⟩ := ha
  obtain ⟨pb, cb, rfl, hb1, hb2, hb3⟩ := hb
  refine Fn.intro (n := 26) (ts := [4]) Tryd.func56 rfl rfl rfl rfl (by simp) fun B hB => VC.go 100 ?_
  simp only [push_cast, ↓reduceIte, Nat.reduceEqDiff, Nat.reduceAdd, Nat.reduceMul, Nat.reduceSub, Nat.reduceLT, Nat.reduceLeDiff, reduceCtorEq, Nat.reduceMod, Int.reduceEq, Int.reduceLT, Int.reduceLE, Int.reduceToNat, dite_true]
  refine VC.loopL (fun i : Nat => [(5, .v (i64v i)), (0, .v (.slice pa l.length ca)), (1, .v (.slice pb l.length cb))]) (fun i => i ≤ l.length) (fun i => l.length - i) 0 (Nat.zero_le _) (by simp [subk, Eng.look]) ?_
  intro i hi G hG
  refine VC.go 100 ?_
  by_cases h : i < l.length
  case neg =>
    have h' : ¬ (i : Int) < (l.length : Int) := by omega
    simp only [push_cast, ↓reduceIte, Nat.reduceEqDiff, Nat.reduceAdd, Nat.reduceMul, Nat.reduceSub, Nat.reduceLT, Nat.reduceLeDiff, reduceCtorEq, Nat.reduceMod, Int.reduceEq, Int.reduceLT, Int.reduceLE, Int.reduceToNat, dite_true, h']
    exact RetOk.p rfl rfl
  have h' : (i : Int) < (l.length : Int) := by omega
  have h0 : (0 : Int) ≤ (i : Int) := by omega
  obtain ⟨qa, rfl, hqa⟩ := ha3.elem1 (i := i) (v := i64v l[i]) (by simp [h])
  obtain ⟨qb, rfl, hqb⟩ := hb3.elem1 (i := i) (v := i64v l[i]) (by simp [h])
  have e2 : IntKind.i64.wrap ((i : Int) + 1) = ((i + 1 : Nat) : Int) := wadd i h (Nat.le_trans ha1 ha2)
  simp only [push_cast, ↓reduceIte, Nat.reduceEqDiff, Nat.reduceAdd, Nat.reduceMul, Nat.reduceSub, Nat.reduceLT, Nat.reduceLeDiff, reduceCtorEq, Nat.reduceMod, Int.reduceEq, Int.reduceLT, Int.reduceLE, Int.reduceToNat, dite_true, h']
  refine VC.draw (.q 0 (.q 1 (.q 2 (.q 3 (.q 4 (.q 5 (.q 6 (.q 7 (.q 8 (.done)))))))))) mixed (by rfl) ?_
  simp only [push_cast, ↓reduceIte, Nat.reduceEqDiff, Nat.reduceAdd, Nat.reduceMul, Nat.reduceSub, Nat.reduceLT, Nat.reduceLeDiff, reduceCtorEq, Nat.reduceMod, Int.reduceEq, Int.reduceLT, Int.reduceLE, Int.reduceToNat, dite_true, h', h0, hqa, hqb]
  refine VC.go 100 ?_
  simp only [push_cast, ↓reduceIte, Nat.reduceEqDiff, Nat.reduceAdd, Nat.reduceMul, Nat.reduceSub, Nat.reduceLT, Nat.reduceLeDiff, reduceCtorEq, Nat.reduceMod, Int.reduceEq, Int.reduceLT, Int.reduceLE, Int.reduceToNat, dite_true, e2]
  exact hG (i + 1) _ (by omega) (by omega) (by simp [subk, Eng.look]) (List.Sublist.refl _) rfl rfl
theorem insns12 (F : PH) (x : Ins) (c d : List Value) (hc : RIns F x c) (hd : RIns F x d) : PFn Tryd.prog 24 [.agg c.toArray, .agg d.toArray] F (fun v _ => v = .bool true) := by
  obtain ⟨cl, ck, cm, ca, rfl, hc1, hc2, hc3, hc4⟩ := hc
  obtain ⟨dl, dk, dm, da, rfl, hd1, hd2, hd3, hd4⟩ := hd
  have hc1' := hc1
  have hc2' := hc2
  have hd1' := hd1
  have hd2' := hd2
  obtain ⟨pcl, ccl, rfl, _, _, _⟩ := hc1
  obtain ⟨pck, cck, rfl, _, _, _⟩ := hc2
  obtain ⟨pdl, cdl, rfl, _, _, _⟩ := hd1
  obtain ⟨pdk, cdk, rfl, _, _, _⟩ := hd2
  have hc3' := hc3
  have hc4' := hc4
  have hd3' := hd3
  have hd4' := hd4
  obtain ⟨pcm, ccm, rfl, m1, m2⟩ := hc3.val
  obtain ⟨pca, cca, rfl, a1, a2⟩ := hc4.val
  obtain ⟨pdm, cdm, rfl, _, _⟩ := hd3.val
  obtain ⟨pda, cda, rfl, _, _⟩ := hd4.val
  refine Fn.intro (n := 124) (ts := [4]) Tryd.func24 rfl rfl rfl rfl (by simp) fun B hB => VC.go 5 ?_
  simp only [push_cast, ↓reduceIte, Nat.reduceEqDiff, Nat.reduceAdd, Nat.reduceMul, Nat.reduceSub, Nat.reduceLT, Nat.reduceLeDiff, reduceCtorEq, Nat.reduceMod, Int.reduceEq, Int.reduceLT, Int.reduceLE, Int.reduceToNat, dite_true]
  intro b2 b3
  refine CallV.pure (ints12 F _ _ x.list hc1' hd1') ?_
  rintro _ F1 hF1 rfl
  simp only [push_cast, ↓reduceIte, Nat.reduceEqDiff, Nat.reduceAdd, Nat.reduceMul, Nat.reduceSub, Nat.reduceLT, Nat.reduceLeDiff, reduceCtorEq, Nat.reduceMod, Int.reduceEq, Int.reduceLT, Int.reduceLE, Int.reduceToNat, dite_true]
  refine CallV.pure (ints12 F1 _ _ x.keep (hc2'.mono hF1) (hd2'.mono hF1)) ?_
  rintro _ F2 hF2 rfl
  have hF02 := PH.le_trans hF1 hF2
  simp only [push_cast, ↓reduceIte, Nat.reduceEqDiff, Nat.reduceAdd, Nat.reduceMul, Nat.reduceSub, Nat.reduceLT, Nat.reduceLeDiff, reduceCtorEq, Nat.reduceMod, Int.reduceEq, Int.reduceLT, Int.reduceLE, Int.reduceToNat, dite_true]
  refine VC.go 3 ?_
  simp only [push_cast, ↓reduceIte, Nat.reduceEqDiff, Nat.reduceAdd, Nat.reduceMul, Nat.reduceSub, Nat.reduceLT, Nat.reduceLeDiff, reduceCtorEq, Nat.reduceMod, Int.reduceEq, Int.reduceLT, Int.reduceLE, Int.reduceToNat, dite_true]
  refine VC.cutW (ι := Unit) (fun _ => [(2, .o 0 b2 0), (3, .o 1 b3 0)]) (fun _ => [⟨0, b2, 89, [i64v x.op, i64v x.a, i64v x.b, .slice pcl x.list.length ccl, .slice pck x.keep.length cck, .slice pcm x.makes.length ccm, .slice pca x.arms.length cca]⟩, ⟨1, b3, 89, [i64v x.op, i64v x.a, i64v x.b, .slice pdl x.list.length cdl, .slice pdk x.keep.length cdk, .slice pdm x.makes.length cdm, .slice pda x.arms.length cda]⟩]) (fun _ => F2) (fun _ => []) (fun _ => True) (fun G hG => ?_) fun _ _ => ?_
  · refine VC.go 100 ?_
    simp only [push_cast, ↓reduceIte, Nat.reduceEqDiff, Nat.reduceAdd, Nat.reduceMul, Nat.reduceSub, Nat.reduceLT, Nat.reduceLeDiff, reduceCtorEq, Nat.reduceMod, Int.reduceEq, Int.reduceLT, Int.reduceLE, Int.reduceToNat, dite_true]
    refine VC.loopW (ι := Nat) (fun i => [(5, .v (i64v i)), (2, .o 0 b2 0), (3, .o 1 b3 0)]) (fun _ => [⟨0, b2, 89, [i64v x.op, i64v x.a, i64v x.b, .slice pcl x.list.length ccl, .slice pck x.keep.length cck, .slice pcm x.makes.length ccm, .slice pca x.arms.length cca]⟩, ⟨1, b3, 89, [i64v x.op, i64v x.a, i64v x.b, .slice pdl x.list.length cdl, .slice pdk x.keep.length cdk, .slice pdm x.makes.length cdm, .slice pda x.arms.length cda]⟩]) (fun _ => F2) (fun _ => []) (fun i => i ≤ x.arms.length) (fun i => x.arms.length - i) 0 (Nat.zero_le _) (by simp [subk, Eng.look]) (List.Sublist.refl _) rfl (subR_refl _) ?_
    intro i hi G1 hG1
    refine VC.go 100 ?_
    by_cases h : i < x.arms.length
    case neg =>
      have h' : ¬ (i : Int) < (x.arms.length : Int) := by omega
      simp only [push_cast, ↓reduceIte, Nat.reduceEqDiff, Nat.reduceAdd, Nat.reduceMul, Nat.reduceSub, Nat.reduceLT, Nat.reduceLeDiff, reduceCtorEq, Nat.reduceMod, Int.reduceEq, Int.reduceLT, Int.reduceLE, Int.reduceToNat, dite_true, h']
      exact hG () _ trivial (by simp [subk, Eng.look]) (List.Sublist.refl _) rfl (subR_refl _)
    have h' : (i : Int) < (x.arms.length : Int) := by omega
    have h0 : (0 : Int) ≤ (i : Int) := by omega
    obtain ⟨qa, _, csa, eq, _, _, kla, kra⟩ := (hc4'.mono (R' := RArm) hF02 (fun _ _ _ h => h)).elem (by decide) (i := i) (a := x.arms[i]) (List.getElem?_eq_getElem h) (fun _ _ h => h.len)
    cases eq
    obtain ⟨qb, _, csb, eq, _, _, klb, krb⟩ := (hd4'.mono (R' := RArm) hF02 (fun _ _ _ h => h)).elem (by decide) (i := i) (a := x.arms[i]) (List.getElem?_eq_getElem h) (fun _ _ h => h.len)
    cases eq
    unfold RArm at kra krb
    subst kra
    subst krb
    have e2 : IntKind.i64.wrap ((i : Int) + 1) = ((i + 1 : Nat) : Int) := wadd i h (Nat.le_trans a1 a2)
    simp only [push_cast, ↓reduceIte, Nat.reduceEqDiff, Nat.reduceAdd, Nat.reduceMul, Nat.reduceSub, Nat.reduceLT, Nat.reduceLeDiff, reduceCtorEq, Nat.reduceMod, Int.reduceEq, Int.reduceLT, Int.reduceLE, Int.reduceToNat, dite_true, h']
    refine VC.draw (.q 0 (.q 1 (.q 2 (.q 3 (.q 4 (.q 5 (.q 6 (.q 7 (.q 8 (.q 9 (.q 10 (.done)))))))))))) mixed (by rfl) ?_
    simp only [push_cast, ↓reduceIte, Nat.reduceEqDiff, Nat.reduceAdd, Nat.reduceMul, Nat.reduceSub, Nat.reduceLT, Nat.reduceLeDiff, reduceCtorEq, Nat.reduceMod, Int.reduceEq, Int.reduceLT, Int.reduceLE, Int.reduceToNat, dite_true, h', h0, kla, klb, arm_eq]
    refine VC.go 100 ?_
    simp only [push_cast, ↓reduceIte, Nat.reduceEqDiff, Nat.reduceAdd, Nat.reduceMul, Nat.reduceSub, Nat.reduceLT, Nat.reduceLeDiff, reduceCtorEq, Nat.reduceMod, Int.reduceEq, Int.reduceLT, Int.reduceLE, Int.reduceToNat, dite_true, e2]
    exact hG1 (i + 1) _ (by omega) (by omega) (by simp [subk, Eng.look]) (List.Sublist.refl _) rfl (subR_refl _)
  refine VC.go 100 ?_
  simp only [push_cast, ↓reduceIte, Nat.reduceEqDiff, Nat.reduceAdd, Nat.reduceMul, Nat.reduceSub, Nat.reduceLT, Nat.reduceLeDiff, reduceCtorEq, Nat.reduceMod, Int.reduceEq, Int.reduceLT, Int.reduceLE, Int.reduceToNat, dite_true]
  refine VC.loopW (ι := Nat × PH) (fun i => [(6, .v (i64v i.1)), (2, .o 0 b2 0), (3, .o 1 b3 0)]) (fun _ => [⟨0, b2, 89, [i64v x.op, i64v x.a, i64v x.b, .slice pcl x.list.length ccl, .slice pck x.keep.length cck, .slice pcm x.makes.length ccm, .slice pca x.arms.length cca]⟩, ⟨1, b3, 89, [i64v x.op, i64v x.a, i64v x.b, .slice pdl x.list.length cdl, .slice pdk x.keep.length cdk, .slice pdm x.makes.length cdm, .slice pda x.arms.length cda]⟩]) (fun i => i.2) (fun _ => []) (fun i => i.1 ≤ x.makes.length ∧ F2.le i.2) (fun i => x.makes.length - i.1) (0, F2) ⟨Nat.zero_le _, PH.le_refl _⟩ (by simp [subk, Eng.look]) (List.Sublist.refl _) rfl (subR_refl _) ?_
  rintro ⟨i, F3⟩ ⟨hi, hF3⟩ G1 hG1
  dsimp only at hi hF3 hG1 ⊢
  refine VC.go 100 ?_
  by_cases h : i < x.makes.length
  case neg =>
    have h' : ¬ (i : Int) < (x.makes.length : Int) := by omega
    simp only [push_cast, ↓reduceIte, Nat.reduceEqDiff, Nat.reduceAdd, Nat.reduceMul, Nat.reduceSub, Nat.reduceLT, Nat.reduceLeDiff, reduceCtorEq, Nat.reduceMod, Int.reduceEq, Int.reduceLT, Int.reduceLE, Int.reduceToNat, dite_true, h']
    exact RetOk.p rfl rfl
  have h' : (i : Int) < (x.makes.length : Int) := by omega
  have h0 : (0 : Int) ≤ (i : Int) := by omega
  have hF03 := PH.le_trans hF02 hF3
  obtain ⟨qa, _, csa, eq, _, _, kla, kra⟩ := (hc3'.mono (R' := RMk F3) hF03 (fun _ _ _ h => h.mono hF03)).elem (by decide) (i := i) (a := x.makes[i]) (List.getElem?_eq_getElem h) (fun _ _ h => h.len)
  cases eq
  obtain ⟨qb, _, csb, eq, _, _, klb, krb⟩ := (hd3'.mono (R' := RMk F3) hF03 (fun _ _ _ h => h.mono hF03)).elem (by decide) (i := i) (a := x.makes[i]) (List.getElem?_eq_getElem h) (fun _ _ h => h.len)
  cases eq
  obtain ⟨va, rfl, hva⟩ := kra
  obtain ⟨vb, rfl, hvb⟩ := krb
  have hva' := hva
  have hvb' := hvb
  obtain ⟨pva, cva, rfl, _, _, _⟩ := hva
  obtain ⟨pvb, cvb, rfl, _, _, _⟩ := hvb
  have e2 : IntKind.i64.wrap ((i : Int) + 1) = ((i + 1 : Nat) : Int) := wadd i h (Nat.le_trans m1 m2)
  simp only [push_cast, ↓reduceIte, Nat.reduceEqDiff, Nat.reduceAdd, Nat.reduceMul, Nat.reduceSub, Nat.reduceLT, Nat.reduceLeDiff, reduceCtorEq, Nat.reduceMod, Int.reduceEq, Int.reduceLT, Int.reduceLE, Int.reduceToNat, dite_true, h']
  refine VC.drawT (fun S' => ∃ b7 b8 i7 i8, ((i7 = 2 ∧ i8 = 3) ∨ (i7 = 3 ∧ i8 = 2)) ∧ subk S'.L [(7, .o i7 b7 0), (8, .o i8 b8 0), (6, .v (i64v i)), (2, .o 0 b2 0), (3, .o 1 b3 0)] ∧ (∃ M' : List Own, S'.M = M' ∧ (M' = [⟨0, b2, 89, [i64v x.op, i64v x.a, i64v x.b, .slice pcl x.list.length ccl, .slice pck x.keep.length cck, .slice (some qa) x.makes.length ccm, .slice pca x.arms.length cca]⟩, ⟨1, b3, 89, [i64v x.op, i64v x.a, i64v x.b, .slice pdl x.list.length cdl, .slice pdk x.keep.length cdk, .slice (some qb) x.makes.length cdm, .slice pda x.arms.length cda]⟩, ⟨i7, b7, 85, [i64v (x.makes[i]).kind, i64v (x.makes[i]).info, i64v (x.makes[i]).n, .slice pva (x.makes[i]).frm.length cva]⟩, ⟨i8, b8, 85, [i64v (x.makes[i]).kind, i64v (x.makes[i]).info, i64v (x.makes[i]).n, .slice pvb (x.makes[i]).frm.length cvb]⟩] ∨ M' = [⟨0, b2, 89, [i64v x.op, i64v x.a, i64v x.b, .slice pcl x.list.length ccl, .slice pck x.keep.length cck, .slice (some qa) x.makes.length ccm, .slice pca x.arms.length cca]⟩, ⟨1, b3, 89, [i64v x.op, i64v x.a, i64v x.b, .slice pdl x.list.length cdl, .slice pdk x.keep.length cdk, .slice (some qb) x.makes.length cdm, .slice pda x.arms.length cda]⟩, ⟨i8, b8, 85, [i64v (x.makes[i]).kind, i64v (x.makes[i]).info, i64v (x.makes[i]).n, .slice pvb (x.makes[i]).frm.length cvb]⟩, ⟨i7, b7, 85, [i64v (x.makes[i]).kind, i64v (x.makes[i]).info, i64v (x.makes[i]).n, .slice pva (x.makes[i]).frm.length cva]⟩])) ∧ S'.F = F3 ∧ S'.R.Perm [])
    (.q 0 (.q 1 (.q 2 (.q 3 (.q 4 (.q 5 (.q 6 (.q 7 (.q 8 (.q 9 (.e2 10 (.e 11 (.es 12 [5, 6, 7, 8, 9] (.e 13 (.done)))) 11 (.e 10 (.es 12 [5, 6, 7, 8, 9] (.e 13 (.done))))))))))))))) mixed (by rfl) ?_ ?_
  · simp only [push_cast, ↓reduceIte, Nat.reduceEqDiff, Nat.reduceAdd, Nat.reduceMul, Nat.reduceSub, Nat.reduceLT, Nat.reduceLeDiff, reduceCtorEq, Nat.reduceMod, Int.reduceEq, Int.reduceLT, Int.reduceLE, Int.reduceToNat, dite_true, h', h0, kla, klb]
    refine ⟨fun b7 b8 => ⟨b7, b8, 2, 3, .inl ⟨rfl, rfl⟩, by simp [subk, Eng.look], ⟨_, rfl, .inl rfl⟩, .refl _⟩, fun b8 b7 => ⟨b7, b8, 3, 2, .inr ⟨rfl, rfl⟩, by simp [subk, Eng.look], ⟨_, rfl, .inr rfl⟩, .refl _⟩⟩
  rintro S' ⟨b7, b8, i7, i8, hij, g1, ⟨M', g3, hM'⟩, g4, g5⟩
  refine W.VC.fromT _ M' F3 [] g1 (by rw [g3]; exact List.Sublist.refl _) g4 g5 ?_
  refine VC.go 100 ?_
  rcases hij with ⟨rfl, rfl⟩ | ⟨rfl, rfl⟩ <;> rcases hM' with rfl | rfl
  all_goals simp only [push_cast, ↓reduceIte, Nat.reduceEqDiff, Nat.reduceAdd, Nat.reduceMul, Nat.reduceSub, Nat.reduceLT, Nat.reduceLeDiff, reduceCtorEq, Nat.reduceMod, Int.reduceEq, Int.reduceLT, Int.reduceLE, Int.reduceToNat, dite_true]
  all_goals refine CallV.pure (ints12 F3 _ _ (x.makes[i]).frm hva' hvb') ?_
  all_goals rintro _ F4 hF4 rfl
  all_goals simp only [push_cast, ↓reduceIte, Nat.reduceEqDiff, Nat.reduceAdd, Nat.reduceMul, Nat.reduceSub, Nat.reduceLT, Nat.reduceLeDiff, reduceCtorEq, Nat.reduceMod, Int.reduceEq, Int.reduceLT, Int.reduceLE, Int.reduceToNat, dite_true, e2]
  all_goals exact hG1 (i + 1, F4) _ ⟨by omega, PH.le_trans hF3 hF4⟩ (by simp; omega) (by simp [subk, Eng.look]) (List.sublist_append_left [_, _] [_, _]) rfl (subR_refl _)
theorem same12 (F : PH) (c : Cd) (v1 v2 v3 v4 w1 w2 w3 w4 : Value) (hc : RCode F c v1 v2 v3 v4) (hd : RCode F c w1 w2 w3 w4) : PFn Tryd.prog 10 [.agg #[v1, v2, v3, v4], .agg #[w1, w2, w3, w4]] F (fun v _ => v = .bool true) := by
  have hc1 := hc.cons
  have hc2 := hc.globals
  have hc3 := hc.infos
  have hc4 := hc.ins
  have hd1 := hd.cons
  have hd2 := hd.globals
  have hd3 := hd.infos
  have hd4 := hd.ins
  obtain ⟨p1, q1, rfl, l1, m1⟩ := hc1.val
  obtain ⟨p2, q2, rfl, l2, m2⟩ := hc2.val
  obtain ⟨p3, q3, rfl, l3, m3⟩ := hc3.val
  obtain ⟨p4, q4, rfl, l4, m4⟩ := hc4.val
  obtain ⟨r1, s1, rfl, _, _⟩ := hd1.val
  obtain ⟨r2, s2, rfl, _, _⟩ := hd2.val
  obtain ⟨r3, s3, rfl, _, _⟩ := hd3.val
  obtain ⟨r4, s4, rfl, _, _⟩ := hd4.val
  refine Fn.intro (n := 116) (ts := [4]) Tryd.func10 rfl rfl rfl rfl (by simp) fun B hB => VC.go 7 ?_
  simp only [push_cast, ↓reduceIte, Nat.reduceEqDiff, Nat.reduceAdd, Nat.reduceMul, Nat.reduceSub, Nat.reduceLT, Nat.reduceLeDiff, reduceCtorEq, Nat.reduceMod, Int.reduceEq, Int.reduceLT, Int.reduceLE, Int.reduceToNat, dite_true]
  intro b2 b3
  refine VC.seq (VC.cutW (ι := Unit) (fun _ => [(2, .o 0 b2 0), (3, .o 1 b3 0)]) (fun _ => [⟨0, b2, 31, [.slice p1 c.cons.length q1, .slice p2 c.globals.length q2, .slice p3 c.infos.length q3, .slice p4 c.ins.length q4]⟩, ⟨1, b3, 31, [.slice r1 c.cons.length s1, .slice r2 c.globals.length s2, .slice r3 c.infos.length s3, .slice r4 c.ins.length s4]⟩]) (fun _ => F) (fun _ => []) (fun _ => True) (fun G hG => ?_) fun _ _ => ?_)
  · refine VC.go 100 ?_
    simp only [push_cast, ↓reduceIte, Nat.reduceEqDiff, Nat.reduceAdd, Nat.reduceMul, Nat.reduceSub, Nat.reduceLT, Nat.reduceLeDiff, reduceCtorEq, Nat.reduceMod, Int.reduceEq, Int.reduceLT, Int.reduceLE, Int.reduceToNat, dite_true]
    refine VC.loopW (ι := Nat) (fun i => [(5, .v (i64v i)), (2, .o 0 b2 0), (3, .o 1 b3 0)]) (fun _ => [⟨0, b2, 31, [.slice p1 c.cons.length q1, .slice p2 c.globals.length q2, .slice p3 c.infos.length q3, .slice p4 c.ins.length q4]⟩, ⟨1, b3, 31, [.slice r1 c.cons.length s1, .slice r2 c.globals.length s2, .slice r3 c.infos.length s3, .slice r4 c.ins.length s4]⟩]) (fun _ => F) (fun _ => []) (fun i => i ≤ c.cons.length) (fun i => c.cons.length - i) 0 (Nat.zero_le _) (by simp [subk, Eng.look]) (List.Sublist.refl _) rfl (subR_refl _) ?_
    intro i hi G1 hG1
    refine VC.go 100 ?_
    by_cases h : i < c.cons.length
    case neg =>
      have h' : ¬ (i : Int) < (c.cons.length : Int) := by omega
      simp only [push_cast, ↓reduceIte, Nat.reduceEqDiff, Nat.reduceAdd, Nat.reduceMul, Nat.reduceSub, Nat.reduceLT, Nat.reduceLeDiff, reduceCtorEq, Nat.reduceMod, Int.reduceEq, Int.reduceLT, Int.reduceLE, Int.reduceToNat, dite_true, h']
      exact hG () _ trivial (by simp [subk, Eng.look]) (List.Sublist.refl _) rfl (subR_refl _)
    have h' : (i : Int) < (c.cons.length : Int) := by omega
    have h0 : (0 : Int) ≤ (i : Int) := by omega
    obtain ⟨qa, _, csa, eq, _, _, kla, kra⟩ := hc1.elem (by decide) (i := i) (a := c.cons[i]) (List.getElem?_eq_getElem h) (fun _ _ h => h.len)
    cases eq
    obtain ⟨qb, _, csb, eq, _, _, klb, krb⟩ := hd1.elem (by decide) (i := i) (a := c.cons[i]) (List.getElem?_eq_getElem h) (fun _ _ h => h.len)
    cases eq
    unfold RNum at kra krb
    subst kra
    subst krb
    have e2 : IntKind.i64.wrap ((i : Int) + 1) = ((i + 1 : Nat) : Int) := wadd i h (Nat.le_trans l1 m1)
    simp only [push_cast, ↓reduceIte, Nat.reduceEqDiff, Nat.reduceAdd, Nat.reduceMul, Nat.reduceSub, Nat.reduceLT, Nat.reduceLeDiff, reduceCtorEq, Nat.reduceMod, Int.reduceEq, Int.reduceLT, Int.reduceLE, Int.reduceToNat, dite_true, h']
    refine VC.draw (.q 0 (.q 1 (.q 2 (.q 3 (.q 4 (.q 5 (.q 6 (.q 7 (.q 8 (.q 9 (.q 10 (.done)))))))))))) mixed (by rfl) ?_
    simp only [push_cast, ↓reduceIte, Nat.reduceEqDiff, Nat.reduceAdd, Nat.reduceMul, Nat.reduceSub, Nat.reduceLT, Nat.reduceLeDiff, reduceCtorEq, Nat.reduceMod, Int.reduceEq, Int.reduceLT, Int.reduceLE, Int.reduceToNat, dite_true, h', h0, kla, klb, con_eq]
    refine VC.go 100 ?_
    simp only [push_cast, ↓reduceIte, Nat.reduceEqDiff, Nat.reduceAdd, Nat.reduceMul, Nat.reduceSub, Nat.reduceLT, Nat.reduceLeDiff, reduceCtorEq, Nat.reduceMod, Int.reduceEq, Int.reduceLT, Int.reduceLE, Int.reduceToNat, dite_true, e2]
    exact hG1 (i + 1) _ (by omega) (by omega) (by simp [subk, Eng.look]) (List.Sublist.refl _) rfl (subR_refl _)
  refine VC.seq (VC.cutW (ι := Unit) (fun _ => [(2, .o 0 b2 0), (3, .o 1 b3 0)]) (fun _ => [⟨0, b2, 31, [.slice p1 c.cons.length q1, .slice p2 c.globals.length q2, .slice p3 c.infos.length q3, .slice p4 c.ins.length q4]⟩, ⟨1, b3, 31, [.slice r1 c.cons.length s1, .slice r2 c.globals.length s2, .slice r3 c.infos.length s3, .slice r4 c.ins.length s4]⟩]) (fun _ => F) (fun _ => []) (fun _ => True) (fun G hG => ?_) fun _ _ => ?_)
  · refine VC.go 100 ?_
    simp only [push_cast, ↓reduceIte, Nat.reduceEqDiff, Nat.reduceAdd, Nat.reduceMul, Nat.reduceSub, Nat.reduceLT, Nat.reduceLeDiff, reduceCtorEq, Nat.reduceMod, Int.reduceEq, Int.reduceLT, Int.reduceLE, Int.reduceToNat, dite_true]
    refine VC.loopW (ι := Nat) (fun i => [(6, .v (i64v i)), (2, .o 0 b2 0), (3, .o 1 b3 0)]) (fun _ => [⟨0, b2, 31, [.slice p1 c.cons.length q1, .slice p2 c.globals.length q2, .slice p3 c.infos.length q3, .slice p4 c.ins.length q4]⟩, ⟨1, b3, 31, [.slice r1 c.cons.length s1, .slice r2 c.globals.length s2, .slice r3 c.infos.length s3, .slice r4 c.ins.length s4]⟩]) (fun _ => F) (fun _ => []) (fun i => i ≤ c.globals.length) (fun i => c.globals.length - i) 0 (Nat.zero_le _) (by simp [subk, Eng.look]) (List.Sublist.refl _) rfl (subR_refl _) ?_
    intro i hi G1 hG1
    refine VC.go 100 ?_
    by_cases h : i < c.globals.length
    case neg =>
      have h' : ¬ (i : Int) < (c.globals.length : Int) := by omega
      simp only [push_cast, ↓reduceIte, Nat.reduceEqDiff, Nat.reduceAdd, Nat.reduceMul, Nat.reduceSub, Nat.reduceLT, Nat.reduceLeDiff, reduceCtorEq, Nat.reduceMod, Int.reduceEq, Int.reduceLT, Int.reduceLE, Int.reduceToNat, dite_true, h']
      exact hG () _ trivial (by simp [subk, Eng.look]) (List.Sublist.refl _) rfl (subR_refl _)
    have h' : (i : Int) < (c.globals.length : Int) := by omega
    have h0 : (0 : Int) ≤ (i : Int) := by omega
    obtain ⟨qa, _, csa, eq, _, _, kla, kra⟩ := hc2.elem (by decide) (i := i) (a := c.globals[i]) (List.getElem?_eq_getElem h) (fun _ _ h => h.len)
    cases eq
    obtain ⟨qb, _, csb, eq, _, _, klb, krb⟩ := hd2.elem (by decide) (i := i) (a := c.globals[i]) (List.getElem?_eq_getElem h) (fun _ _ h => h.len)
    cases eq
    unfold RNum at kra krb
    subst kra
    subst krb
    have e2 : IntKind.i64.wrap ((i : Int) + 1) = ((i + 1 : Nat) : Int) := wadd i h (Nat.le_trans l2 m2)
    simp only [push_cast, ↓reduceIte, Nat.reduceEqDiff, Nat.reduceAdd, Nat.reduceMul, Nat.reduceSub, Nat.reduceLT, Nat.reduceLeDiff, reduceCtorEq, Nat.reduceMod, Int.reduceEq, Int.reduceLT, Int.reduceLE, Int.reduceToNat, dite_true, h']
    refine VC.draw (.q 0 (.q 1 (.q 2 (.q 3 (.q 4 (.q 5 (.q 6 (.q 7 (.q 8 (.q 9 (.q 10 (.done)))))))))))) mixed (by rfl) ?_
    simp only [push_cast, ↓reduceIte, Nat.reduceEqDiff, Nat.reduceAdd, Nat.reduceMul, Nat.reduceSub, Nat.reduceLT, Nat.reduceLeDiff, reduceCtorEq, Nat.reduceMod, Int.reduceEq, Int.reduceLT, Int.reduceLE, Int.reduceToNat, dite_true, h', h0, kla, klb, glob_eq]
    refine VC.go 100 ?_
    simp only [push_cast, ↓reduceIte, Nat.reduceEqDiff, Nat.reduceAdd, Nat.reduceMul, Nat.reduceSub, Nat.reduceLT, Nat.reduceLeDiff, reduceCtorEq, Nat.reduceMod, Int.reduceEq, Int.reduceLT, Int.reduceLE, Int.reduceToNat, dite_true, e2]
    exact hG1 (i + 1) _ (by omega) (by omega) (by simp [subk, Eng.look]) (List.Sublist.refl _) rfl (subR_refl _)
  refine VC.seq (VC.cutW (ι := Unit) (fun _ => [(2, .o 0 b2 0), (3, .o 1 b3 0)]) (fun _ => [⟨0, b2, 31, [.slice p1 c.cons.length q1, .slice p2 c.globals.length q2, .slice p3 c.infos.length q3, .slice p4 c.ins.length q4]⟩, ⟨1, b3, 31, [.slice r1 c.cons.length s1, .slice r2 c.globals.length s2, .slice r3 c.infos.length s3, .slice r4 c.ins.length s4]⟩]) (fun _ => F) (fun _ => []) (fun _ => True) (fun G hG => ?_) fun _ _ => ?_)
  · refine VC.go 100 ?_
    simp only [push_cast, ↓reduceIte, Nat.reduceEqDiff, Nat.reduceAdd, Nat.reduceMul, Nat.reduceSub, Nat.reduceLT, Nat.reduceLeDiff, reduceCtorEq, Nat.reduceMod, Int.reduceEq, Int.reduceLT, Int.reduceLE, Int.reduceToNat, dite_true]
    refine VC.loopW (ι := Nat) (fun i => [(7, .v (i64v i)), (2, .o 0 b2 0), (3, .o 1 b3 0)]) (fun _ => [⟨0, b2, 31, [.slice p1 c.cons.length q1, .slice p2 c.globals.length q2, .slice p3 c.infos.length q3, .slice p4 c.ins.length q4]⟩, ⟨1, b3, 31, [.slice r1 c.cons.length s1, .slice r2 c.globals.length s2, .slice r3 c.infos.length s3, .slice r4 c.ins.length s4]⟩]) (fun _ => F) (fun _ => []) (fun i => i ≤ c.infos.length) (fun i => c.infos.length - i) 0 (Nat.zero_le _) (by simp [subk, Eng.look]) (List.Sublist.refl _) rfl (subR_refl _) ?_
    intro i hi G1 hG1
    refine VC.go 100 ?_
    by_cases h : i < c.infos.length
    case neg =>
      have h' : ¬ (i : Int) < (c.infos.length : Int) := by omega
      simp only [push_cast, ↓reduceIte, Nat.reduceEqDiff, Nat.reduceAdd, Nat.reduceMul, Nat.reduceSub, Nat.reduceLT, Nat.reduceLeDiff, reduceCtorEq, Nat.reduceMod, Int.reduceEq, Int.reduceLT, Int.reduceLE, Int.reduceToNat, dite_true, h']
      exact hG () _ trivial (by simp [subk, Eng.look]) (List.Sublist.refl _) rfl (subR_refl _)
    have h' : (i : Int) < (c.infos.length : Int) := by omega
    have h0 : (0 : Int) ≤ (i : Int) := by omega
    obtain ⟨qa, _, csa, eq, _, _, kla, kra⟩ := hc3.elem (by decide) (i := i) (a := c.infos[i]) (List.getElem?_eq_getElem h) (fun _ _ h => h.len)
    cases eq
    obtain ⟨qb, _, csb, eq, _, _, klb, krb⟩ := hd3.elem (by decide) (i := i) (a := c.infos[i]) (List.getElem?_eq_getElem h) (fun _ _ h => h.len)
    cases eq
    unfold RInf at kra krb
    subst kra
    subst krb
    have e2 : IntKind.i64.wrap ((i : Int) + 1) = ((i + 1 : Nat) : Int) := wadd i h (Nat.le_trans l3 m3)
    simp only [push_cast, ↓reduceIte, Nat.reduceEqDiff, Nat.reduceAdd, Nat.reduceMul, Nat.reduceSub, Nat.reduceLT, Nat.reduceLeDiff, reduceCtorEq, Nat.reduceMod, Int.reduceEq, Int.reduceLT, Int.reduceLE, Int.reduceToNat, dite_true, h']
    refine VC.draw (.q 0 (.q 1 (.q 2 (.q 3 (.q 4 (.q 5 (.q 6 (.q 7 (.q 8 (.q 9 (.q 10 (.done)))))))))))) mixed (by rfl) ?_
    simp only [push_cast, ↓reduceIte, Nat.reduceEqDiff, Nat.reduceAdd, Nat.reduceMul, Nat.reduceSub, Nat.reduceLT, Nat.reduceLeDiff, reduceCtorEq, Nat.reduceMod, Int.reduceEq, Int.reduceLT, Int.reduceLE, Int.reduceToNat, dite_true, h', h0, kla, klb, inf_eq]
    refine VC.go 100 ?_
    simp only [push_cast, ↓reduceIte, Nat.reduceEqDiff, Nat.reduceAdd, Nat.reduceMul, Nat.reduceSub, Nat.reduceLT, Nat.reduceLeDiff, reduceCtorEq, Nat.reduceMod, Int.reduceEq, Int.reduceLT, Int.reduceLE, Int.reduceToNat, dite_true, e2]
    exact hG1 (i + 1) _ (by omega) (by omega) (by simp [subk, Eng.look]) (List.Sublist.refl _) rfl (subR_refl _)
  refine VC.go 100 ?_
  simp only [push_cast, ↓reduceIte, Nat.reduceEqDiff, Nat.reduceAdd, Nat.reduceMul, Nat.reduceSub, Nat.reduceLT, Nat.reduceLeDiff, reduceCtorEq, Nat.reduceMod, Int.reduceEq, Int.reduceLT, Int.reduceLE, Int.reduceToNat, dite_true]
  refine VC.loopW (ι := Nat × PH) (fun i => [(8, .v (i64v i.1)), (2, .o 0 b2 0), (3, .o 1 b3 0)]) (fun _ => [⟨0, b2, 31, [.slice p1 c.cons.length q1, .slice p2 c.globals.length q2, .slice p3 c.infos.length q3, .slice p4 c.ins.length q4]⟩, ⟨1, b3, 31, [.slice r1 c.cons.length s1, .slice r2 c.globals.length s2, .slice r3 c.infos.length s3, .slice r4 c.ins.length s4]⟩]) (fun i => i.2) (fun _ => []) (fun i => i.1 ≤ c.ins.length ∧ F.le i.2) (fun i => c.ins.length - i.1) (0, F) ⟨Nat.zero_le _, PH.le_refl _⟩ (by simp [subk, Eng.look]) (List.Sublist.refl _) rfl (subR_refl _) ?_
  rintro ⟨i, F3⟩ ⟨hi, hF3⟩ G1 hG1
  dsimp only at hi hF3 hG1 ⊢
  refine VC.go 100 ?_
  by_cases h : i < c.ins.length
  case neg =>
    have h' : ¬ (i : Int) < (c.ins.length : Int) := by omega
    simp only [push_cast, ↓reduceIte, Nat.reduceEqDiff, Nat.reduceAdd, Nat.reduceMul, Nat.reduceSub, Nat.reduceLT, Nat.reduceLeDiff, reduceCtorEq, Nat.reduceMod, Int.reduceEq, Int.reduceLT, Int.reduceLE, Int.reduceToNat, dite_true, h']
    exact RetOk.p rfl rfl
  have h' : (i : Int) < (c.ins.length : Int) := by omega
  have h0 : (0 : Int) ≤ (i : Int) := by omega
  obtain ⟨qa, _, csa, eq, _, _, kla, kra⟩ := (hc4.mono (R' := RIns F3) hF3 (fun _ _ _ h => h.mono hF3)).elem (by decide) (i := i) (a := c.ins[i]) (List.getElem?_eq_getElem h) (fun _ _ h => h.len)
  cases eq
  obtain ⟨qb, _, csb, eq, _, _, klb, krb⟩ := (hd4.mono (R' := RIns F3) hF3 (fun _ _ _ h => h.mono hF3)).elem (by decide) (i := i) (a := c.ins[i]) (List.getElem?_eq_getElem h) (fun _ _ h => h.len)
  cases eq
  have e2 : IntKind.i64.wrap ((i : Int) + 1) = ((i + 1 : Nat) : Int) := wadd i h (Nat.le_trans l4 m4)
  simp only [push_cast, ↓reduceIte, Nat.reduceEqDiff, Nat.reduceAdd, Nat.reduceMul, Nat.reduceSub, Nat.reduceLT, Nat.reduceLeDiff, reduceCtorEq, Nat.reduceMod, Int.reduceEq, Int.reduceLT, Int.reduceLE, Int.reduceToNat, dite_true, h']
  refine VC.draw (.q 0 (.q 1 (.q 2 (.q 3 (.q 4 (.q 5 (.q 6 (.q 7 (.q 8 (.q 9 (.e 10 (.q 11 (.done))))))))))))) mixed (by rfl) ?_
  simp only [push_cast, ↓reduceIte, Nat.reduceEqDiff, Nat.reduceAdd, Nat.reduceMul, Nat.reduceSub, Nat.reduceLT, Nat.reduceLeDiff, reduceCtorEq, Nat.reduceMod, Int.reduceEq, Int.reduceLT, Int.reduceLE, Int.reduceToNat, dite_true, h', h0, kla, klb]
  refine CallV.pure (insns12 F3 c.ins[i] _ _ kra krb) ?_
  rintro _ F4 hF4 rfl
  simp only [push_cast, ↓reduceIte, Nat.reduceEqDiff, Nat.reduceAdd, Nat.reduceMul, Nat.reduceSub, Nat.reduceLT, Nat.reduceLeDiff, reduceCtorEq, Nat.reduceMod, Int.reduceEq, Int.reduceLT, Int.reduceLE, Int.reduceToNat, dite_true]
  refine VC.go 100 ?_
  simp only [push_cast, ↓reduceIte, Nat.reduceEqDiff, Nat.reduceAdd, Nat.reduceMul, Nat.reduceSub, Nat.reduceLT, Nat.reduceLeDiff, reduceCtorEq, Nat.reduceMod, Int.reduceEq, Int.reduceLT, Int.reduceLE, Int.reduceToNat, dite_true, e2]
  exact hG1 (i + 1, F4) _ ⟨by omega, PH.le_trans hF3 hF4⟩ (by simp; omega) (by simp [subk, Eng.look]) (List.Sublist.refl _) rfl (subR_refl _)
/-- What is laid is one. -/
theorem runQ_one {C : Env} {i : Nat} {s t t' : Sc} (h : RunQ C i s t) (h' : RunQ C i s t') : t = t' := by
  induction h with
  | stop hn =>
    cases h' with
    | stop _ => rfl
    | step f d h1 h2 h3 h4 => exact absurd ⟨(List.getElem?_eq_some_iff.1 h2).1, h1⟩ hn
  | step f d h1 h2 h3 h4 ih =>
    cases h' with
    | stop hn => exact absurd ⟨(List.getElem?_eq_some_iff.1 h2).1, h1⟩ hn
    | step f' d' k1 k2 k3 k4 =>
      rw [h2] at k2
      rw [h3] at k3
      cases k2
      cases k3
      exact ih k4
theorem compiles_one {ds : List Dat} {bs : List Bind} {c c' : Cd} {a a' e e' : Int} (h : Compiles ds bs c a e) (h' : Compiles ds bs c' a' e') : c = c' ∧ a = a' ∧ e = e' := by
  unfold Compiles at h h'
  split at h
  · rename_i he
    rw [if_pos he] at h'
    obtain ⟨s, h1, rfl, h2⟩ := h
    obtain ⟨s', k1, rfl, k2⟩ := h'
    obtain rfl := runQ_one h1 k1
    split at h2
    · rename_i hb
      rw [if_pos hb] at k2
      exact ⟨h2.1.trans k2.1.symm, rfl, h2.2.trans k2.2.symm⟩
    · rename_i hb
      rw [if_neg hb] at k2
      exact ⟨h2.1.trans k2.1.symm, rfl, h2.2.trans k2.2.symm⟩
  · rename_i he
    rw [if_neg he] at h'
    exact ⟨h.1.trans h'.1.symm, h.2.1.trans h'.2.1.symm, h.2.2.trans h'.2.2.symm⟩
end Go.Proofs.YtoepmdbicdoieaaDoor.J
