/- The document's check of codes: arms and infos, on codes that are right. -/
import Derived.Test.YtoepmdbicdoieaaDoorZ3
namespace Go.Proofs.YtoepmdbicdoieaaDoor.Z
open Go Go.Eng Go.RowKit Go.Proofs Go.Proofs.YtoepmdbicdoieaaDoor.T Go.Proofs.YtoepmdbicdoieaaDoor.V Go.Proofs.YtoepmdbicdoieaaDoor.K Go.Proofs.YtoepmdbicdoieaaDoor.U Go.Proofs.YtoepmdbicdoieaaDoor.N
open Go.Proofs.YtoepmdbicdoieaaDoor.W (i64v ptr Ints RowE RMk RIns RInf RArm RNum RFrm src_one each_snoc Fits CompQ RCode nil_code nil_ints sle_one)
set_option linter.unusedSimpArgs false
set_option linter.unusedVariables false
set_option maxRecDepth 100000
set_option maxHeartbeats 4000000
theorem arms12 (F : PH) (c : Cd) (v1 v2 v3 v4 : Value) (hc : RCode F c v1 v2 v3 v4) (hK : CodeOK c) (x : Ins) (cx : List Value) (hx : RIns F x cx)
    (hb0 : 1 ≤ x.b) (hb1 : x.b ≤ 1000) (hne : x.arms ≠ []) (har : ∀ a ∈ x.arms, ArmOK c x.b a) :
    PFn Tryd.prog 61 [.agg #[v1, v2, v3, v4], .agg cx.toArray] F (fun v _ => v = i64v 0) := by
  have hc' := hc
  obtain ⟨p1, q1, rfl, l1, m1⟩ := hc.cons.val
  obtain ⟨p2, q2, rfl, l2, m2⟩ := hc.globals.val
  obtain ⟨p3, q3, rfl, l3, m3⟩ := hc.infos.val
  obtain ⟨p4, q4, rfl, l4, m4⟩ := hc.ins.val
  obtain ⟨vl, vk, vm, va, rfl, hx1, hx2, hx3, hx4⟩ := hx
  have hl := hx1
  have hk := hx2
  obtain ⟨pl, cl, rfl, _, _, _⟩ := hx1
  obtain ⟨pk, ck, rfl, _, _, _⟩ := hx2
  obtain ⟨pm, cm, rfl, lm, mm⟩ := hx3.val
  obtain ⟨pa, ca, rfl, la, ma⟩ := hx4.val
  have hne' : ¬ (x.arms.length : Int) = 0 := fun e => hne (List.length_eq_zero_iff.1 (by omega))
  refine Fn.intro (n := 96) (ts := [4]) Tryd.func61 rfl rfl rfl rfl (by simp) fun B hB => VC.go 7 ?_
  simp only [push_cast, ↓reduceIte, Nat.reduceEqDiff, Nat.reduceAdd, Nat.reduceMul, Nat.reduceSub, Nat.reduceLT, Nat.reduceLeDiff, reduceCtorEq, Nat.reduceMod, Int.reduceEq, Int.reduceLT, Int.reduceLE, Int.reduceToNat, dite_true, hne']
  intro b2 b3
  refine VC.seq (VC.cutW (ι := PH) (fun _ => [(2, .o 0 b2 0), (3, .o 1 b3 0)]) (fun _ => [⟨0, b2, 31, [.slice p1 c.cons.length q1, .slice p2 c.globals.length q2, .slice p3 c.infos.length q3, .slice p4 c.ins.length q4]⟩, ⟨1, b3, 89, [i64v x.op, i64v x.a, i64v x.b, .slice pl x.list.length cl, .slice pk x.keep.length ck, .slice pm x.makes.length cm, .slice pa x.arms.length ca]⟩]) (fun j => j) (fun _ => []) (fun j => F.le j) (fun G hG => ?_) ?_)
  · have hF1 := PH.le_refl F
    refine VC.go 100 ?_
    simp only [push_cast, ↓reduceIte, Nat.reduceEqDiff, Nat.reduceAdd, Nat.reduceMul, Nat.reduceSub, Nat.reduceLT, Nat.reduceLeDiff, reduceCtorEq, Nat.reduceMod, Int.reduceEq, Int.reduceLT, Int.reduceLE, Int.reduceToNat, dite_true]
    refine VC.loopW (ι := Nat × PH) (fun j => [(5, .v (i64v j.1)), (2, .o 0 b2 0), (3, .o 1 b3 0)]) (fun _ => [⟨0, b2, 31, [.slice p1 c.cons.length q1, .slice p2 c.globals.length q2, .slice p3 c.infos.length q3, .slice p4 c.ins.length q4]⟩, ⟨1, b3, 89, [i64v x.op, i64v x.a, i64v x.b, .slice pl x.list.length cl, .slice pk x.keep.length ck, .slice pm x.makes.length cm, .slice pa x.arms.length ca]⟩]) (fun j => j.2) (fun _ => []) (fun j => j.1 ≤ x.arms.length ∧ F.le j.2) (fun j => x.arms.length - j.1) (0, F) ⟨Nat.zero_le _, PH.le_refl _⟩ (by simp [subk, Eng.look]) (List.Sublist.refl _) rfl (subR_refl _) ?_
    rintro ⟨i, F2⟩ ⟨hi, hF2'⟩ G1 hG1
    dsimp only at hi hF2' hG1 ⊢
    have hF2 : F.le F2 := PH.le_trans hF1 hF2'
    refine VC.go 100 ?_
    by_cases h : i < x.arms.length
    case neg =>
      have h' : ¬ (i : Int) < (x.arms.length : Int) := by omega
      simp only [push_cast, ↓reduceIte, Nat.reduceEqDiff, Nat.reduceAdd, Nat.reduceMul, Nat.reduceSub, Nat.reduceLT, Nat.reduceLeDiff, reduceCtorEq, Nat.reduceMod, Int.reduceEq, Int.reduceLT, Int.reduceLE, Int.reduceToNat, dite_true, h']
      exact hG F2 _ hF2 (by simp [subk, Eng.look]) (List.Sublist.refl _) rfl (subR_refl _)
    have h' : (i : Int) < (x.arms.length : Int) := by omega
    have h0 : (0 : Int) ≤ (i : Int) := by omega
    have e2 : IntKind.i64.wrap ((i : Int) + 1) = ((i + 1 : Nat) : Int) := wadd i h (Nat.le_trans la ma)
    obtain ⟨qa, _, csa, eq, _, _, kla, kra⟩ := (hx4.mono (R' := RArm) (F := F) (G := F2) hF2 (fun _ _ _ h => h)).elem (by decide) (i := i) (a := x.arms[i]) (List.getElem?_eq_getElem h) (fun _ _ h => h.len)
    cases eq
    unfold RArm at kra
    subst kra
    have k0 := cell_at kla (o := 0) rfl
    have k1 := cell_at kla (o := 1) rfl
    have k3 := cell_at kla (o := 3) rfl
    obtain ⟨m, j, g1, g2, g3⟩ := har _ (List.getElem_mem h)
    have hm := (List.getElem?_eq_some_iff.1 g2).1
    simp only [push_cast, ↓reduceIte, Nat.reduceEqDiff, Nat.reduceAdd, Nat.reduceMul, Nat.reduceSub, Nat.reduceLT, Nat.reduceLeDiff, reduceCtorEq, Nat.reduceMod, Int.reduceEq, Int.reduceLT, Int.reduceLE, Int.reduceToNat, dite_true, h']
    by_cases n1 : (x.arms[i]).kind = 1
    case neg =>
      refine VC.draw (.q 0 (.q 1 (.q 2 (.q 3 (.q 4 (.q 5 (.q 6 (.q 7 (.q 8 (.q 9 (.q 10 (.q 11 (.q 12 (.q 13 (.q 14 (.e 15 (.q 16 (.q 17 (.done))))))))))))))))))) mixed (by rfl) ?_
      simp only [push_cast, ↓reduceIte, Nat.reduceEqDiff, Nat.reduceAdd, Nat.reduceMul, Nat.reduceSub, Nat.reduceLT, Nat.reduceLeDiff, reduceCtorEq, Nat.reduceMod, Int.reduceEq, Int.reduceLT, Int.reduceLE, Int.reduceToNat, dite_true, h', h0, k0, n1]
      refine VC.go 100 ?_
      simp only [push_cast, ↓reduceIte, Nat.reduceEqDiff, Nat.reduceAdd, Nat.reduceMul, Nat.reduceSub, Nat.reduceLT, Nat.reduceLeDiff, reduceCtorEq, Nat.reduceMod, Int.reduceEq, Int.reduceLT, Int.reduceLE, Int.reduceToNat, dite_true, e2]
      exact hG1 (i + 1, F2) _ ⟨by omega, hF2'⟩ (by simp; omega) (by simp [subk, Eng.look]) (List.Sublist.refl _) rfl (subR_refl _)
    rcases g3 with ⟨_, u, y, g4, g5, g6⟩ | ⟨g4, _⟩
    rotate_left
    · omega
    have hu := (List.getElem?_eq_some_iff.1 g5).1
    refine VC.draw (.q 0 (.q 1 (.q 2 (.q 3 (.q 4 (.q 5 (.q 6 (.q 7 (.q 8 (.q 9 (.q 10 (.q 11 (.q 12 (.q 13 (.q 14 (.e 15 (.q 16 (.q 17 (.done))))))))))))))))))) mixed (by rfl) ?_
    simp only [push_cast, ↓reduceIte, Nat.reduceEqDiff, Nat.reduceAdd, Nat.reduceMul, Nat.reduceSub, Nat.reduceLT, Nat.reduceLeDiff, reduceCtorEq, Nat.reduceMod, Int.reduceEq, Int.reduceLT, Int.reduceLE, Int.reduceToNat, dite_true, h', h0, k0, k1, n1, g4]
    refine CallV.pure (con F2 c _ _ _ _ (code_mono hF2 hc') u hu) ?_
    rintro _ F3 hF3 rfl
    simp only [push_cast, ↓reduceIte, Nat.reduceEqDiff, Nat.reduceAdd, Nat.reduceMul, Nat.reduceSub, Nat.reduceLT, Nat.reduceLeDiff, reduceCtorEq, Nat.reduceMod, Int.reduceEq, Int.reduceLT, Int.reduceLE, Int.reduceToNat, dite_true]
    refine VC.go 100 ?_
    simp only [push_cast, ↓reduceIte, Nat.reduceEqDiff, Nat.reduceAdd, Nat.reduceMul, Nat.reduceSub, Nat.reduceLT, Nat.reduceLeDiff, reduceCtorEq, Nat.reduceMod, Int.reduceEq, Int.reduceLT, Int.reduceLE, Int.reduceToNat, dite_true, e2]
    exact hG1 (i + 1, F3) _ ⟨by omega, PH.le_trans hF2' hF3⟩ (by simp; omega) (by simp [subk, Eng.look]) (List.Sublist.refl _) rfl (subR_refl _)
  intro F1 hF1
  refine VC.seq (VC.cutW (ι := PH) (fun _ => [(2, .o 0 b2 0), (3, .o 1 b3 0)]) (fun _ => [⟨0, b2, 31, [.slice p1 c.cons.length q1, .slice p2 c.globals.length q2, .slice p3 c.infos.length q3, .slice p4 c.ins.length q4]⟩, ⟨1, b3, 89, [i64v x.op, i64v x.a, i64v x.b, .slice pl x.list.length cl, .slice pk x.keep.length ck, .slice pm x.makes.length cm, .slice pa x.arms.length ca]⟩]) (fun j => j) (fun _ => []) (fun j => F.le j) (fun G hG => ?_) ?_)
  · refine VC.go 100 ?_
    simp only [push_cast, ↓reduceIte, Nat.reduceEqDiff, Nat.reduceAdd, Nat.reduceMul, Nat.reduceSub, Nat.reduceLT, Nat.reduceLeDiff, reduceCtorEq, Nat.reduceMod, Int.reduceEq, Int.reduceLT, Int.reduceLE, Int.reduceToNat, dite_true]
    refine VC.loopW (ι := Nat × PH) (fun j => [(6, .v (i64v j.1)), (2, .o 0 b2 0), (3, .o 1 b3 0)]) (fun _ => [⟨0, b2, 31, [.slice p1 c.cons.length q1, .slice p2 c.globals.length q2, .slice p3 c.infos.length q3, .slice p4 c.ins.length q4]⟩, ⟨1, b3, 89, [i64v x.op, i64v x.a, i64v x.b, .slice pl x.list.length cl, .slice pk x.keep.length ck, .slice pm x.makes.length cm, .slice pa x.arms.length ca]⟩]) (fun j => j.2) (fun _ => []) (fun j => j.1 ≤ x.arms.length ∧ F1.le j.2) (fun j => x.arms.length - j.1) (0, F1) ⟨Nat.zero_le _, PH.le_refl _⟩ (by simp [subk, Eng.look]) (List.Sublist.refl _) rfl (subR_refl _) ?_
    rintro ⟨i, F2⟩ ⟨hi, hF2'⟩ G1 hG1
    dsimp only at hi hF2' hG1 ⊢
    have hF2 : F.le F2 := PH.le_trans hF1 hF2'
    refine VC.go 100 ?_
    by_cases h : i < x.arms.length
    case neg =>
      have h' : ¬ (i : Int) < (x.arms.length : Int) := by omega
      simp only [push_cast, ↓reduceIte, Nat.reduceEqDiff, Nat.reduceAdd, Nat.reduceMul, Nat.reduceSub, Nat.reduceLT, Nat.reduceLeDiff, reduceCtorEq, Nat.reduceMod, Int.reduceEq, Int.reduceLT, Int.reduceLE, Int.reduceToNat, dite_true, h']
      exact hG F2 _ hF2 (by simp [subk, Eng.look]) (List.Sublist.refl _) rfl (subR_refl _)
    have h' : (i : Int) < (x.arms.length : Int) := by omega
    have h0 : (0 : Int) ≤ (i : Int) := by omega
    have e2 : IntKind.i64.wrap ((i : Int) + 1) = ((i + 1 : Nat) : Int) := wadd i h (Nat.le_trans la ma)
    obtain ⟨qa, _, csa, eq, _, _, kla, kra⟩ := (hx4.mono (R' := RArm) (F := F) (G := F2) hF2 (fun _ _ _ h => h)).elem (by decide) (i := i) (a := x.arms[i]) (List.getElem?_eq_getElem h) (fun _ _ h => h.len)
    cases eq
    unfold RArm at kra
    subst kra
    have k0 := cell_at kla (o := 0) rfl
    have k1 := cell_at kla (o := 1) rfl
    have k3 := cell_at kla (o := 3) rfl
    obtain ⟨m, j, g1, g2, g3⟩ := har _ (List.getElem_mem h)
    have hm := (List.getElem?_eq_some_iff.1 g2).1
    simp only [push_cast, ↓reduceIte, Nat.reduceEqDiff, Nat.reduceAdd, Nat.reduceMul, Nat.reduceSub, Nat.reduceLT, Nat.reduceLeDiff, reduceCtorEq, Nat.reduceMod, Int.reduceEq, Int.reduceLT, Int.reduceLE, Int.reduceToNat, dite_true, h']
    refine VC.draw (.q 0 (.q 1 (.q 2 (.q 3 (.q 4 (.q 5 (.q 6 (.e 7 (.q 8 (.done)))))))))) mixed (by rfl) ?_
    simp only [push_cast, ↓reduceIte, Nat.reduceEqDiff, Nat.reduceAdd, Nat.reduceMul, Nat.reduceSub, Nat.reduceLT, Nat.reduceLeDiff, reduceCtorEq, Nat.reduceMod, Int.reduceEq, Int.reduceLT, Int.reduceLE, Int.reduceToNat, dite_true, h', h0, k3, g1]
    refine CallV.pure (there F2 c _ _ _ _ (code_mono hF2 hc') m hm) ?_
    rintro _ F3 hF3 rfl
    simp only [push_cast, ↓reduceIte, Nat.reduceEqDiff, Nat.reduceAdd, Nat.reduceMul, Nat.reduceSub, Nat.reduceLT, Nat.reduceLeDiff, reduceCtorEq, Nat.reduceMod, Int.reduceEq, Int.reduceLT, Int.reduceLE, Int.reduceToNat, dite_true]
    refine VC.go 100 ?_
    simp only [push_cast, ↓reduceIte, Nat.reduceEqDiff, Nat.reduceAdd, Nat.reduceMul, Nat.reduceSub, Nat.reduceLT, Nat.reduceLeDiff, reduceCtorEq, Nat.reduceMod, Int.reduceEq, Int.reduceLT, Int.reduceLE, Int.reduceToNat, dite_true, e2]
    exact hG1 (i + 1, F3) _ ⟨by omega, PH.le_trans hF2' hF3⟩ (by simp; omega) (by simp [subk, Eng.look]) (List.Sublist.refl _) rfl (subR_refl _)
  intro F1 hF1
  refine VC.seq (VC.cutW (ι := PH) (fun _ => [(2, .o 0 b2 0), (3, .o 1 b3 0)]) (fun _ => [⟨0, b2, 31, [.slice p1 c.cons.length q1, .slice p2 c.globals.length q2, .slice p3 c.infos.length q3, .slice p4 c.ins.length q4]⟩, ⟨1, b3, 89, [i64v x.op, i64v x.a, i64v x.b, .slice pl x.list.length cl, .slice pk x.keep.length ck, .slice pm x.makes.length cm, .slice pa x.arms.length ca]⟩]) (fun j => j) (fun _ => []) (fun j => F.le j) (fun G hG => ?_) ?_)
  · refine VC.go 100 ?_
    simp only [push_cast, ↓reduceIte, Nat.reduceEqDiff, Nat.reduceAdd, Nat.reduceMul, Nat.reduceSub, Nat.reduceLT, Nat.reduceLeDiff, reduceCtorEq, Nat.reduceMod, Int.reduceEq, Int.reduceLT, Int.reduceLE, Int.reduceToNat, dite_true]
    refine VC.loopW (ι := Nat × PH) (fun j => [(7, .v (i64v j.1)), (2, .o 0 b2 0), (3, .o 1 b3 0)]) (fun _ => [⟨0, b2, 31, [.slice p1 c.cons.length q1, .slice p2 c.globals.length q2, .slice p3 c.infos.length q3, .slice p4 c.ins.length q4]⟩, ⟨1, b3, 89, [i64v x.op, i64v x.a, i64v x.b, .slice pl x.list.length cl, .slice pk x.keep.length ck, .slice pm x.makes.length cm, .slice pa x.arms.length ca]⟩]) (fun j => j.2) (fun _ => []) (fun j => j.1 ≤ x.arms.length ∧ F1.le j.2) (fun j => x.arms.length - j.1) (0, F1) ⟨Nat.zero_le _, PH.le_refl _⟩ (by simp [subk, Eng.look]) (List.Sublist.refl _) rfl (subR_refl _) ?_
    rintro ⟨i, F2⟩ ⟨hi, hF2'⟩ G1 hG1
    dsimp only at hi hF2' hG1 ⊢
    have hF2 : F.le F2 := PH.le_trans hF1 hF2'
    refine VC.go 100 ?_
    by_cases h : i < x.arms.length
    case neg =>
      have h' : ¬ (i : Int) < (x.arms.length : Int) := by omega
      simp only [push_cast, ↓reduceIte, Nat.reduceEqDiff, Nat.reduceAdd, Nat.reduceMul, Nat.reduceSub, Nat.reduceLT, Nat.reduceLeDiff, reduceCtorEq, Nat.reduceMod, Int.reduceEq, Int.reduceLT, Int.reduceLE, Int.reduceToNat, dite_true, h']
      exact hG F2 _ hF2 (by simp [subk, Eng.look]) (List.Sublist.refl _) rfl (subR_refl _)
    have h' : (i : Int) < (x.arms.length : Int) := by omega
    have h0 : (0 : Int) ≤ (i : Int) := by omega
    have e2 : IntKind.i64.wrap ((i : Int) + 1) = ((i + 1 : Nat) : Int) := wadd i h (Nat.le_trans la ma)
    obtain ⟨qa, _, csa, eq, _, _, kla, kra⟩ := (hx4.mono (R' := RArm) (F := F) (G := F2) hF2 (fun _ _ _ h => h)).elem (by decide) (i := i) (a := x.arms[i]) (List.getElem?_eq_getElem h) (fun _ _ h => h.len)
    cases eq
    unfold RArm at kra
    subst kra
    have k0 := cell_at kla (o := 0) rfl
    have k1 := cell_at kla (o := 1) rfl
    have k3 := cell_at kla (o := 3) rfl
    obtain ⟨m, j, g1, g2, g3⟩ := har _ (List.getElem_mem h)
    have hm := (List.getElem?_eq_some_iff.1 g2).1
    obtain ⟨qj, _, csj, eq, _, _, klj, krj⟩ := (hc'.ins.mono (R' := RIns F2) hF2 (fun _ _ _ h => h.mono hF2)).elem (by decide) g2 (fun _ _ h => h.len)
    cases eq
    obtain ⟨wl, wk, wm, wa, rfl, _, _, _, _⟩ := krj
    have kj := cell_at klj (o := 2) rfl
    have hm0 : (0 : Int) ≤ (m : Int) := by omega
    have hm' : (m : Int) < (c.ins.length : Int) := by omega
    simp only [push_cast, ↓reduceIte, Nat.reduceEqDiff, Nat.reduceAdd, Nat.reduceMul, Nat.reduceSub, Nat.reduceLT, Nat.reduceLeDiff, reduceCtorEq, Nat.reduceMod, Int.reduceEq, Int.reduceLT, Int.reduceLE, Int.reduceToNat, dite_true, h', h0, k0]
    by_cases n1 : (x.arms[i]).kind = 1
    · rcases g3 with ⟨_, u, y, g4, g5, g6⟩ | ⟨g4, _⟩
      rotate_left
      · omega
      have hu := (List.getElem?_eq_some_iff.1 g5).1
      have hy := hK.cons u y g5
      obtain ⟨qb, _, csb, eq, _, _, klb, krb⟩ := (hc'.cons.mono (R' := RNum) hF2 (fun _ _ _ h => h)).elem (by decide) g5 (fun _ _ h => h.len)
      cases eq
      unfold RNum at krb
      subst krb
      have kb := cell_at klb (o := 1) rfl
      have hu0 : (0 : Int) ≤ (u : Int) := by omega
      have hu' : (u : Int) < (c.cons.length : Int) := by omega
      have e4 : IntKind.i64.wrap (x.b + y.2) = x.b + y.2 := w64 _ (by omega)
      simp only [push_cast, ↓reduceIte, Nat.reduceEqDiff, Nat.reduceAdd, Nat.reduceMul, Nat.reduceSub, Nat.reduceLT, Nat.reduceLeDiff, reduceCtorEq, Nat.reduceMod, Int.reduceEq, Int.reduceLT, Int.reduceLE, Int.reduceToNat, dite_true, n1]
      refine VC.draw (.q 0 (.q 1 (.q 2 (.q 3 (.q 4 (.q 5 (.q 6 (.q 7 (.q 8 (.q 9 (.q 10 (.q 11 (.q 12 (.e 13 (.done))))))))))))))) mixed (by rfl) ?_
      simp only [push_cast, ↓reduceIte, Nat.reduceEqDiff, Nat.reduceAdd, Nat.reduceMul, Nat.reduceSub, Nat.reduceLT, Nat.reduceLeDiff, reduceCtorEq, Nat.reduceMod, Int.reduceEq, Int.reduceLT, Int.reduceLE, Int.reduceToNat, dite_true, h', h0, k1, g4, hu0, hu', kb, e4]
      refine VC.go 100 ?_
      simp only [push_cast, ↓reduceIte, Nat.reduceEqDiff, Nat.reduceAdd, Nat.reduceMul, Nat.reduceSub, Nat.reduceLT, Nat.reduceLeDiff, reduceCtorEq, Nat.reduceMod, Int.reduceEq, Int.reduceLT, Int.reduceLE, Int.reduceToNat, dite_true]
      refine VC.draw (.q 0 (.q 1 (.q 2 (.q 3 (.q 4 (.q 5 (.q 6 (.q 7 (.q 8 (.q 9 (.q 10 (.q 11 (.q 12 (.done)))))))))))))) mixed (by rfl) ?_
      simp only [push_cast, ↓reduceIte, Nat.reduceEqDiff, Nat.reduceAdd, Nat.reduceMul, Nat.reduceSub, Nat.reduceLT, Nat.reduceLeDiff, reduceCtorEq, Nat.reduceMod, Int.reduceEq, Int.reduceLT, Int.reduceLE, Int.reduceToNat, dite_true, h', h0, k3, g1, hm0, hm', kj, g6]
      refine VC.go 100 ?_
      simp only [push_cast, ↓reduceIte, Nat.reduceEqDiff, Nat.reduceAdd, Nat.reduceMul, Nat.reduceSub, Nat.reduceLT, Nat.reduceLeDiff, reduceCtorEq, Nat.reduceMod, Int.reduceEq, Int.reduceLT, Int.reduceLE, Int.reduceToNat, dite_true, e2, ne_eq, not_true_eq_false, decide_false]
      exact hG1 (i + 1, F2) _ ⟨by omega, hF2'⟩ (by simp; omega) (by simp [subk, Eng.look]) (List.Sublist.refl _) rfl (subR_refl _)
    · rcases g3 with ⟨g4, _⟩ | ⟨_, g4⟩
      · omega
      simp only [push_cast, ↓reduceIte, Nat.reduceEqDiff, Nat.reduceAdd, Nat.reduceMul, Nat.reduceSub, Nat.reduceLT, Nat.reduceLeDiff, reduceCtorEq, Nat.reduceMod, Int.reduceEq, Int.reduceLT, Int.reduceLE, Int.reduceToNat, dite_true, n1]
      refine VC.draw (.q 0 (.q 1 (.q 2 (.q 3 (.q 4 (.q 5 (.q 6 (.q 7 (.q 8 (.q 9 (.q 10 (.q 11 (.q 12 (.done)))))))))))))) mixed (by rfl) ?_
      simp only [push_cast, ↓reduceIte, Nat.reduceEqDiff, Nat.reduceAdd, Nat.reduceMul, Nat.reduceSub, Nat.reduceLT, Nat.reduceLeDiff, reduceCtorEq, Nat.reduceMod, Int.reduceEq, Int.reduceLT, Int.reduceLE, Int.reduceToNat, dite_true, h', h0, k3, g1, hm0, hm', kj, g4]
      refine VC.go 100 ?_
      simp only [push_cast, ↓reduceIte, Nat.reduceEqDiff, Nat.reduceAdd, Nat.reduceMul, Nat.reduceSub, Nat.reduceLT, Nat.reduceLeDiff, reduceCtorEq, Nat.reduceMod, Int.reduceEq, Int.reduceLT, Int.reduceLE, Int.reduceToNat, dite_true, e2, ne_eq, not_true_eq_false, decide_false]
      exact hG1 (i + 1, F2) _ ⟨by omega, hF2'⟩ (by simp; omega) (by simp [subk, Eng.look]) (List.Sublist.refl _) rfl (subR_refl _)
  intro F1 hF1
  refine VC.go 100 ?_
  simp only [push_cast, ↓reduceIte, Nat.reduceEqDiff, Nat.reduceAdd, Nat.reduceMul, Nat.reduceSub, Nat.reduceLT, Nat.reduceLeDiff, reduceCtorEq, Nat.reduceMod, Int.reduceEq, Int.reduceLT, Int.reduceLE, Int.reduceToNat, dite_true]
  exact RetOk.p rfl rfl
theorem info12 (F : PH) (c : Cd) (v1 v2 v3 v4 : Value) (hc : RCode F c v1 v2 v3 v4) (hK : CodeOK c) (v : Inf) (hv : InfOK c v) :
    PFn Tryd.prog 25 [.agg #[v1, v2, v3, v4], .agg #[i64v v.kind, i64v v.arity, i64v v.free, i64v v.to]] F (fun v _ => v = i64v 0) := by
  have hc' := hc
  obtain ⟨p1, q1, rfl, l1, m1⟩ := hc.cons.val
  obtain ⟨p2, q2, rfl, l2, m2⟩ := hc.globals.val
  obtain ⟨p3, q3, rfl, l3, m3⟩ := hc.infos.val
  obtain ⟨p4, q4, rfl, l4, m4⟩ := hc.ins.val
  obtain ⟨g1, g2, g3, m, y, g4, g5, g6⟩ := hv
  have hm := (List.getElem?_eq_some_iff.1 g5).1
  obtain ⟨qj, _, csj, eq, _, _, klj, krj⟩ := hc'.ins.elem (by decide) g5 (fun _ _ h => h.len)
  cases eq
  obtain ⟨wl, wk, wm, wa, rfl, _, _, _, _⟩ := krj
  have kj := cell_at klj (o := 2) rfl
  have hm0 : (0 : Int) ≤ (m : Int) := by omega
  have hm1 : ¬ (m : Int) < 0 := by omega
  have hm' : (m : Int) < (c.ins.length : Int) := by omega
  have hm2 : ¬ (c.ins.length : Int) ≤ (m : Int) := by omega
  have f1 : ¬ v.free < 0 := by omega
  have f2 : ¬ 255 < v.free := by omega
  have e4 : IntKind.i64.wrap (v.arity + v.free) = v.arity + v.free := w64 _ (by omega)
  refine Fn.intro (n := 62) (ts := [4]) Tryd.func25 rfl rfl rfl rfl (by simp) fun B hB => VC.go 100 ?_
  rcases g1 with ⟨a1, a2, a3⟩ | ⟨a1, a2⟩
  · have a4 : ¬ v.arity < 1 := by omega
    have a5 : ¬ 8 < v.arity := by omega
    simp only [push_cast, ↓reduceIte, Nat.reduceEqDiff, Nat.reduceAdd, Nat.reduceMul, Nat.reduceSub, Nat.reduceLT, Nat.reduceLeDiff, reduceCtorEq, Nat.reduceMod, Int.reduceEq, Int.reduceLT, Int.reduceLE, Int.reduceToNat, dite_true, a1, a4, a5, f1, f2, g4, hm1, hm2]
    intro b2 b3
    refine VC.draw (.q 0 (.q 1 (.q 2 (.q 3 (.q 4 (.q 5 (.q 6 (.q 7 (.q 8 (.q 9 (.q 10 (.q 11 (.q 12 (.done)))))))))))))) mixed (by rfl) ?_
    simp only [push_cast, ↓reduceIte, Nat.reduceEqDiff, Nat.reduceAdd, Nat.reduceMul, Nat.reduceSub, Nat.reduceLT, Nat.reduceLeDiff, reduceCtorEq, Nat.reduceMod, Int.reduceEq, Int.reduceLT, Int.reduceLE, Int.reduceToNat, dite_true, g4, hm0, hm', kj, g6, e4]
    refine VC.go 100 ?_
    simp only [push_cast, ↓reduceIte, Nat.reduceEqDiff, Nat.reduceAdd, Nat.reduceMul, Nat.reduceSub, Nat.reduceLT, Nat.reduceLeDiff, reduceCtorEq, Nat.reduceMod, Int.reduceEq, Int.reduceLT, Int.reduceLE, Int.reduceToNat, dite_true, ne_eq, not_true_eq_false, decide_false]
    exact RetOk.p rfl rfl
  · have a4 : ¬ v.arity < 0 := by omega
    have a5 : ¬ 0 < v.arity := by omega
    simp only [push_cast, ↓reduceIte, Nat.reduceEqDiff, Nat.reduceAdd, Nat.reduceMul, Nat.reduceSub, Nat.reduceLT, Nat.reduceLeDiff, reduceCtorEq, Nat.reduceMod, Int.reduceEq, Int.reduceLT, Int.reduceLE, Int.reduceToNat, dite_true, a1, a4, a5, f1, f2, g4, hm1, hm2]
    intro b2 b3
    refine VC.draw (.q 0 (.q 1 (.q 2 (.q 3 (.q 4 (.q 5 (.q 6 (.q 7 (.q 8 (.q 9 (.q 10 (.q 11 (.q 12 (.done)))))))))))))) mixed (by rfl) ?_
    simp only [push_cast, ↓reduceIte, Nat.reduceEqDiff, Nat.reduceAdd, Nat.reduceMul, Nat.reduceSub, Nat.reduceLT, Nat.reduceLeDiff, reduceCtorEq, Nat.reduceMod, Int.reduceEq, Int.reduceLT, Int.reduceLE, Int.reduceToNat, dite_true, g4, hm0, hm', kj, g6, e4]
    refine VC.go 100 ?_
    simp only [push_cast, ↓reduceIte, Nat.reduceEqDiff, Nat.reduceAdd, Nat.reduceMul, Nat.reduceSub, Nat.reduceLT, Nat.reduceLeDiff, reduceCtorEq, Nat.reduceMod, Int.reduceEq, Int.reduceLT, Int.reduceLE, Int.reduceToNat, dite_true, ne_eq, not_true_eq_false, decide_false]
    exact RetOk.p rfl rfl
end Go.Proofs.YtoepmdbicdoieaaDoor.Z
