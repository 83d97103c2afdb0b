/- The document's check of codes, on codes that are right: places, constructors, closures. -/
import Derived.Test.YtoepmdbicdoieaaDoorZ1
namespace Go.Proofs.YtoepmdbicdoieaaDoor.Z
open Go Go.Eng Go.RowKit Go.Proofs Go.Proofs.YtoepmdbicdoieaaDoor.T Go.Proofs.YtoepmdbicdoieaaDoor.V Go.Proofs.YtoepmdbicdoieaaDoor.K Go.Proofs.YtoepmdbicdoieaaDoor.U Go.Proofs.YtoepmdbicdoieaaDoor.N
open Go.Proofs.YtoepmdbicdoieaaDoor.W (i64v ptr Ints RowE RMk RIns RInf RArm RNum RFrm src_one each_snoc Fits CompQ RCode nil_code nil_ints sle_one)
set_option linter.unusedSimpArgs false
set_option linter.unusedVariables false
set_option maxRecDepth 100000
set_option maxHeartbeats 4000000
theorem code_mono' {F G : PH} (hl : F.le G) {c : Cd} {v1 v2 v3 v4 : Value} (h : RCode F c v1 v2 v3 v4) : RCode G c v1 v2 v3 v4 :=
  ⟨h.cons.mono hl fun _ _ _ h => h, h.globals.mono hl fun _ _ _ h => h, h.infos.mono hl fun _ _ _ h => h, h.ins.mono hl fun _ _ _ h => h.mono hl⟩
theorem takes (F : PH) (c : Cd) (v1 v2 v3 v4 : Value) (hc : RCode F c v1 v2 v3 v4) (loc : Int) (k : Mk) (vf : Value) (hf : Ints F vf k.frm) (h : MkOK c loc k) :
    PFn Tryd.prog 101 [.agg #[v1, v2, v3, v4], .agg #[i64v k.kind, i64v k.info, i64v k.n, vf]] F (fun v _ => v = i64v k.frm.length) := by
  have hc' := hc
  have hc1 := hc.cons
  have hc3 := hc.infos
  obtain ⟨p1, q1, rfl, l1, m1⟩ := hc.cons.val
  obtain ⟨p2, q2, rfl, l2, m2⟩ := hc.globals.val
  obtain ⟨p3, q3, rfl, l3, m3⟩ := hc.infos.val
  obtain ⟨p4, q4, rfl, l4, m4⟩ := hc.ins.val
  obtain ⟨pl, cl, rfl, _, _, _⟩ := hf
  refine Fn.intro (n := 55) (ts := [4]) Tryd.func101 rfl rfl rfl rfl (by simp) fun B hB => VC.go 100 ?_
  simp only [push_cast, ↓reduceIte, Nat.reduceEqDiff, Nat.reduceAdd, Nat.reduceMul, Nat.reduceSub, Nat.reduceLT, Nat.reduceLeDiff, reduceCtorEq, Nat.reduceMod, Int.reduceEq, Int.reduceLT, Int.reduceLE, Int.reduceToNat, dite_true]
  intro b2 b3
  rcases h.1 with ⟨e1, e2⟩ | ⟨e1, i, x, e2, e3, e4⟩ | ⟨e1, e2, _⟩ | ⟨e1, i, x, e2, e3, e4, e5⟩
  · simp only [push_cast, ↓reduceIte, Nat.reduceEqDiff, Nat.reduceAdd, Nat.reduceMul, Nat.reduceSub, Nat.reduceLT, Nat.reduceLeDiff, reduceCtorEq, Nat.reduceMod, Int.reduceEq, Int.reduceLT, Int.reduceLE, Int.reduceToNat, dite_true, e1, e2]
    exact RetOk.p rfl rfl
  · have hi := (List.getElem?_eq_some_iff.1 e3).1
    have n1 : ¬ k.kind = 2 := by omega
    have n2 : ¬ k.kind = 7 := by omega
    have h0 : (0 : Int) ≤ (i : Int) := by omega
    have h' : (i : Int) < (c.cons.length : Int) := by omega
    obtain ⟨qa, _, csa, eq, _, _, kla, kra⟩ := hc1.elem (by decide) e3 (fun _ _ h => h.len)
    cases eq
    unfold RNum at kra
    subst kra
    have ka := cell_at kla (o := 1) rfl
    simp only [push_cast, ↓reduceIte, Nat.reduceEqDiff, Nat.reduceAdd, Nat.reduceMul, Nat.reduceSub, Nat.reduceLT, Nat.reduceLeDiff, reduceCtorEq, Nat.reduceMod, Int.reduceEq, Int.reduceLT, Int.reduceLE, Int.reduceToNat, dite_true, e1, e2, n1, n2]
    refine CallV.pure (con F c _ _ _ _ hc' i hi) ?_
    rintro _ F1 hF1 rfl
    have ka' := PH.le.cell hF1 ka
    simp only [push_cast, ↓reduceIte, Nat.reduceEqDiff, Nat.reduceAdd, Nat.reduceMul, Nat.reduceSub, Nat.reduceLT, Nat.reduceLeDiff, reduceCtorEq, Nat.reduceMod, Int.reduceEq, Int.reduceLT, Int.reduceLE, Int.reduceToNat, dite_true, h0, h', ka']
    exact RetOk.p rfl (by rw [← e4]; rfl)
  · simp only [push_cast, ↓reduceIte, Nat.reduceEqDiff, Nat.reduceAdd, Nat.reduceMul, Nat.reduceSub, Nat.reduceLT, Nat.reduceLeDiff, reduceCtorEq, Nat.reduceMod, Int.reduceEq, Int.reduceLT, Int.reduceLE, Int.reduceToNat, dite_true, e1]
    exact RetOk.p rfl (by rw [e2]; rfl)
  · have hi := (List.getElem?_eq_some_iff.1 e3).1
    have n1 : ¬ k.kind = 2 := by omega
    have n2 : ¬ k.kind = 7 := by omega
    have n3 : ¬ k.kind = 1 := by omega
    have h0 : (0 : Int) ≤ (i : Int) := by omega
    have h' : (i : Int) < (c.infos.length : Int) := by omega
    obtain ⟨qa, _, csa, eq, _, _, kla, kra⟩ := hc3.elem (by decide) e3 (fun _ _ h => h.len)
    cases eq
    unfold RInf at kra
    subst kra
    have k0 := cell_at kla (o := 0) rfl
    have k2 := cell_at kla (o := 2) rfl
    simp only [push_cast, ↓reduceIte, Nat.reduceEqDiff, Nat.reduceAdd, Nat.reduceMul, Nat.reduceSub, Nat.reduceLT, Nat.reduceLeDiff, reduceCtorEq, Nat.reduceMod, Int.reduceEq, Int.reduceLT, Int.reduceLE, Int.reduceToNat, dite_true, n1, n2, n3, e2]
    refine VC.draw (.q 0 (.q 1 (.q 2 (.q 3 (.q 4 (.q 5 (.q 6 (.q 7 (.q 8 (.q 9 (.q 10 (.q 11 (.q 12 (.q 13 (.q 14 (.q 15 (.q 16 (.q 17 (.q 18 (.q 19 (.q 20 (.q 21 (.q 22 (.done)))))))))))))))))))))))) mixed (by rfl) ?_
    simp only [push_cast, ↓reduceIte, Nat.reduceEqDiff, Nat.reduceAdd, Nat.reduceMul, Nat.reduceSub, Nat.reduceLT, Nat.reduceLeDiff, reduceCtorEq, Nat.reduceMod, Int.reduceEq, Int.reduceLT, Int.reduceLE, Int.reduceToNat, dite_true, h0, h', k0, e4]
    refine VC.go 100 ?_
    simp only [push_cast, ↓reduceIte, Nat.reduceEqDiff, Nat.reduceAdd, Nat.reduceMul, Nat.reduceSub, Nat.reduceLT, Nat.reduceLeDiff, reduceCtorEq, Nat.reduceMod, Int.reduceEq, Int.reduceLT, Int.reduceLE, Int.reduceToNat, dite_true, h0, h', k2]
    exact RetOk.p rfl (by rw [← e5]; rfl)
end Go.Proofs.YtoepmdbicdoieaaDoor.Z
