/- The document's check of codes, on codes that are right: places, constructors, closures. -/
import Derived.Test.YtoepmdbicdoieaaDoorN7
namespace Go.Proofs.YtoepmdbicdoieaaDoor.Z
open Go Go.Eng Go.RowKit Go.Proofs Go.Proofs.YtoepmdbicdoieaaDoor.T Go.Proofs.YtoepmdbicdoieaaDoor.V Go.Proofs.YtoepmdbicdoieaaDoor.K Go.Proofs.YtoepmdbicdoieaaDoor.U Go.Proofs.YtoepmdbicdoieaaDoor.N
open Go.Proofs.YtoepmdbicdoieaaDoor.W (i64v ptr Ints RowE RMk RIns RInf RArm RNum RFrm src_one each_snoc Fits CompQ RCode nil_code nil_ints sle_one)
set_option linter.unusedSimpArgs false
set_option linter.unusedVariables false
set_option maxRecDepth 100000
set_option maxHeartbeats 4000000
theorem code_mono {F G : PH} (hl : F.le G) {c : Cd} {v1 v2 v3 v4 : Value} (h : RCode F c v1 v2 v3 v4) : RCode G c v1 v2 v3 v4 :=
  ⟨h.cons.mono hl fun _ _ _ h => h, h.globals.mono hl fun _ _ _ h => h, h.infos.mono hl fun _ _ _ h => h, h.ins.mono hl fun _ _ _ h => h.mono hl⟩
theorem outside (F : PH) (c : Cd) (v1 v2 v3 v4 : Value) (hc : RCode F c v1 v2 v3 v4) (loc : Int) (vl : Value) (l : List Int) (hl : Ints F vl l) (h : ∀ y ∈ l, Ins1 c.globals.length loc y) :
    PFn Tryd.prog 59 [.agg #[v1, v2, v3, v4], i64v loc, vl] F (fun v _ => v = .bool false) := by
  obtain ⟨p1, q1, rfl, l1, m1⟩ := hc.cons.val
  obtain ⟨p2, q2, rfl, l2, m2⟩ := hc.globals.val
  obtain ⟨p3, q3, rfl, l3, m3⟩ := hc.infos.val
  obtain ⟨p4, q4, rfl, l4, m4⟩ := hc.ins.val
  obtain ⟨pl, cl, rfl, hl1, hl2, hl3⟩ := hl
  refine Fn.intro (n := 38) (ts := [6]) Tryd.func59 rfl rfl rfl rfl (by simp) fun B hB => VC.go 100 ?_
  simp only [push_cast, ↓reduceIte, Nat.reduceEqDiff, Nat.reduceAdd, Nat.reduceMul, Nat.reduceSub, Nat.reduceLT, Nat.reduceLeDiff, reduceCtorEq, Nat.reduceMod, Int.reduceEq, Int.reduceLT, Int.reduceLE, Int.reduceToNat, dite_true]
  intro b2
  refine VC.loopW (ι := Nat) (fun i => [(7, .v (i64v i)), (1, .v (i64v loc)), (2, .v (.slice pl l.length cl)), (3, .o 0 b2 0)]) (fun _ => [⟨0, b2, 31, [.slice p1 c.cons.length q1, .slice p2 c.globals.length q2, .slice p3 c.infos.length q3, .slice p4 c.ins.length q4]⟩]) (fun _ => F) (fun _ => []) (fun i => i ≤ l.length) (fun i => l.length - i) 0 (Nat.zero_le _) (by simp [subk, Eng.look]) (List.Sublist.refl _) rfl (subR_refl _) ?_
  intro i hi G hG
  refine VC.go 100 ?_
  by_cases h1 : i < l.length
  case neg =>
    have h' : ¬ (i : Int) < (l.length : Int) := by omega
    simp only [push_cast, ↓reduceIte, Nat.reduceEqDiff, Nat.reduceAdd, Nat.reduceMul, Nat.reduceSub, Nat.reduceLT, Nat.reduceLeDiff, reduceCtorEq, Nat.reduceMod, Int.reduceEq, Int.reduceLT, Int.reduceLE, Int.reduceToNat, dite_true, h']
    exact RetOk.p rfl rfl
  have h' : (i : Int) < (l.length : Int) := by omega
  have h0 : (0 : Int) ≤ (i : Int) := by omega
  obtain ⟨qa, rfl, hqa⟩ := hl3.elem1 (i := i) (v := i64v l[i]) (by simp [h1])
  obtain ⟨g1, g2⟩ := h l[i] (List.getElem_mem h1)
  have g1' : ¬ loc ≤ l[i] := by omega
  have e2 : IntKind.i64.wrap ((i : Int) + 1) = ((i + 1 : Nat) : Int) := wadd i h1 (Nat.le_trans hl1 hl2)
  have e3 : IntKind.i64.wrap (0 - (c.globals.length : Int)) = -(c.globals.length : Int) := by
    rw [Int.zero_sub]
    refine w64 _ ?_
    unfold maxLen at m2
    omega
  simp only [push_cast, ↓reduceIte, Nat.reduceEqDiff, Nat.reduceAdd, Nat.reduceMul, Nat.reduceSub, Nat.reduceLT, Nat.reduceLeDiff, reduceCtorEq, Nat.reduceMod, Int.reduceEq, Int.reduceLT, Int.reduceLE, Int.reduceToNat, dite_true, h']
  by_cases g3 : l[i] < 0
  · have g2' : ¬ l[i] < -(c.globals.length : Int) := by omega
    refine VC.draw (.q 0 (.q 1 (.q 2 (.q 3 (.q 4 (.q 5 (.q 6 (.q 7 (.q 8 (.q 9 (.q 10 (.q 11 (.q 12 (.q 13 (.q 14 (.q 15 (.q 16 (.q 17 (.q 18 (.q 19 (.q 20 (.q 21 (.q 22 (.q 23 (.done))))))))))))))))))))))))) mixed (by rfl) ?_
    simp only [push_cast, ↓reduceIte, Nat.reduceEqDiff, Nat.reduceAdd, Nat.reduceMul, Nat.reduceSub, Nat.reduceLT, Nat.reduceLeDiff, reduceCtorEq, Nat.reduceMod, Int.reduceEq, Int.reduceLT, Int.reduceLE, Int.reduceToNat, dite_true, h', h0, hqa, g1', g2', g3, e3]
    refine VC.go 100 ?_
    simp only [push_cast, ↓reduceIte, Nat.reduceEqDiff, Nat.reduceAdd, Nat.reduceMul, Nat.reduceSub, Nat.reduceLT, Nat.reduceLeDiff, reduceCtorEq, Nat.reduceMod, Int.reduceEq, Int.reduceLT, Int.reduceLE, Int.reduceToNat, dite_true, e2]
    exact hG (i + 1) _ (by omega) (by omega) (by simp [subk, Eng.look]) (List.Sublist.refl _) rfl (subR_refl _)
  · refine VC.draw (.q 0 (.q 1 (.q 2 (.q 3 (.q 4 (.q 5 (.q 6 (.q 7 (.q 8 (.q 9 (.q 10 (.q 11 (.q 12 (.q 13 (.q 14 (.q 15 (.q 16 (.q 17 (.q 18 (.q 19 (.q 20 (.q 21 (.q 22 (.q 23 (.done))))))))))))))))))))))))) mixed (by rfl) ?_
    simp only [push_cast, ↓reduceIte, Nat.reduceEqDiff, Nat.reduceAdd, Nat.reduceMul, Nat.reduceSub, Nat.reduceLT, Nat.reduceLeDiff, reduceCtorEq, Nat.reduceMod, Int.reduceEq, Int.reduceLT, Int.reduceLE, Int.reduceToNat, dite_true, h', h0, hqa, g1', g3]
    refine VC.go 100 ?_
    simp only [push_cast, ↓reduceIte, Nat.reduceEqDiff, Nat.reduceAdd, Nat.reduceMul, Nat.reduceSub, Nat.reduceLT, Nat.reduceLeDiff, reduceCtorEq, Nat.reduceMod, Int.reduceEq, Int.reduceLT, Int.reduceLE, Int.reduceToNat, dite_true, e2]
    exact hG (i + 1) _ (by omega) (by omega) (by simp [subk, Eng.look]) (List.Sublist.refl _) rfl (subR_refl _)
theorem there (F : PH) (c : Cd) (v1 v2 v3 v4 : Value) (hc : RCode F c v1 v2 v3 v4) (m : Nat) (hm : m < c.ins.length) :
    PFn Tryd.prog 60 [.agg #[v1, v2, v3, v4], i64v m] F (fun v _ => v = .bool true) := by
  obtain ⟨p1, q1, rfl, l1, m1⟩ := hc.cons.val
  obtain ⟨p2, q2, rfl, l2, m2⟩ := hc.globals.val
  obtain ⟨p3, q3, rfl, l3, m3⟩ := hc.infos.val
  obtain ⟨p4, q4, rfl, l4, m4⟩ := hc.ins.val
  have h1 : (0 : Int) ≤ (m : Int) := by omega
  have h2 : (m : Int) < (c.ins.length : Int) := by omega
  refine Fn.intro (n := 14) (ts := [4]) Tryd.func60 rfl rfl rfl rfl (by simp) fun B hB => VC.go 100 ?_
  simp only [push_cast, ↓reduceIte, Nat.reduceEqDiff, Nat.reduceAdd, Nat.reduceMul, Nat.reduceSub, Nat.reduceLT, Nat.reduceLeDiff, reduceCtorEq, Nat.reduceMod, Int.reduceEq, Int.reduceLT, Int.reduceLE, Int.reduceToNat, dite_true, h1, h2]
  intro b2
  exact RetOk.p rfl rfl
theorem con (F : PH) (c : Cd) (v1 v2 v3 v4 : Value) (hc : RCode F c v1 v2 v3 v4) (m : Nat) (hm : m < c.cons.length) :
    PFn Tryd.prog 102 [.agg #[v1, v2, v3, v4], i64v m] F (fun v _ => v = .bool true) := by
  obtain ⟨p1, q1, rfl, l1, m1⟩ := hc.cons.val
  obtain ⟨p2, q2, rfl, l2, m2⟩ := hc.globals.val
  obtain ⟨p3, q3, rfl, l3, m3⟩ := hc.infos.val
  obtain ⟨p4, q4, rfl, l4, m4⟩ := hc.ins.val
  have h1 : (0 : Int) ≤ (m : Int) := by omega
  have h2 : (m : Int) < (c.cons.length : Int) := by omega
  refine Fn.intro (n := 14) (ts := [4]) Tryd.func102 rfl rfl rfl rfl (by simp) fun B hB => VC.go 100 ?_
  simp only [push_cast, ↓reduceIte, Nat.reduceEqDiff, Nat.reduceAdd, Nat.reduceMul, Nat.reduceSub, Nat.reduceLT, Nat.reduceLeDiff, reduceCtorEq, Nat.reduceMod, Int.reduceEq, Int.reduceLT, Int.reduceLE, Int.reduceToNat, dite_true, h1, h2]
  intro b2
  exact RetOk.p rfl rfl
theorem closure (F : PH) (k : Int) (h : k = 1 ∨ k = 2 ∨ k = 3 ∨ k = 6 ∨ k = 7) : PFn Tryd.prog 57 [i64v k] F (fun v _ => v = .bool true) := by
  refine Fn.intro (n := 21) (ts := [2]) Tryd.func57 rfl rfl rfl rfl (by simp) fun B hB => VC.go 100 ?_
  rcases h with rfl | rfl | rfl | rfl | rfl
  all_goals simp only [push_cast, ↓reduceIte, Nat.reduceEqDiff, Nat.reduceAdd, Nat.reduceMul, Nat.reduceSub, Nat.reduceLT, Nat.reduceLeDiff, reduceCtorEq, Nat.reduceMod, Int.reduceEq, Int.reduceLT, Int.reduceLE, Int.reduceToNat, dite_true]
  all_goals exact RetOk.p rfl rfl
end Go.Proofs.YtoepmdbicdoieaaDoor.Z
