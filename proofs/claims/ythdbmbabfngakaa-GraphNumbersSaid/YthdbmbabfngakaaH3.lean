/- Graphs: the same numbers, by definition. -/
import Derived.Test.YthdbmbabfngakaaH2
namespace Go.Proofs.Ythdbmbabfngakaa.G
open Go Go.Eng Go.Proofs Go.Proofs.Ythdbmbabfngakaa.T Go.Proofs.Ythdbmbabfngakaa.K
set_option linter.unusedSimpArgs false
set_option linter.unusedVariables false
set_option maxRecDepth 100000
set_option maxHeartbeats 4000000
/-- The same numbers, of graphs of so many nodes. -/
def sameN (na nb : Nat) (x y : List Int) : Bool := decide (x.map (real na) = y.map (real nb))
theorem sameN_len {na nb : Nat} {x y : List Int} (h : x.length ≠ y.length) : sameN na nb x y = false := decide_eq_false fun e => h (by simpa using congrArg List.length e)
theorem sameR (F : PH) (ar av br bv vx vy : Value) (ma mb : List Nd) (x y : List Int) (h1 : ar.oneCell' = true) (h2 : br.oneCell' = true) (ha : Nodes F av ma) (hb : Nodes F bv mb) (hx : Ints F vx x) (hy : Ints F vy y) :
    PFn Try.prog 20 [.agg #[ar, av], .agg #[br, bv], vx, vy] F (fun v _ => v = .bool (sameN ma.length mb.length x y)) := by
  have ha' := ha
  have hb' := hb
  obtain ⟨pa, ca, rfl, _, _⟩ := ha.val
  obtain ⟨pb, cb, rfl, _, _⟩ := hb.val
  have hx' : Ints F vx x := hx
  have hy' : Ints F vy y := hy
  obtain ⟨px, cx, rfl, hx1, hx2, hx3⟩ := hx
  obtain ⟨py, cy, rfl, hy1, hy2, hy3⟩ := hy
  refine Fn.intro (n := 34) (ts := [8]) Try.func20 rfl rfl rfl rfl (by simp) fun B hB => VC.go 100 ?_
  by_cases hl : x.length = y.length
  case neg =>
    have hl' : ¬ (x.length : Int) = (y.length : Int) := by omega
    rw [sameN_len hl]
    simp only [push_cast, ↓reduceIte, Nat.reduceEqDiff, Nat.reduceAdd, Nat.reduceMul, Nat.reduceSub, Nat.reduceLT, Nat.reduceLeDiff, reduceCtorEq, Nat.reduceMod, Int.reduceEq, Int.reduceLT, Int.reduceLE, Int.reduceToNat, dite_true, hl', h1, h2]
    intro b4 b5
    exact RetOk.p rfl rfl
  have hl' : (x.length : Int) = (y.length : Int) := by omega
  simp only [push_cast, ↓reduceIte, Nat.reduceEqDiff, Nat.reduceAdd, Nat.reduceMul, Nat.reduceSub, Nat.reduceLT, Nat.reduceLeDiff, reduceCtorEq, Nat.reduceMod, Int.reduceEq, Int.reduceLT, Int.reduceLE, Int.reduceToNat, dite_true, eq_true hl', h1, h2]
  intro b4 b5
  refine VC.loopM (ι := Nat × PH) (fun i => [(9, .v (.int .i64 i.1)), (5, .o 1 b5 0), (4, .o 0 b4 0), (3, .v (.slice py y.length cy)), (2, .v (.slice px x.length cx))]) (fun _ => [⟨0, b4, 25, [ar, .slice pa ma.length ca]⟩, ⟨1, b5, 25, [br, .slice pb mb.length cb]⟩]) (fun i => i.2) (fun i => i.1 ≤ x.length ∧ F.le i.2 ∧ (x.take i.1).map (real ma.length) = (y.take i.1).map (real mb.length)) (fun i => x.length - i.1) (0, F) ⟨Nat.zero_le _, PH.le_refl _, rfl⟩ (by simp [subk, Eng.look]) (List.Sublist.refl _) rfl ?_
  rintro ⟨i, F1⟩ ⟨hi, hF1, ht⟩ G hG
  dsimp only at hi hF1 ht hG ⊢
  refine VC.go 100 ?_
  by_cases h : i < x.length
  case neg =>
    have h' : ¬ (i : Int) < (x.length : Int) := by omega
    rw [List.take_of_length_le (by omega), List.take_of_length_le (by omega)] at ht
    rw [sameN, decide_eq_true ht]
    simp only [push_cast, ↓reduceIte, Nat.reduceEqDiff, Nat.reduceAdd, Nat.reduceMul, Nat.reduceSub, Nat.reduceLT, Nat.reduceLeDiff, reduceCtorEq, Nat.reduceMod, Int.reduceEq, Int.reduceLT, Int.reduceLE, Int.reduceToNat, dite_true, h', h1, h2]
    exact RetOk.p rfl rfl
  have hj : i < y.length := by omega
  have h' : (i : Int) < (x.length : Int) := by omega
  have h'' : (i : Int) < (y.length : Int) := by omega
  have h0 : (0 : Int) ≤ (i : Int) := by omega
  obtain ⟨qx, rfl, hqx⟩ := (hx3.mono hF1).elem1 (i := i) (v := .int .i64 x[i]) (by simp [h])
  obtain ⟨qy, rfl, hqy⟩ := (hy3.mono hF1).elem1 (i := i) (v := .int .i64 y[i]) (by simp [hj])
  have e2 : IntKind.i64.wrap ((i : Int) + 1) = ((i + 1 : Nat) : Int) := wadd i h (Nat.le_trans hx1 hx2)
  simp only [push_cast, ↓reduceIte, Nat.reduceEqDiff, Nat.reduceAdd, Nat.reduceMul, Nat.reduceSub, Nat.reduceLT, Nat.reduceLeDiff, reduceCtorEq, Nat.reduceMod, Int.reduceEq, Int.reduceLT, Int.reduceLE, Int.reduceToNat, dite_true, h', h1, h2]
  refine VC.draw (.q 0 (.q 1 (.q 2 (.q 3 (.q 4 (.q 6 (.q 7 (.q 8 (.q 9 (.q 10 (.e 5 (.e 11 (.q 12 (.done)))))))))))))) mixed (by rfl) ?_
  simp only [push_cast, ↓reduceIte, Nat.reduceEqDiff, Nat.reduceAdd, Nat.reduceMul, Nat.reduceSub, Nat.reduceLT, Nat.reduceLeDiff, reduceCtorEq, Nat.reduceMod, Int.reduceEq, Int.reduceLT, Int.reduceLE, Int.reduceToNat, dite_true, h', h'', h0, hqx, hqy, h1, h2]
  refine CallV.pure (realR F1 ar _ ma x[i] h1 (ha'.mono hF1)) ?_
  rintro _ F2 hF2 rfl
  simp only [push_cast, ↓reduceIte, Nat.reduceEqDiff, Nat.reduceAdd, Nat.reduceMul, Nat.reduceSub, Nat.reduceLT, Nat.reduceLeDiff, reduceCtorEq, Nat.reduceMod, Int.reduceEq, Int.reduceLT, Int.reduceLE, Int.reduceToNat, dite_true, h', h'', h0, hqx, hqy, h1, h2]
  refine CallV.pure (realR F2 br _ mb y[i] h2 (hb'.mono (PH.le_trans hF1 hF2))) ?_
  rintro _ F3 hF3 rfl
  by_cases g : real ma.length x[i] = real mb.length y[i]
  · simp only [push_cast, ↓reduceIte, Nat.reduceEqDiff, Nat.reduceAdd, Nat.reduceMul, Nat.reduceSub, Nat.reduceLT, Nat.reduceLeDiff, reduceCtorEq, Nat.reduceMod, Int.reduceEq, Int.reduceLT, Int.reduceLE, Int.reduceToNat, dite_true, eq_true g]
    refine VC.go 100 ?_
    simp only [push_cast, ↓reduceIte, Nat.reduceEqDiff, Nat.reduceAdd, Nat.reduceMul, Nat.reduceSub, Nat.reduceLT, Nat.reduceLeDiff, reduceCtorEq, Nat.reduceMod, Int.reduceEq, Int.reduceLT, Int.reduceLE, Int.reduceToNat, dite_true, e2]
    exact hG (i + 1, F3) _ ⟨h, PH.le_trans hF1 (PH.le_trans hF2 hF3), by dsimp only; rw [List.take_succ_eq_append_getElem h, List.take_succ_eq_append_getElem hj, List.map_append, List.map_append, ht]; simp [g]⟩ (by simp; omega) (by simp [subk, Eng.look]) (List.Sublist.refl _) rfl rfl
  · rw [sameN, decide_eq_false fun e => g (by
      have := congrArg (fun l : List Int => l[i]?) e
      simpa [h, hj] using this)]
    simp only [push_cast, ↓reduceIte, Nat.reduceEqDiff, Nat.reduceAdd, Nat.reduceMul, Nat.reduceSub, Nat.reduceLT, Nat.reduceLeDiff, reduceCtorEq, Nat.reduceMod, Int.reduceEq, Int.reduceLT, Int.reduceLE, Int.reduceToNat, dite_true, g]
    refine VC.go 100 ?_
    simp only [push_cast, ↓reduceIte, Nat.reduceEqDiff, Nat.reduceAdd, Nat.reduceMul, Nat.reduceSub, Nat.reduceLT, Nat.reduceLeDiff, reduceCtorEq, Nat.reduceMod, Int.reduceEq, Int.reduceLT, Int.reduceLE, Int.reduceToNat, dite_true]
    exact RetOk.p rfl rfl
end Go.Proofs.Ythdbmbabfngakaa.G
