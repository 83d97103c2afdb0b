/- Graphs: words by definition; equal slices. -/
import Derived.Test.YthdbmbabfngakaaH1
namespace Go.Proofs.Ythdbmbabfngakaa.G
open Go Go.Eng Go.Proofs Go.Proofs.Ythdbmbabfngakaa.T Go.Proofs.Ythdbmbabfngakaa.K
set_option linter.unusedSimpArgs false
set_option linter.unusedVariables false
set_option maxRecDepth 100000
set_option maxHeartbeats 4000000
theorem wordsR (F : PH) (vr vg : Value) (l : List Nd) (hone : vr.oneCell' = true) (hg : Nodes F vg l) : PFn Try.prog 17 [.agg #[vr, vg]] F (fun v _ => v = .int .i64 (words l)) := by
  have hg' := hg
  obtain ⟨p, c, rfl, hl1, hl2⟩ := hg.val
  refine Fn.intro (n := 31) (ts := [2]) Try.func17 rfl rfl rfl rfl (by simp) fun B hB => VC.go 100 ?_
  simp only [push_cast, ↓reduceIte, Nat.reduceEqDiff, Nat.reduceAdd, Nat.reduceMul, Nat.reduceSub, Nat.reduceLT, Nat.reduceLeDiff, reduceCtorEq, Nat.reduceMod, Int.reduceEq, Int.reduceLT, Int.reduceLE, Int.reduceToNat, dite_true, hone]
  intro b1
  refine VC.loopM (ι := Nat) (fun i : Nat => [(4, .v (.int .i64 i)), (3, .v (.int .i64 ((l.take i).foldl wordN 0))), (1, .o 0 b1 0)]) (fun _ => [⟨0, b1, 25, [vr, .slice p l.length c]⟩]) (fun _ => F) (fun i => i ≤ l.length) (fun i => l.length - i) 0 (Nat.zero_le _) (by simp [subk, Eng.look]) (List.Sublist.refl _) rfl ?_
  intro i hi G hG
  refine VC.go 100 ?_
  by_cases h : i < l.length
  case neg =>
    have h' : ¬ (i : Int) < (l.length : Int) := by omega
    rw [List.take_of_length_le (by omega)]
    simp only [push_cast, ↓reduceIte, Nat.reduceEqDiff, Nat.reduceAdd, Nat.reduceMul, Nat.reduceSub, Nat.reduceLT, Nat.reduceLeDiff, reduceCtorEq, Nat.reduceMod, Int.reduceEq, Int.reduceLT, Int.reduceLE, Int.reduceToNat, dite_true, h', hone]
    exact RetOk.p rfl rfl
  have h' : (i : Int) < (l.length : Int) := by omega
  have h0 : (0 : Int) ≤ (i : Int) := by omega
  have e2 : IntKind.i64.wrap ((i : Int) + 1) = ((i + 1 : Nat) : Int) := wadd i h (Nat.le_trans hl1 hl2)
  obtain ⟨q, _, cs, eq, _, _, kl, kr⟩ := hg'.elem (by decide) (i := i) (a := l[i]) (List.getElem?_eq_getElem h) RNd.len
  cases eq
  obtain ⟨vn, vk, rfl, ⟨pn, cn, rfl, _⟩, ⟨pk, ck, rfl, _⟩⟩ := kr
  have k2 := cell_at kl (o := 2) rfl
  have k3 := cell_at kl (o := 3) rfl
  have ht : (l.take (i + 1)).foldl wordN 0 = IntKind.i64.wrap (IntKind.i64.wrap (IntKind.i64.wrap ((l.take i).foldl wordN 0 + 1) + (l[i].kids.length : Int)) + (l[i].nons.length : Int)) := by
    rw [List.take_succ_eq_append_getElem h, List.foldl_append]
    show wordN _ _ = _
    rw [wrap_l, Int.add_assoc (IntKind.i64.wrap _), wrap_l]
    unfold wordN
    rw [Int.add_assoc 1, Int.add_assoc _ 1]
  simp only [push_cast, ↓reduceIte, Nat.reduceEqDiff, Nat.reduceAdd, Nat.reduceMul, Nat.reduceSub, Nat.reduceLT, Nat.reduceLeDiff, reduceCtorEq, Nat.reduceMod, Int.reduceEq, Int.reduceLT, Int.reduceLE, Int.reduceToNat, dite_true, h', hone]
  refine VC.draw (.q 0 (.q 1 (.q 2 (.q 3 (.q 4 (.q 5 (.q 6 (.q 7 (.q 8 (.q 9 (.q 10 (.q 11 (.q 12 (.q 13 (.q 14 (.q 15 (.q 16 (.q 17 (.e 18 (.done)))))))))))))))))))) mixed (by rfl) ?_
  simp only [push_cast, ↓reduceIte, Nat.reduceEqDiff, Nat.reduceAdd, Nat.reduceMul, Nat.reduceSub, Nat.reduceLT, Nat.reduceLeDiff, reduceCtorEq, Nat.reduceMod, Int.reduceEq, Int.reduceLT, Int.reduceLE, Int.reduceToNat, dite_true, h', h0, k2, k3, hone]
  refine VC.go 100 ?_
  simp only [push_cast, ↓reduceIte, Nat.reduceEqDiff, Nat.reduceAdd, Nat.reduceMul, Nat.reduceSub, Nat.reduceLT, Nat.reduceLeDiff, reduceCtorEq, Nat.reduceMod, Int.reduceEq, Int.reduceLT, Int.reduceLE, Int.reduceToNat, dite_true, e2]
  exact hG (i + 1) _ h (by omega) (by simp [subk, Eng.look, ht]) (List.Sublist.refl _) rfl rfl
theorem equal (F : PH) (va vb : Value) (a b : List Int) (ha : Us F va a) (hb : Us F vb b) : PFn Try.prog 33 [va, vb] F (fun v _ => v = .bool (decide (a = b))) := by
  obtain ⟨pa, ca, rfl, ha1, ha2, ha3⟩ := ha
  obtain ⟨pb, cb, rfl, hb1, hb2, hb3⟩ := hb
  refine Fn.intro (n := 26) (ts := [4]) Try.func33 rfl rfl rfl rfl (by simp) fun B hB => VC.go 100 ?_
  by_cases hl : a.length = b.length
  case neg =>
    have hl' : ¬ (a.length : Int) = (b.length : Int) := by omega
    rw [decide_eq_false fun e => hl (by rw [e])]
    simp only [push_cast, ↓reduceIte, Nat.reduceEqDiff, Nat.reduceAdd, Nat.reduceMul, Nat.reduceSub, Nat.reduceLT, Nat.reduceLeDiff, reduceCtorEq, Nat.reduceMod, Int.reduceEq, Int.reduceLT, Int.reduceLE, Int.reduceToNat, dite_true, hl']
    exact RetOk.p rfl rfl
  have hl' : (a.length : Int) = (b.length : Int) := by omega
  simp only [push_cast, ↓reduceIte, Nat.reduceEqDiff, Nat.reduceAdd, Nat.reduceMul, Nat.reduceSub, Nat.reduceLT, Nat.reduceLeDiff, reduceCtorEq, Nat.reduceMod, Int.reduceEq, Int.reduceLT, Int.reduceLE, Int.reduceToNat, dite_true, eq_true hl']
  refine VC.loopL (fun i : Nat => [(13, .v (.int .i64 i)), (12, .v (.int .i64 a.length)), (1, .v (.slice pb b.length cb)), (0, .v (.slice pa a.length ca))]) (fun i => i ≤ a.length ∧ a.take i = b.take i) (fun i => a.length - i) 0 ⟨Nat.zero_le _, rfl⟩ (by simp [subk, Eng.look, hl]) ?_
  intro i ⟨hi, ht⟩ G hG
  refine VC.go 100 ?_
  by_cases h : i < a.length
  case neg =>
    have h' : ¬ (i : Int) < (a.length : Int) := by omega
    rw [List.take_of_length_le (by omega), List.take_of_length_le (by omega)] at ht
    rw [decide_eq_true ht]
    simp only [push_cast, ↓reduceIte, Nat.reduceEqDiff, Nat.reduceAdd, Nat.reduceMul, Nat.reduceSub, Nat.reduceLT, Nat.reduceLeDiff, reduceCtorEq, Nat.reduceMod, Int.reduceEq, Int.reduceLT, Int.reduceLE, Int.reduceToNat, dite_true, h']
    exact RetOk.p rfl rfl
  have hb : i < b.length := by omega
  have h' : (i : Int) < (a.length : Int) := by omega
  have h'' : (i : Int) < (b.length : Int) := by omega
  have h0 : (0 : Int) ≤ (i : Int) := by omega
  obtain ⟨qa, rfl, hqa⟩ := ha3.elem1 (i := i) (v := .int .u64 a[i]) (by simp [h])
  obtain ⟨qb, rfl, hqb⟩ := hb3.elem1 (i := i) (v := .int .u64 b[i]) (by simp [hb])
  have e2 : IntKind.i64.wrap ((i : Int) + 1) = ((i + 1 : Nat) : Int) := wadd i h (Nat.le_trans ha1 ha2)
  simp only [push_cast, ↓reduceIte, Nat.reduceEqDiff, Nat.reduceAdd, Nat.reduceMul, Nat.reduceSub, Nat.reduceLT, Nat.reduceLeDiff, reduceCtorEq, Nat.reduceMod, Int.reduceEq, Int.reduceLT, Int.reduceLE, Int.reduceToNat, dite_true, h']
  refine VC.draw (.q 0 (.q 1 (.q 2 (.q 3 (.q 4 (.q 5 (.q 6 (.q 7 (.q 8 (.done)))))))))) mixed (by rfl) ?_
  by_cases g : a[i] = b[i]
  · simp only [push_cast, ↓reduceIte, Nat.reduceEqDiff, Nat.reduceAdd, Nat.reduceMul, Nat.reduceSub, Nat.reduceLT, Nat.reduceLeDiff, reduceCtorEq, Nat.reduceMod, Int.reduceEq, Int.reduceLT, Int.reduceLE, Int.reduceToNat, dite_true, h', h'', h0, hqa, hqb, eq_true g]
    refine VC.go 100 ?_
    simp only [push_cast, ↓reduceIte, Nat.reduceEqDiff, Nat.reduceAdd, Nat.reduceMul, Nat.reduceSub, Nat.reduceLT, Nat.reduceLeDiff, reduceCtorEq, Nat.reduceMod, Int.reduceEq, Int.reduceLT, Int.reduceLE, Int.reduceToNat, dite_true, e2]
    exact hG (i + 1) _ ⟨h, by rw [List.take_succ_eq_append_getElem h, List.take_succ_eq_append_getElem hb, ht, g]⟩ (by omega) (by simp [subk, Eng.look]) (List.Sublist.refl _) rfl rfl
  · rw [decide_eq_false fun e => g (by subst e; rfl)]
    simp only [push_cast, ↓reduceIte, Nat.reduceEqDiff, Nat.reduceAdd, Nat.reduceMul, Nat.reduceSub, Nat.reduceLT, Nat.reduceLeDiff, reduceCtorEq, Nat.reduceMod, Int.reduceEq, Int.reduceLT, Int.reduceLE, Int.reduceToNat, dite_true, h', h'', h0, hqa, hqb, g]
    refine VC.go 100 ?_
    simp only [push_cast, ↓reduceIte, Nat.reduceEqDiff, Nat.reduceAdd, Nat.reduceMul, Nat.reduceSub, Nat.reduceLT, Nat.reduceLeDiff, reduceCtorEq, Nat.reduceMod, Int.reduceEq, Int.reduceLT, Int.reduceLE, Int.reduceToNat, dite_true]
    exact RetOk.p rfl rfl
end Go.Proofs.Ythdbmbabfngakaa.G
/- Graphs: the same numbers, by definition. -/
namespace Go.Proofs.Ythdbmbabfngakaa.G
open Go Go.Eng Go.Proofs Go.Proofs.Ythdbmbabfngakaa.T Go.Proofs.Ythdbmbabfngakaa.K
set_option linter.unusedSimpArgs false
set_option linter.unusedVariables false
set_option maxRecDepth 100000
set_option maxHeartbeats 4000000
/-- The same numbers, of graphs of so many nodes. -/
def sameN (na nb : Nat) (x y : List Int) : Bool := decide (x.map (real na) = y.map (real nb))
theorem sameN_len {na nb : Nat} {x y : List Int} (h : x.length ≠ y.length) : sameN na nb x y = false := decide_eq_false fun e => h (by simpa using congrArg List.length e)
theorem sameR (F : PH) (ar av br bv vx vy : Value) (ma mb : List Nd) (x y : List Int) (h1 : ar.oneCell' = true) (h2 : br.oneCell' = true) (ha : Nodes F av ma) (hb : Nodes F bv mb) (hx : Ints F vx x) (hy : Ints F vy y) :
    PFn Try.prog 20 [.agg #[ar, av], .agg #[br, bv], vx, vy] F (fun v _ => v = .bool (sameN ma.length mb.length x y)) := by
  have ha' := ha
  have hb' := hb
  obtain ⟨pa, ca, rfl, _, _⟩ := ha.val
  obtain ⟨pb, cb, rfl, _, _⟩ := hb.val
  have hx' : Ints F vx x := hx
  have hy' : Ints F vy y := hy
  obtain ⟨px, cx, rfl, hx1, hx2, hx3⟩ := hx
  obtain ⟨py, cy, rfl, hy1, hy2, hy3⟩ := hy
  refine Fn.intro (n := 34) (ts := [8]) Try.func20 rfl rfl rfl rfl (by simp) fun B hB => VC.go 100 ?_
  by_cases hl : x.length = y.length
  case neg =>
    have hl' : ¬ (x.length : Int) = (y.length : Int) := by omega
    rw [sameN_len hl]
    simp only [push_cast, ↓reduceIte, Nat.reduceEqDiff, Nat.reduceAdd, Nat.reduceMul, Nat.reduceSub, Nat.reduceLT, Nat.reduceLeDiff, reduceCtorEq, Nat.reduceMod, Int.reduceEq, Int.reduceLT, Int.reduceLE, Int.reduceToNat, dite_true, hl', h1, h2]
    intro b4 b5
    exact RetOk.p rfl rfl
  have hl' : (x.length : Int) = (y.length : Int) := by omega
  simp only [push_cast, ↓reduceIte, Nat.reduceEqDiff, Nat.reduceAdd, Nat.reduceMul, Nat.reduceSub, Nat.reduceLT, Nat.reduceLeDiff, reduceCtorEq, Nat.reduceMod, Int.reduceEq, Int.reduceLT, Int.reduceLE, Int.reduceToNat, dite_true, eq_true hl', h1, h2]
  intro b4 b5
  refine VC.loopM (ι := Nat × PH) (fun i => [(9, .v (.int .i64 i.1)), (5, .o 1 b5 0), (4, .o 0 b4 0), (3, .v (.slice py y.length cy)), (2, .v (.slice px x.length cx))]) (fun _ => [⟨0, b4, 25, [ar, .slice pa ma.length ca]⟩, ⟨1, b5, 25, [br, .slice pb mb.length cb]⟩]) (fun i => i.2) (fun i => i.1 ≤ x.length ∧ F.le i.2 ∧ (x.take i.1).map (real ma.length) = (y.take i.1).map (real mb.length)) (fun i => x.length - i.1) (0, F) ⟨Nat.zero_le _, PH.le_refl _, rfl⟩ (by simp [subk, Eng.look]) (List.Sublist.refl _) rfl ?_
  rintro ⟨i, F1⟩ ⟨hi, hF1, ht⟩ G hG
  dsimp only at hi hF1 ht hG ⊢
  refine VC.go 100 ?_
  by_cases h : i < x.length
  case neg =>
    have h' : ¬ (i : Int) < (x.length : Int) := by omega
    rw [List.take_of_length_le (by omega), List.take_of_length_le (by omega)] at ht
    rw [sameN, decide_eq_true ht]
    simp only [push_cast, ↓reduceIte, Nat.reduceEqDiff, Nat.reduceAdd, Nat.reduceMul, Nat.reduceSub, Nat.reduceLT, Nat.reduceLeDiff, reduceCtorEq, Nat.reduceMod, Int.reduceEq, Int.reduceLT, Int.reduceLE, Int.reduceToNat, dite_true, h', h1, h2]
    exact RetOk.p rfl rfl
  have hj : i < y.length := by omega
  have h' : (i : Int) < (x.length : Int) := by omega
  have h'' : (i : Int) < (y.length : Int) := by omega
  have h0 : (0 : Int) ≤ (i : Int) := by omega
  obtain ⟨qx, rfl, hqx⟩ := (hx3.mono hF1).elem1 (i := i) (v := .int .i64 x[i]) (by simp [h])
  obtain ⟨qy, rfl, hqy⟩ := (hy3.mono hF1).elem1 (i := i) (v := .int .i64 y[i]) (by simp [hj])
  have e2 : IntKind.i64.wrap ((i : Int) + 1) = ((i + 1 : Nat) : Int) := wadd i h (Nat.le_trans hx1 hx2)
  simp only [push_cast, ↓reduceIte, Nat.reduceEqDiff, Nat.reduceAdd, Nat.reduceMul, Nat.reduceSub, Nat.reduceLT, Nat.reduceLeDiff, reduceCtorEq, Nat.reduceMod, Int.reduceEq, Int.reduceLT, Int.reduceLE, Int.reduceToNat, dite_true, h', h1, h2]
  refine VC.draw (.q 0 (.q 1 (.q 2 (.q 3 (.q 4 (.q 6 (.q 7 (.q 8 (.q 9 (.q 10 (.e 5 (.e 11 (.q 12 (.done)))))))))))))) mixed (by rfl) ?_
  simp only [push_cast, ↓reduceIte, Nat.reduceEqDiff, Nat.reduceAdd, Nat.reduceMul, Nat.reduceSub, Nat.reduceLT, Nat.reduceLeDiff, reduceCtorEq, Nat.reduceMod, Int.reduceEq, Int.reduceLT, Int.reduceLE, Int.reduceToNat, dite_true, h', h'', h0, hqx, hqy, h1, h2]
  refine CallV.pure (realR F1 ar _ ma x[i] h1 (ha'.mono hF1)) ?_
  rintro _ F2 hF2 rfl
  simp only [push_cast, ↓reduceIte, Nat.reduceEqDiff, Nat.reduceAdd, Nat.reduceMul, Nat.reduceSub, Nat.reduceLT, Nat.reduceLeDiff, reduceCtorEq, Nat.reduceMod, Int.reduceEq, Int.reduceLT, Int.reduceLE, Int.reduceToNat, dite_true, h', h'', h0, hqx, hqy, h1, h2]
  refine CallV.pure (realR F2 br _ mb y[i] h2 (hb'.mono (PH.le_trans hF1 hF2))) ?_
  rintro _ F3 hF3 rfl
  by_cases g : real ma.length x[i] = real mb.length y[i]
  · simp only [push_cast, ↓reduceIte, Nat.reduceEqDiff, Nat.reduceAdd, Nat.reduceMul, Nat.reduceSub, Nat.reduceLT, Nat.reduceLeDiff, reduceCtorEq, Nat.reduceMod, Int.reduceEq, Int.reduceLT, Int.reduceLE, Int.reduceToNat, dite_true, eq_true g]
    refine VC.go 100 ?_
    simp only [push_cast, ↓reduceIte, Nat.reduceEqDiff, Nat.reduceAdd, Nat.reduceMul, Nat.reduceSub, Nat.reduceLT, Nat.reduceLeDiff, reduceCtorEq, Nat.reduceMod, Int.reduceEq, Int.reduceLT, Int.reduceLE, Int.reduceToNat, dite_true, e2]
    exact hG (i + 1, F3) _ ⟨h, PH.le_trans hF1 (PH.le_trans hF2 hF3), by dsimp only; rw [List.take_succ_eq_append_getElem h, List.take_succ_eq_append_getElem hj, List.map_append, List.map_append, ht]; simp [g]⟩ (by simp; omega) (by simp [subk, Eng.look]) (List.Sublist.refl _) rfl rfl
  · rw [sameN, decide_eq_false fun e => g (by
      have := congrArg (fun l : List Int => l[i]?) e
      simpa [h, hj] using this)]
    simp only [push_cast, ↓reduceIte, Nat.reduceEqDiff, Nat.reduceAdd, Nat.reduceMul, Nat.reduceSub, Nat.reduceLT, Nat.reduceLeDiff, reduceCtorEq, Nat.reduceMod, Int.reduceEq, Int.reduceLT, Int.reduceLE, Int.reduceToNat, dite_true, g]
    refine VC.go 100 ?_
    simp only [push_cast, ↓reduceIte, Nat.reduceEqDiff, Nat.reduceAdd, Nat.reduceMul, Nat.reduceSub, Nat.reduceLT, Nat.reduceLeDiff, reduceCtorEq, Nat.reduceMod, Int.reduceEq, Int.reduceLT, Int.reduceLE, Int.reduceToNat, dite_true]
    exact RetOk.p rfl rfl
end Go.Proofs.Ythdbmbabfngakaa.G
