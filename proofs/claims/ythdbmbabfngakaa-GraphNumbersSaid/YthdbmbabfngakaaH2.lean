/- Graphs: words by definition; equal slices. -/
import Derived.Test.YthdbmbabfngakaaH1
namespace Go.Proofs.Ythdbmbabfngakaa.G
open Go Go.Eng Go.Proofs Go.Proofs.Ythdbmbabfngakaa.T Go.Proofs.Ythdbmbabfngakaa.K
set_option linter.unusedSimpArgs false
set_option linter.unusedVariables false
set_option maxRecDepth 100000
set_option maxHeartbeats 4000000
theorem wordsR (F : PH) (vr vg : Value) (l : List Nd) (hone : vr.oneCell' = true) (hg : Nodes F vg l) : PFn Try.prog 17 [.agg #[vr, vg]] F (fun v _ => v = .int .i64 (words l)) := by
  have hg' := hg
  obtain ⟨p, c, rfl, hl1, hl2⟩ := hg.val
  refine Fn.intro (n := 31) (ts := [2]) Try.func17 rfl rfl rfl rfl (by simp) fun B hB => VC.go 100 ?_
  simp only [push_cast, ↓reduceIte, Nat.reduceEqDiff, Nat.reduceAdd, Nat.reduceMul, Nat.reduceSub, Nat.reduceLT, Nat.reduceLeDiff, reduceCtorEq, Nat.reduceMod, Int.reduceEq, Int.reduceLT, Int.reduceLE, Int.reduceToNat, dite_true, hone]
  intro b1
  refine VC.loopM (ι := Nat) (fun i : Nat => [(4, .v (.int .i64 i)), (3, .v (.int .i64 ((l.take i).foldl wordN 0))), (1, .o 0 b1 0)]) (fun _ => [⟨0, b1, 25, [vr, .slice p l.length c]⟩]) (fun _ => F) (fun i => i ≤ l.length) (fun i => l.length - i) 0 (Nat.zero_le _) (by simp [subk, Eng.look]) (List.Sublist.refl _) rfl ?_
  intro i hi G hG
  refine VC.go 100 ?_
  by_cases h : i < l.length
  case neg =>
    have h' : ¬ (i : Int) < (l.length : Int) := by omega
    rw [List.take_of_length_le (by omega)]
    simp only [push_cast, ↓reduceIte, Nat.reduceEqDiff, Nat.reduceAdd, Nat.reduceMul, Nat.reduceSub, Nat.reduceLT, Nat.reduceLeDiff, reduceCtorEq, Nat.reduceMod, Int.reduceEq, Int.reduceLT, Int.reduceLE, Int.reduceToNat, dite_true, h', hone]
    exact RetOk.p rfl rfl
  have h' : (i : Int) < (l.length : Int) := by omega
  have h0 : (0 : Int) ≤ (i : Int) := by omega
  have e2 : IntKind.i64.wrap ((i : Int) + 1) = ((i + 1 : Nat) : Int) := wadd i h (Nat.le_trans hl1 hl2)
  obtain ⟨q, _, cs, eq, _, _, kl, kr⟩ := hg'.elem (by decide) (i := i) (a := l[i]) (List.getElem?_eq_getElem h) RNd.len
  cases eq
  obtain ⟨vn, vk, rfl, ⟨pn, cn, rfl, _⟩, ⟨pk, ck, rfl, _⟩⟩ := kr
  have k2 := cell_at kl (o := 2) rfl
  have k3 := cell_at kl (o := 3) rfl
  have ht : (l.take (i + 1)).foldl wordN 0 = IntKind.i64.wrap (IntKind.i64.wrap (IntKind.i64.wrap ((l.take i).foldl wordN 0 + 1) + (l[i].kids.length : Int)) + (l[i].nons.length : Int)) := by
    rw [List.take_succ_eq_append_getElem h, List.foldl_append]
    show wordN _ _ = _
    rw [wrap_l, Int.add_assoc (IntKind.i64.wrap _), wrap_l]
    unfold wordN
    rw [Int.add_assoc 1, Int.add_assoc _ 1]
  simp only [push_cast, ↓reduceIte, Nat.reduceEqDiff, Nat.reduceAdd, Nat.reduceMul, Nat.reduceSub, Nat.reduceLT, Nat.reduceLeDiff, reduceCtorEq, Nat.reduceMod, Int.reduceEq, Int.reduceLT, Int.reduceLE, Int.reduceToNat, dite_true, h', hone]
  refine VC.draw (.q 0 (.q 1 (.q 2 (.q 3 (.q 4 (.q 5 (.q 6 (.q 7 (.q 8 (.q 9 (.q 10 (.q 11 (.q 12 (.q 13 (.q 14 (.q 15 (.q 16 (.q 17 (.e 18 (.done)))))))))))))))))))) mixed (by rfl) ?_
  simp only [push_cast, ↓reduceIte, Nat.reduceEqDiff, Nat.reduceAdd, Nat.reduceMul, Nat.reduceSub, Nat.reduceLT, Nat.reduceLeDiff, reduceCtorEq, Nat.reduceMod, Int.reduceEq, Int.reduceLT, Int.reduceLE, Int.reduceToNat, dite_true, h', h0, k2, k3, hone]
  refine VC.go 100 ?_
  simp only [push_cast, ↓reduceIte, Nat.reduceEqDiff, Nat.reduceAdd, Nat.reduceMul, Nat.reduceSub, Nat.reduceLT, Nat.reduceLeDiff, reduceCtorEq, Nat.reduceMod, Int.reduceEq, Int.reduceLT, Int.reduceLE, Int.reduceToNat, dite_true, e2]
  exact hG (i + 1) _ h (by omega) (by simp [subk, Eng.look, ht]) (List.Sublist.refl _) rfl rfl
theorem equal (F : PH) (va vb : Value) (a b : List Int) (ha : Us F va a) (hb : Us F vb b) : PFn Try.prog 33 [va, vb] F (fun v _ => v = .bool (decide (a = b))) := by
  obtain ⟨pa, ca, rfl, ha1, ha2, ha3⟩ := ha
  obtain ⟨pb, cb, rfl, hb1, hb2, hb3⟩ := hb
  refine Fn.intro (n := 26) (ts := [4]) Try.func33 rfl rfl rfl rfl (by simp) fun B hB => VC.go 100 ?_
  by_cases hl : a.length = b.length
  case neg =>
    have hl' : ¬ (a.length : Int) = (b.length : Int) := by omega
    rw [decide_eq_false fun e => hl (by rw [e])]
    simp only [push_cast, ↓reduceIte, Nat.reduceEqDiff, Nat.reduceAdd, Nat.reduceMul, Nat.reduceSub, Nat.reduceLT, Nat.reduceLeDiff, reduceCtorEq, Nat.reduceMod, Int.reduceEq, Int.reduceLT, Int.reduceLE, Int.reduceToNat, dite_true, hl']
    exact RetOk.p rfl rfl
  have hl' : (a.length : Int) = (b.length : Int) := by omega
  simp only [push_cast, ↓reduceIte, Nat.reduceEqDiff, Nat.reduceAdd, Nat.reduceMul, Nat.reduceSub, Nat.reduceLT, Nat.reduceLeDiff, reduceCtorEq, Nat.reduceMod, Int.reduceEq, Int.reduceLT, Int.reduceLE, Int.reduceToNat, dite_true, eq_true hl']
  refine VC.loopL (fun i : Nat => [(13, .v (.int .i64 i)), (12, .v (.int .i64 a.length)), (1, .v (.slice pb b.length cb)), (0, .v (.slice pa a.length ca))]) (fun i => i ≤ a.length ∧ a.take i = b.take i) (fun i => a.length - i) 0 ⟨Nat.zero_le _, rfl⟩ (by simp [subk, Eng.look, hl]) ?_
  intro i ⟨hi, ht⟩ G hG
  refine VC.go 100 ?_
  by_cases h : i < a.length
  case neg =>
    have h' : ¬ (i : Int) < (a.length : Int) := by omega
    rw [List.take_of_length_le (by omega), List.take_of_length_le (by omega)] at ht
    rw [decide_eq_true ht]
    simp only [push_cast, ↓reduceIte, Nat.reduceEqDiff, Nat.reduceAdd, Nat.reduceMul, Nat.reduceSub, Nat.reduceLT, Nat.reduceLeDiff, reduceCtorEq, Nat.reduceMod, Int.reduceEq, Int.reduceLT, Int.reduceLE, Int.reduceToNat, dite_true, h']
    exact RetOk.p rfl rfl
  have hb : i < b.length := by omega
  have h' : (i : Int) < (a.length : Int) := by omega
  have h'' : (i : Int) < (b.length : Int) := by omega
  have h0 : (0 : Int) ≤ (i : Int) := by omega
  obtain ⟨qa, rfl, hqa⟩ := ha3.elem1 (i := i) (v := .int .u64 a[i]) (by simp [h])
  obtain ⟨qb, rfl, hqb⟩ := hb3.elem1 (i := i) (v := .int .u64 b[i]) (by simp [hb])
  have e2 : IntKind.i64.wrap ((i : Int) + 1) = ((i + 1 : Nat) : Int) := wadd i h (Nat.le_trans ha1 ha2)
  simp only [push_cast, ↓reduceIte, Nat.reduceEqDiff, Nat.reduceAdd, Nat.reduceMul, Nat.reduceSub, Nat.reduceLT, Nat.reduceLeDiff, reduceCtorEq, Nat.reduceMod, Int.reduceEq, Int.reduceLT, Int.reduceLE, Int.reduceToNat, dite_true, h']
  refine VC.draw (.q 0 (.q 1 (.q 2 (.q 3 (.q 4 (.q 5 (.q 6 (.q 7 (.q 8 (.done)))))))))) mixed (by rfl) ?_
  by_cases g : a[i] = b[i]
  · simp only [push_cast, ↓reduceIte, Nat.reduceEqDiff, Nat.reduceAdd, Nat.reduceMul, Nat.reduceSub, Nat.reduceLT, Nat.reduceLeDiff, reduceCtorEq, Nat.reduceMod, Int.reduceEq, Int.reduceLT, Int.reduceLE, Int.reduceToNat, dite_true, h', h'', h0, hqa, hqb, eq_true g]
    refine VC.go 100 ?_
    simp only [push_cast, ↓reduceIte, Nat.reduceEqDiff, Nat.reduceAdd, Nat.reduceMul, Nat.reduceSub, Nat.reduceLT, Nat.reduceLeDiff, reduceCtorEq, Nat.reduceMod, Int.reduceEq, Int.reduceLT, Int.reduceLE, Int.reduceToNat, dite_true, e2]
    exact hG (i + 1) _ ⟨h, by rw [List.take_succ_eq_append_getElem h, List.take_succ_eq_append_getElem hb, ht, g]⟩ (by omega) (by simp [subk, Eng.look]) (List.Sublist.refl _) rfl rfl
  · rw [decide_eq_false fun e => g (by subst e; rfl)]
    simp only [push_cast, ↓reduceIte, Nat.reduceEqDiff, Nat.reduceAdd, Nat.reduceMul, Nat.reduceSub, Nat.reduceLT, Nat.reduceLeDiff, reduceCtorEq, Nat.reduceMod, Int.reduceEq, Int.reduceLT, Int.reduceLE, Int.reduceToNat, dite_true, h', h'', h0, hqa, hqb, g]
    refine VC.go 100 ?_
    simp only [push_cast, ↓reduceIte, Nat.reduceEqDiff, Nat.reduceAdd, Nat.reduceMul, Nat.reduceSub, Nat.reduceLT, Nat.reduceLeDiff, reduceCtorEq, Nat.reduceMod, Int.reduceEq, Int.reduceLT, Int.reduceLE, Int.reduceToNat, dite_true]
    exact RetOk.p rfl rfl
end Go.Proofs.Ythdbmbabfngakaa.G
