/- Lists of names: the same, and one of them. -/
import Derived.Test.YtlgfajdedmajcaaV3
namespace Go.Proofs.Ytlgfajdedmajcaa.V
open Go Go.Eng Go.Proofs Go.Proofs.Ytlgfajdedmajcaa.T
set_option linter.unusedSimpArgs false
set_option linter.unusedVariables false
set_option maxRecDepth 100000
theorem same (F : PH) (av bv : Value) (a b : List ByteArray) (ha : Strs F av a) (hb : Strs F bv b) : PFn Try.prog 22 [av, bv] F (fun v _ => v = .bool (decide (a = b))) := by
  obtain ⟨pa, ca, rfl, ha1, ha2, ha3⟩ := ha
  obtain ⟨pb, cb, rfl, hb1, hb2, hb3⟩ := hb
  refine Fn.intro (n := 26) (ts := [4]) Try.func22 rfl rfl rfl rfl (by simp) fun B hB => VC.go 100 ?_
  by_cases g1 : (a.length : Int) = (b.length : Int)
  case neg =>
    simp only [push_cast, ↓reduceIte, Nat.reduceEqDiff, Nat.reduceAdd, Nat.reduceMul, Nat.reduceSub, Nat.reduceLT, Nat.reduceLeDiff, reduceCtorEq, Nat.reduceMod, Int.reduceEq, Int.reduceLT, Int.reduceLE, Int.reduceToNat, dite_true, g1]
    exact RetOk.p rfl (by
      have : ¬ a = b := fun e => g1 (by rw [e])
      simp [this, rval])
  simp only [push_cast, ↓reduceIte, Nat.reduceEqDiff, Nat.reduceAdd, Nat.reduceMul, Nat.reduceSub, Nat.reduceLT, Nat.reduceLeDiff, reduceCtorEq, Nat.reduceMod, Int.reduceEq, Int.reduceLT, Int.reduceLE, Int.reduceToNat, dite_true, g1]
  refine VC.loopL (fun i : Nat => [(5, .v (.int .i64 i)), (0, .v (.slice pa a.length ca)), (1, .v (.slice pb b.length cb))]) (fun i => i ≤ a.length ∧ a.take i = b.take i) (fun i => a.length - i) 0 ⟨Nat.zero_le _, rfl⟩ (by simp [subk, Eng.look]) ?_
  intro i ⟨hi, ht⟩ G hG
  refine VC.go 100 ?_
  by_cases h : i < a.length
  case neg =>
    have h' : ¬ (i : Int) < (a.length : Int) := by omega
    simp only [push_cast, ↓reduceIte, Nat.reduceEqDiff, Nat.reduceAdd, Nat.reduceMul, Nat.reduceSub, Nat.reduceLT, Nat.reduceLeDiff, reduceCtorEq, Nat.reduceMod, Int.reduceEq, Int.reduceLT, Int.reduceLE, Int.reduceToNat, dite_true, h']
    rw [List.take_of_length_le (by omega), List.take_of_length_le (by omega)] at ht
    exact RetOk.p rfl (by simp [ht, rval])
  have h' : (i : Int) < (a.length : Int) := by omega
  have hb' : i < b.length := by omega
  have h2 : (i : Int) < (b.length : Int) := by omega
  have h0 : (0 : Int) ≤ (i : Int) := by omega
  obtain ⟨qa, rfl, hqa⟩ := ha3.elem1 (i := i) (v := .string a[i]) (by simp [h])
  obtain ⟨qb, rfl, hqb⟩ := hb3.elem1 (i := i) (v := .string b[i]) (by simp [hb'])
  simp only [push_cast, ↓reduceIte, Nat.reduceEqDiff, Nat.reduceAdd, Nat.reduceMul, Nat.reduceSub, Nat.reduceLT, Nat.reduceLeDiff, reduceCtorEq, Nat.reduceMod, Int.reduceEq, Int.reduceLT, Int.reduceLE, Int.reduceToNat, dite_true, h']
  refine VC.draw (.q 0 (.q 1 (.q 2 (.q 3 (.q 4 (.q 5 (.q 6 (.q 7 (.q 8 (.done)))))))))) mixed (by rfl) ?_
  simp only [push_cast, ↓reduceIte, Nat.reduceEqDiff, Nat.reduceAdd, Nat.reduceMul, Nat.reduceSub, Nat.reduceLT, Nat.reduceLeDiff, reduceCtorEq, Nat.reduceMod, Int.reduceEq, Int.reduceLT, Int.reduceLE, Int.reduceToNat, dite_true, h', h2, h0, hqa, hqb]
  refine VC.go 100 ?_
  have e2 : IntKind.i64.wrap ((i : Int) + 1) = ((i + 1 : Nat) : Int) := wrap_add i h (Nat.le_trans ha1 ha2)
  by_cases g2 : a[i] = b[i]
  · simp only [push_cast, ↓reduceIte, Nat.reduceEqDiff, Nat.reduceAdd, Nat.reduceMul, Nat.reduceSub, Nat.reduceLT, Nat.reduceLeDiff, reduceCtorEq, Nat.reduceMod, Int.reduceEq, Int.reduceLT, Int.reduceLE, Int.reduceToNat, dite_true, eq_true g2, e2]
    exact hG (i + 1) _ ⟨by omega, by rw [List.take_succ_eq_append_getElem h, List.take_succ_eq_append_getElem hb', ht, g2]⟩ (by omega) (by simp [subk, Eng.look]) (List.Sublist.refl _) rfl rfl
  · simp only [push_cast, ↓reduceIte, Nat.reduceEqDiff, Nat.reduceAdd, Nat.reduceMul, Nat.reduceSub, Nat.reduceLT, Nat.reduceLeDiff, reduceCtorEq, Nat.reduceMod, Int.reduceEq, Int.reduceLT, Int.reduceLE, Int.reduceToNat, dite_true, g2]
    exact RetOk.p rfl (by
      have : ¬ a = b := fun e => g2 (by subst e; rfl)
      simp [this, rval])
def hasB (l : List ByteArray) (s : ByteArray) : Bool := l.any (fun n => decide (n = s))
theorem hasB_iff {l : List ByteArray} {s : ByteArray} : hasB l s = true ↔ s ∈ l := by simp [hasB]
theorem hasB_no {l : List ByteArray} {s : ByteArray} (h : ¬ s ∈ l) : hasB l s = false := Bool.eq_false_iff.2 fun e => h (hasB_iff.1 e)
theorem has (F : PH) (av : Value) (a : List ByteArray) (s : ByteArray) (ha : Strs F av a) : PFn Try.prog 25 [av, .string s] F (fun v _ => v = .bool (hasB a s)) := by
  obtain ⟨pa, ca, rfl, ha1, ha2, ha3⟩ := ha
  refine Fn.intro (n := 18) (ts := [4]) Try.func25 rfl rfl rfl rfl (by simp) fun B hB => VC.go 100 ?_
  simp only [push_cast, ↓reduceIte, Nat.reduceEqDiff, Nat.reduceAdd, Nat.reduceMul, Nat.reduceSub, Nat.reduceLT, Nat.reduceLeDiff, reduceCtorEq, Nat.reduceMod, Int.reduceEq, Int.reduceLT, Int.reduceLE, Int.reduceToNat, dite_true]
  refine VC.loopL (fun i : Nat => [(5, .v (.int .i64 i)), (0, .v (.slice pa a.length ca)), (1, .v (.string s))]) (fun i => i ≤ a.length ∧ ¬ s ∈ a.take i) (fun i => a.length - i) 0 ⟨Nat.zero_le _, by simp⟩ (by simp [subk, Eng.look]) ?_
  intro i ⟨hi, ht⟩ G hG
  refine VC.go 100 ?_
  by_cases h : i < a.length
  case neg =>
    have h' : ¬ (i : Int) < (a.length : Int) := by omega
    simp only [push_cast, ↓reduceIte, Nat.reduceEqDiff, Nat.reduceAdd, Nat.reduceMul, Nat.reduceSub, Nat.reduceLT, Nat.reduceLeDiff, reduceCtorEq, Nat.reduceMod, Int.reduceEq, Int.reduceLT, Int.reduceLE, Int.reduceToNat, dite_true, h']
    rw [List.take_of_length_le (by omega)] at ht
    exact RetOk.p rfl (by rw [hasB_no ht]; rfl)
  have h' : (i : Int) < (a.length : Int) := by omega
  have h0 : (0 : Int) ≤ (i : Int) := by omega
  obtain ⟨qa, rfl, hqa⟩ := ha3.elem1 (i := i) (v := .string a[i]) (by simp [h])
  have e2 : IntKind.i64.wrap ((i : Int) + 1) = ((i + 1 : Nat) : Int) := wrap_add i h (Nat.le_trans ha1 ha2)
  by_cases g2 : a[i] = s
  · simp only [push_cast, ↓reduceIte, Nat.reduceEqDiff, Nat.reduceAdd, Nat.reduceMul, Nat.reduceSub, Nat.reduceLT, Nat.reduceLeDiff, reduceCtorEq, Nat.reduceMod, Int.reduceEq, Int.reduceLT, Int.reduceLE, Int.reduceToNat, dite_true, h', h0, hqa, eq_true g2]
    exact RetOk.p rfl (by
      have : s ∈ a := g2 ▸ List.getElem_mem h
      rw [hasB_iff.2 this]; rfl)
  · simp only [push_cast, ↓reduceIte, Nat.reduceEqDiff, Nat.reduceAdd, Nat.reduceMul, Nat.reduceSub, Nat.reduceLT, Nat.reduceLeDiff, reduceCtorEq, Nat.reduceMod, Int.reduceEq, Int.reduceLT, Int.reduceLE, Int.reduceToNat, dite_true, h', h0, hqa, g2, e2]
    refine hG (i + 1) _ ⟨by omega, ?_⟩ (by omega) (by simp [subk, Eng.look]) (List.Sublist.refl _) rfl rfl
    rw [List.take_succ_eq_append_getElem h]
    simp only [List.mem_append, List.mem_singleton, not_or]
    exact ⟨ht, fun e => g2 e.symm⟩
theorem lessL_more (l names : List ByteArray) (n : ByteArray) : lessL l (names ++ [n]) = (lessL l names).filter (fun s => !decide (s = n)) := by
  simp only [lessL, List.filter_filter]
  congr 1
  funext s
  simp only [List.any_append, List.any_cons, List.any_nil, Bool.or_false, Bool.not_or]
  rw [Bool.and_comm]
  congr 2
  exact decide_eq_decide.2 eq_comm
end Go.Proofs.Ytlgfajdedmajcaa.V
