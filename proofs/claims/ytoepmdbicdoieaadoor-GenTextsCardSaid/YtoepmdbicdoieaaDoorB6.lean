/- The lexer of the definition, as a function of the text: words. -/
import Derived.Test.YtoepmdbicdoieaaDoorB5
namespace Go.Proofs.YtoepmdbicdoieaaDoor.X
open Go Go.Eng Go.Proofs Go.Proofs.YtoepmdbicdoieaaDoor.T Go.Proofs.YtoepmdbicdoieaaDoor.K
set_option linter.unusedSimpArgs false
set_option linter.unusedVariables false
set_option maxRecDepth 100000
set_option maxHeartbeats 4000000
/-- A text that is one token of such a kind. -/
def WordP (s : ByteArray) (k : Int) : Prop := ¬ s = ⟨#[]⟩ ∧ s.size ≤ 32 ∧ (k = 1 ∨ k = 2 ∨ k = 3) ∧ (oneP s 0).2.2 = 0 ∧ (oneP s 0).1.k = k ∧ (oneP s 0).2.1 = s.size
instance (s : ByteArray) (k : Int) : Decidable (WordP s k) := by unfold WordP; exact inferInstance
theorem word (s : ByteArray) (k : Int) (F : PH) : PFn Tryd.prog 75 [.string s, .int .i64 k] F (fun v _ => v = .bool (decide (WordP s k))) := by
  refine Fn.intro (n := 45) (ts := [4]) Tryd.func75 rfl rfl rfl rfl (by simp) fun B hB => VC.go 100 ?_
  by_cases h1 : s = ⟨#[]⟩
  · have hW : ¬ WordP s k := fun h => h.1 h1
    simp only [push_cast, ↓reduceIte, Nat.reduceEqDiff, Nat.reduceAdd, Nat.reduceMul, Nat.reduceSub, Nat.reduceLT, Nat.reduceLeDiff, reduceCtorEq, Nat.reduceMod, Int.reduceEq, Int.reduceLT, Int.reduceLE, Int.reduceToNat, dite_true, eq_true h1]
    exact RetOk.p rfl (by simp [hW, rval])
  by_cases h2 : (s.size : Int) > 32
  · have hW : ¬ WordP s k := fun h => by have := h.2.1; omega
    simp only [push_cast, ↓reduceIte, Nat.reduceEqDiff, Nat.reduceAdd, Nat.reduceMul, Nat.reduceSub, Nat.reduceLT, Nat.reduceLeDiff, reduceCtorEq, Nat.reduceMod, Int.reduceEq, Int.reduceLT, Int.reduceLE, Int.reduceToNat, dite_true, h1, eq_true h2]
    exact RetOk.p rfl (by simp [hW, rval])
  have hpos : 0 < s.size := by
    refine Nat.pos_of_ne_zero fun h => h1 ?_
    have : s.data.size = 0 := h
    cases s
    simp at this
    subst this
    rfl
  by_cases h3 : k = 1 ∨ k = 2 ∨ k = 3
  case neg =>
    have n1 : ¬ k = 1 := by omega
    have n2 : ¬ k = 2 := by omega
    have n3 : ¬ k = 3 := by omega
    have hW : ¬ WordP s k := fun h => h3 h.2.2.1
    simp only [push_cast, ↓reduceIte, Nat.reduceEqDiff, Nat.reduceAdd, Nat.reduceMul, Nat.reduceSub, Nat.reduceLT, Nat.reduceLeDiff, reduceCtorEq, Nat.reduceMod, Int.reduceEq, Int.reduceLT, Int.reduceLE, Int.reduceToNat, dite_true, h1, h2, n1, n2, n3]
    exact RetOk.p rfl (by simp [hW, rval])
  have fin : ∀ b : Bool, (b = true ↔ WordP s k) → Value.bool b = .bool (decide (WordP s k)) := fun b hb => by
    congr 1
    cases b with
    | true => simp [hb.1 rfl]
    | false =>
      have : ¬ WordP s k := fun h => by have := hb.2 h; cases this
      simp [this]
  obtain ⟨⟨t, nx, e⟩, hone⟩ : ∃ r, r = oneP s 0 := ⟨_, rfl⟩
  have tail : ∀ b : Bool, b = (decide (e = 0) && (decide (t.k = k) && decide (nx = (s.size : Int)))) → Value.bool b = .bool (decide (WordP s k)) := fun b hb => fin b (by
    subst hb
    unfold WordP
    rw [← hone]
    simp only [Bool.and_eq_true, decide_eq_true_eq]
    exact ⟨fun ⟨g1, g2, g3⟩ => ⟨h1, by omega, h3, g1, g2, g3⟩, fun ⟨_, _, _, g1, g2, g3⟩ => ⟨g1, g2, g3⟩⟩)
  have hs0 : (oneV (oneP s 0)) = oneV (t, nx, e) := by rw [hone]
  rcases h3 with g | g | g
  · subst g
    simp only [push_cast, ↓reduceIte, Nat.reduceEqDiff, Nat.reduceAdd, Nat.reduceMul, Nat.reduceSub, Nat.reduceLT, Nat.reduceLeDiff, reduceCtorEq, Nat.reduceMod, Int.reduceEq, Int.reduceLT, Int.reduceLE, Int.reduceToNat, dite_true, h1, h2]
    refine CallV.pure (one s 0 hpos (by omega) F) ?_
    rintro _ F1 hF1 rfl
    rw [hs0]
    simp only [push_cast, ↓reduceIte, Nat.reduceEqDiff, Nat.reduceAdd, Nat.reduceMul, Nat.reduceSub, Nat.reduceLT, Nat.reduceLeDiff, reduceCtorEq, Nat.reduceMod, Int.reduceEq, Int.reduceLT, Int.reduceLE, Int.reduceToNat, dite_true]
    intro b5
    by_cases g1 : e = 0
    case neg =>
      simp only [push_cast, ↓reduceIte, Nat.reduceEqDiff, Nat.reduceAdd, Nat.reduceMul, Nat.reduceSub, Nat.reduceLT, Nat.reduceLeDiff, reduceCtorEq, Nat.reduceMod, Int.reduceEq, Int.reduceLT, Int.reduceLE, Int.reduceToNat, dite_true, g1]
      exact RetOk.p rfl (tail _ (by simp [g1]))
    by_cases g2 : t.k = 1
    case neg =>
      simp only [push_cast, ↓reduceIte, Nat.reduceEqDiff, Nat.reduceAdd, Nat.reduceMul, Nat.reduceSub, Nat.reduceLT, Nat.reduceLeDiff, reduceCtorEq, Nat.reduceMod, Int.reduceEq, Int.reduceLT, Int.reduceLE, Int.reduceToNat, dite_true, eq_true g1, g2]
      exact RetOk.p rfl (tail _ (by simp [g2]))
    simp only [push_cast, ↓reduceIte, Nat.reduceEqDiff, Nat.reduceAdd, Nat.reduceMul, Nat.reduceSub, Nat.reduceLT, Nat.reduceLeDiff, reduceCtorEq, Nat.reduceMod, Int.reduceEq, Int.reduceLT, Int.reduceLE, Int.reduceToNat, dite_true, eq_true g1, eq_true g2]
    exact RetOk.p rfl (tail _ (by simp [g1, g2]))
  · subst g
    simp only [push_cast, ↓reduceIte, Nat.reduceEqDiff, Nat.reduceAdd, Nat.reduceMul, Nat.reduceSub, Nat.reduceLT, Nat.reduceLeDiff, reduceCtorEq, Nat.reduceMod, Int.reduceEq, Int.reduceLT, Int.reduceLE, Int.reduceToNat, dite_true, h1, h2]
    refine CallV.pure (one s 0 hpos (by omega) F) ?_
    rintro _ F1 hF1 rfl
    rw [hs0]
    simp only [push_cast, ↓reduceIte, Nat.reduceEqDiff, Nat.reduceAdd, Nat.reduceMul, Nat.reduceSub, Nat.reduceLT, Nat.reduceLeDiff, reduceCtorEq, Nat.reduceMod, Int.reduceEq, Int.reduceLT, Int.reduceLE, Int.reduceToNat, dite_true]
    intro b5
    by_cases g1 : e = 0
    case neg =>
      simp only [push_cast, ↓reduceIte, Nat.reduceEqDiff, Nat.reduceAdd, Nat.reduceMul, Nat.reduceSub, Nat.reduceLT, Nat.reduceLeDiff, reduceCtorEq, Nat.reduceMod, Int.reduceEq, Int.reduceLT, Int.reduceLE, Int.reduceToNat, dite_true, g1]
      exact RetOk.p rfl (tail _ (by simp [g1]))
    by_cases g2 : t.k = 2
    case neg =>
      simp only [push_cast, ↓reduceIte, Nat.reduceEqDiff, Nat.reduceAdd, Nat.reduceMul, Nat.reduceSub, Nat.reduceLT, Nat.reduceLeDiff, reduceCtorEq, Nat.reduceMod, Int.reduceEq, Int.reduceLT, Int.reduceLE, Int.reduceToNat, dite_true, eq_true g1, g2]
      exact RetOk.p rfl (tail _ (by simp [g2]))
    simp only [push_cast, ↓reduceIte, Nat.reduceEqDiff, Nat.reduceAdd, Nat.reduceMul, Nat.reduceSub, Nat.reduceLT, Nat.reduceLeDiff, reduceCtorEq, Nat.reduceMod, Int.reduceEq, Int.reduceLT, Int.reduceLE, Int.reduceToNat, dite_true, eq_true g1, eq_true g2]
    exact RetOk.p rfl (tail _ (by simp [g1, g2]))
  · subst g
    simp only [push_cast, ↓reduceIte, Nat.reduceEqDiff, Nat.reduceAdd, Nat.reduceMul, Nat.reduceSub, Nat.reduceLT, Nat.reduceLeDiff, reduceCtorEq, Nat.reduceMod, Int.reduceEq, Int.reduceLT, Int.reduceLE, Int.reduceToNat, dite_true, h1, h2]
    refine CallV.pure (one s 0 hpos (by omega) F) ?_
    rintro _ F1 hF1 rfl
    rw [hs0]
    simp only [push_cast, ↓reduceIte, Nat.reduceEqDiff, Nat.reduceAdd, Nat.reduceMul, Nat.reduceSub, Nat.reduceLT, Nat.reduceLeDiff, reduceCtorEq, Nat.reduceMod, Int.reduceEq, Int.reduceLT, Int.reduceLE, Int.reduceToNat, dite_true]
    intro b5
    by_cases g1 : e = 0
    case neg =>
      simp only [push_cast, ↓reduceIte, Nat.reduceEqDiff, Nat.reduceAdd, Nat.reduceMul, Nat.reduceSub, Nat.reduceLT, Nat.reduceLeDiff, reduceCtorEq, Nat.reduceMod, Int.reduceEq, Int.reduceLT, Int.reduceLE, Int.reduceToNat, dite_true, g1]
      exact RetOk.p rfl (tail _ (by simp [g1]))
    by_cases g2 : t.k = 3
    case neg =>
      simp only [push_cast, ↓reduceIte, Nat.reduceEqDiff, Nat.reduceAdd, Nat.reduceMul, Nat.reduceSub, Nat.reduceLT, Nat.reduceLeDiff, reduceCtorEq, Nat.reduceMod, Int.reduceEq, Int.reduceLT, Int.reduceLE, Int.reduceToNat, dite_true, eq_true g1, g2]
      exact RetOk.p rfl (tail _ (by simp [g2]))
    simp only [push_cast, ↓reduceIte, Nat.reduceEqDiff, Nat.reduceAdd, Nat.reduceMul, Nat.reduceSub, Nat.reduceLT, Nat.reduceLeDiff, reduceCtorEq, Nat.reduceMod, Int.reduceEq, Int.reduceLT, Int.reduceLE, Int.reduceToNat, dite_true, eq_true g1, eq_true g2]
    exact RetOk.p rfl (tail _ (by simp [g1, g2]))
end Go.Proofs.YtoepmdbicdoieaaDoor.X
