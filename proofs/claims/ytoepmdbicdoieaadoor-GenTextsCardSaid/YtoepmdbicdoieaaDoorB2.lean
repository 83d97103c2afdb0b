/- The lexer of the definition, as a function of the text: blanks. (Written by gen/b1.py.) -/
import Derived.Test.YtoepmdbicdoieaaDoorB1
namespace Go.Proofs.YtoepmdbicdoieaaDoor.X
open Go Go.Eng Go.Proofs Go.Proofs.YtoepmdbicdoieaaDoor.T Go.Proofs.YtoepmdbicdoieaaDoor.K
set_option linter.unusedSimpArgs false
set_option linter.unusedVariables false
set_option maxRecDepth 100000
set_option maxHeartbeats 4000000
/-- The end of a line. -/
def lineP (s : ByteArray) : Nat → Nat → Nat
  | 0, k => k
  | n + 1, k => if k < s.size ∧ ¬ ch s k = 10 then lineP s n (k + 1) else k
def lineE (s : ByteArray) (k : Nat) : Nat := lineP s (s.size - k) k
theorem lineE_eq (s : ByteArray) (i : Nat) : lineE s i = if i < s.size ∧ ¬ ch s i = 10 then lineE s (i + 1) else i := by
  unfold lineE
  by_cases h : i < s.size
  · obtain ⟨n, hn⟩ : ∃ n, s.size - i = n + 1 := ⟨s.size - i - 1, by omega⟩
    rw [hn, show s.size - (i + 1) = n by omega]
    rfl
  · rw [show s.size - i = 0 by omega, if_neg (fun k => h k.1)]
    rfl
theorem lineP_le (s : ByteArray) : ∀ n i, i ≤ s.size → i ≤ lineP s n i ∧ lineP s n i ≤ s.size
  | 0, i, h => ⟨Nat.le_refl _, h⟩
  | n + 1, i, h => by
    simp only [lineP]
    split
    · rename_i k
      have := lineP_le s n (i + 1) (by omega)
      omega
    · exact ⟨Nat.le_refl _, h⟩
theorem lineE_le (s : ByteArray) {i : Nat} (h : i ≤ s.size) : i ≤ lineE s i ∧ lineE s i ≤ s.size := lineP_le s _ i h
theorem lineE_lt (s : ByteArray) {i : Nat} (h : i < s.size) (hw : ch s i = 45) : i < lineE s i := by
  rw [lineE_eq, if_pos ⟨h, by rw [hw]; decide⟩]
  have := (lineE_le s (i := i + 1) h).1
  omega
def dashB (s : ByteArray) (i : Nat) : Prop := ch s i = 45 ∧ i + 1 < s.size ∧ ch s (i + 1) = 45
instance (s : ByteArray) (i : Nat) : Decidable (dashB s i) := by unfold dashB; exact inferInstance
def skipP (s : ByteArray) : Nat → Nat → Nat
  | 0, i => i
  | n + 1, i => if i < s.size then if blankB (ch s i) = true then skipP s n (i + 1) else if dashB s i then skipP s n (lineE s i) else i else i
/-- The place behind blanks and remarks. -/
def skipE (s : ByteArray) (i : Nat) : Nat := skipP s (s.size - i) i
theorem skipP_any (s : ByteArray) : ∀ n m i, s.size - i ≤ n → s.size - i ≤ m → skipP s n i = skipP s m i
  | 0, 0, i, _, _ => rfl
  | 0, m + 1, i, h, _ => by simp only [skipP]; rw [if_neg (by omega)]
  | n + 1, 0, i, _, h => by simp only [skipP]; rw [if_neg (by omega)]
  | n + 1, m + 1, i, h1, h2 => by
    simp only [skipP]
    by_cases h : i < s.size
    · rw [if_pos h, if_pos h]
      by_cases hb : blankB (ch s i) = true
      · rw [if_pos hb, if_pos hb]; exact skipP_any s n m (i + 1) (by omega) (by omega)
      rw [if_neg hb, if_neg hb]
      by_cases hd : dashB s i
      · rw [if_pos hd, if_pos hd]
        have := lineE_lt s h hd.1
        exact skipP_any s n m _ (by omega) (by omega)
      · rw [if_neg hd, if_neg hd]
    · rw [if_neg h, if_neg h]
theorem skipE_eq (s : ByteArray) (i : Nat) : skipE s i = if i < s.size then if blankB (ch s i) = true then skipE s (i + 1) else if dashB s i then skipE s (lineE s i) else i else i := by
  unfold skipE
  by_cases h : i < s.size
  · obtain ⟨n, hn⟩ : ∃ n, s.size - i = n + 1 := ⟨s.size - i - 1, by omega⟩
    rw [hn, if_pos h]
    simp only [skipP]
    rw [if_pos h]
    split
    · exact skipP_any s _ _ _ (by omega) (by omega)
    · split
      · rename_i hd
        have := lineE_lt s h hd.1
        exact skipP_any s _ _ _ (by omega) (by omega)
      · rfl
  · rw [show s.size - i = 0 by omega, if_neg h]
    rfl
theorem skipP_le (s : ByteArray) : ∀ n i, i ≤ s.size → i ≤ skipP s n i ∧ skipP s n i ≤ s.size
  | 0, i, h => ⟨Nat.le_refl _, h⟩
  | n + 1, i, h => by
    simp only [skipP]
    split
    · rename_i k
      split
      · have := skipP_le s n (i + 1) (by omega)
        omega
      · split
        · have h1 := lineE_le s h
          have := skipP_le s n (lineE s i) h1.2
          omega
        · exact ⟨Nat.le_refl _, h⟩
    · exact ⟨Nat.le_refl _, h⟩
theorem skipE_le (s : ByteArray) {i : Nat} (h : i ≤ s.size) : i ≤ skipE s i ∧ skipE s i ≤ s.size := skipP_le s _ i h
theorem skip (s : ByteArray) (a : Nat) (ha : a ≤ s.size) (hs : s.size ≤ 16384) (F : PH) : PFn Tryd.prog 34 [.string s, .int .i64 a] F (fun v _ => v = .int .i64 (skipE s a)) := by
  refine Fn.intro (n := 47) (ts := [4]) Tryd.func34 rfl rfl rfl rfl (by simp) fun B hB => VC.go 100 ?_
  simp only [push_cast, ↓reduceIte, Nat.reduceEqDiff, Nat.reduceAdd, Nat.reduceMul, Nat.reduceSub, Nat.reduceLT, Nat.reduceLeDiff, reduceCtorEq, Nat.reduceMod, Int.reduceEq, Int.reduceLT, Int.reduceLE, Int.reduceToNat, dite_true]
  refine VC.loopF (ι := Nat × PH) (fun i => [(1, .v (.int .i64 i.1)), (0, .v (.string s))]) (fun i => i.2) (fun i => i.1 ≤ s.size ∧ skipE s i.1 = skipE s a) (fun i => s.size - i.1) (a, F) ⟨ha, rfl⟩ (by simp [subk, Eng.look]) rfl ?_
  rintro ⟨i, F1⟩ ⟨hi2, hsk⟩ G hG
  dsimp only at hi2 hsk hG ⊢
  rw [skipE_eq] at hsk
  refine VC.go 100 ?_
  by_cases h : i < s.size
  case neg =>
    have h' : ¬ (i : Int) < (s.size : Int) := by omega
    rw [if_neg h] at hsk
    simp only [push_cast, ↓reduceIte, Nat.reduceEqDiff, Nat.reduceAdd, Nat.reduceMul, Nat.reduceSub, Nat.reduceLT, Nat.reduceLeDiff, reduceCtorEq, Nat.reduceMod, Int.reduceEq, Int.reduceLT, Int.reduceLE, Int.reduceToNat, dite_true, h']
    exact RetOk.p rfl (by rw [← hsk]; rfl)
  rw [if_pos h] at hsk
  have h' : (i : Int) < (s.size : Int) := by omega
  have h0 : (0 : Int) ≤ (i : Int) := by omega
  have e2 : IntKind.i64.wrap ((i : Int) + 1) = ((i + 1 : Nat) : Int) := wadd i h (small_max hs)
  have hc : ((s.data.getD i 0).toNat : Int) = ch s i := rfl
  simp only [push_cast, ↓reduceIte, Nat.reduceEqDiff, Nat.reduceAdd, Nat.reduceMul, Nat.reduceSub, Nat.reduceLT, Nat.reduceLeDiff, reduceCtorEq, Nat.reduceMod, Int.reduceEq, Int.reduceLT, Int.reduceLE, Int.reduceToNat, dite_true, h', h0, hc]
  refine CallV.pure (blank (ch s i) F1) ?_
  rintro _ F2 hF2 rfl
  cases hbl : blankB (ch s i) with
  | true =>
    rw [if_pos hbl] at hsk
    simp only [push_cast, ↓reduceIte, Nat.reduceEqDiff, Nat.reduceAdd, Nat.reduceMul, Nat.reduceSub, Nat.reduceLT, Nat.reduceLeDiff, reduceCtorEq, Nat.reduceMod, Int.reduceEq, Int.reduceLT, Int.reduceLE, Int.reduceToNat, dite_true, h', h0, hc, e2]
    exact hG (i + 1, F2) _ ⟨by omega, hsk⟩ (by simp; omega) (by simp [subk, Eng.look]) (List.Sublist.refl _) rfl rfl
  | false =>
  rw [if_neg (by rw [hbl]; decide)] at hsk
  by_cases g1 : ch s i = 45
  case neg =>
    rw [if_neg (fun k => g1 k.1)] at hsk
    simp only [push_cast, ↓reduceIte, Nat.reduceEqDiff, Nat.reduceAdd, Nat.reduceMul, Nat.reduceSub, Nat.reduceLT, Nat.reduceLeDiff, reduceCtorEq, Nat.reduceMod, Int.reduceEq, Int.reduceLT, Int.reduceLE, Int.reduceToNat, dite_true, h', h0, hc, g1]
    exact RetOk.p rfl (by rw [← hsk]; rfl)
  have e4 : IntKind.i64.wrap ((i : Int) + 1) = (i : Int) + 1 := by rw [e2]; rfl
  by_cases g2 : i + 1 < s.size
  case neg =>
    have g2' : ¬ (i : Int) + 1 < (s.size : Int) := by omega
    rw [if_neg (fun k => g2 k.2.1)] at hsk
    simp only [push_cast, ↓reduceIte, Nat.reduceEqDiff, Nat.reduceAdd, Nat.reduceMul, Nat.reduceSub, Nat.reduceLT, Nat.reduceLeDiff, reduceCtorEq, Nat.reduceMod, Int.reduceEq, Int.reduceLT, Int.reduceLE, Int.reduceToNat, dite_true, h', h0, hc, eq_true g1, e4, g2']
    exact RetOk.p rfl (by rw [← hsk]; rfl)
  have g2' : (i : Int) + 1 < (s.size : Int) := by omega
  have h01 : (0 : Int) ≤ (i : Int) + 1 := by omega
  have ht : ((i : Int) + 1).toNat = i + 1 := by omega
  have hc1 : ((s.data.getD (i + 1) 0).toNat : Int) = ch s (i + 1) := rfl
  by_cases g3 : ch s (i + 1) = 45
  case neg =>
    rw [if_neg (fun k => g3 k.2.2)] at hsk
    simp only [push_cast, ↓reduceIte, Nat.reduceEqDiff, Nat.reduceAdd, Nat.reduceMul, Nat.reduceSub, Nat.reduceLT, Nat.reduceLeDiff, reduceCtorEq, Nat.reduceMod, Int.reduceEq, Int.reduceLT, Int.reduceLE, Int.reduceToNat, dite_true, h', h0, hc, eq_true g1, e4, g2', h01, ht, hc1, g3]
    exact RetOk.p rfl (by rw [← hsk]; rfl)
  rw [if_pos ⟨g1, g2, g3⟩] at hsk
  have hlt := lineE_lt s h g1
  have hle := (lineE_le s hi2).2
  simp only [push_cast, ↓reduceIte, Nat.reduceEqDiff, Nat.reduceAdd, Nat.reduceMul, Nat.reduceSub, Nat.reduceLT, Nat.reduceLeDiff, reduceCtorEq, Nat.reduceMod, Int.reduceEq, Int.reduceLT, Int.reduceLE, Int.reduceToNat, dite_true, h', h0, hc, eq_true g1, e4, g2', h01, ht, hc1, eq_true g3]
  refine VC.loopF (ι := Nat × PH) (fun i => [(1, .v (.int .i64 i.1)), (0, .v (.string s))]) (fun i => i.2) (fun k => k.1 ≤ s.size ∧ lineE s k.1 = lineE s i) (fun i => s.size - i.1) (i, F2) ⟨hi2, rfl⟩ (by simp [subk, Eng.look]) rfl ?_
  rintro ⟨k, F3⟩ ⟨hk2, hline⟩ G1 hG1
  dsimp only at hk2 hline hG1 ⊢
  rw [lineE_eq] at hline
  refine VC.go 100 ?_
  by_cases p : k < s.size
  case neg =>
    have p' : ¬ (k : Int) < (s.size : Int) := by omega
    rw [if_neg (fun z => p z.1)] at hline
    simp only [push_cast, ↓reduceIte, Nat.reduceEqDiff, Nat.reduceAdd, Nat.reduceMul, Nat.reduceSub, Nat.reduceLT, Nat.reduceLeDiff, reduceCtorEq, Nat.reduceMod, Int.reduceEq, Int.reduceLT, Int.reduceLE, Int.reduceToNat, dite_true, p']
    exact hG (k, F3) _ ⟨by omega, by dsimp only; rw [hline]; exact hsk⟩ (by simp; omega) (by simp [subk, Eng.look]) (List.Sublist.refl _) rfl rfl
  have p' : (k : Int) < (s.size : Int) := by omega
  have p0 : (0 : Int) ≤ (k : Int) := by omega
  have e3 : IntKind.i64.wrap ((k : Int) + 1) = ((k + 1 : Nat) : Int) := wadd k p (small_max hs)
  have hck : ((s.data.getD k 0).toNat : Int) = ch s k := rfl
  by_cases q : ch s k = 10
  · rw [if_neg (fun z => z.2 q)] at hline
    simp only [push_cast, ↓reduceIte, Nat.reduceEqDiff, Nat.reduceAdd, Nat.reduceMul, Nat.reduceSub, Nat.reduceLT, Nat.reduceLeDiff, reduceCtorEq, Nat.reduceMod, Int.reduceEq, Int.reduceLT, Int.reduceLE, Int.reduceToNat, dite_true, p', p0, hck, eq_true q]
    exact hG (k, F3) _ ⟨by omega, by dsimp only; rw [hline]; exact hsk⟩ (by simp; omega) (by simp [subk, Eng.look]) (List.Sublist.refl _) rfl rfl
  · rw [if_pos ⟨p, q⟩] at hline
    simp only [push_cast, ↓reduceIte, Nat.reduceEqDiff, Nat.reduceAdd, Nat.reduceMul, Nat.reduceSub, Nat.reduceLT, Nat.reduceLeDiff, reduceCtorEq, Nat.reduceMod, Int.reduceEq, Int.reduceLT, Int.reduceLE, Int.reduceToNat, dite_true, p', p0, hck, q, e3]
    exact hG1 (k + 1, F3) _ ⟨by omega, hline⟩ (by simp; omega) (by simp [subk, Eng.look]) (List.Sublist.refl _) rfl rfl
end Go.Proofs.YtoepmdbicdoieaaDoor.X
