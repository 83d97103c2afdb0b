/- A text parted at a byte: what the program and the definition do. -/
import Derived.Test.YtmiekonofocboaaGreatDoorSA
import Derived.Test.YtmiekonofocboaaGreatDoorE21
import Derived.Test.YtmiekonofocboaaGreatDoorBA
namespace Go.Proofs.YtmiekonofocboaaGreatDoor.Q
open Go Go.Eng Go.Lib Go.Proofs Go.Proofs.YtmiekonofocboaaGreatDoor.T Go.Proofs.YtmiekonofocboaaGreatDoor.K Go.Proofs.YtmiekonofocboaaGreatDoor.X
set_option linter.unusedSimpArgs false
set_option linter.unusedVariables false
set_option linter.unusedSectionVars false
set_option maxRecDepth 100000
set_option maxHeartbeats 4000000
/-- The parts of a text, from a place on; the first of them begins at another one. -/
def splitF (s : ByteArray) (c : Int) : Nat → Nat → Nat → List ByteArray
  | 0, a, _ => [s.extract a s.size]
  | n + 1, a, i => if i < s.size then (if ch s i = c then s.extract a i :: splitF s c n (i + 1) (i + 1) else splitF s c n a (i + 1)) else [s.extract a s.size]
def splitE (s : ByteArray) (c : Int) (a i : Nat) : List ByteArray := splitF s c (s.size - i) a i
theorem splitE_eq (s : ByteArray) (c : Int) (a i : Nat) : splitE s c a i = if i < s.size then (if ch s i = c then s.extract a i :: splitE s c (i + 1) (i + 1) else splitE s c a (i + 1)) else [s.extract a s.size] := by
  unfold splitE
  by_cases h : i < s.size
  · obtain ⟨n, hn⟩ : ∃ n, s.size - i = n + 1 := ⟨s.size - i - 1, by omega⟩
    rw [hn, show s.size - (i + 1) = n by omega]
    rfl
  · rw [show s.size - i = 0 by omega, if_neg h]
    rfl
def splitP (s : ByteArray) (c : Int) : List ByteArray := splitE s c 0 0
theorem splitF_len (s : ByteArray) (c : Int) : ∀ n a i, (splitF s c n a i).length ≤ n + 1
  | 0, a, i => by simp [splitF]
  | n + 1, a, i => by
    simp only [splitF]
    split
    · split
      · have := splitF_len s c n (i + 1) (i + 1); simp; omega
      · have := splitF_len s c n a (i + 1); omega
    · simp
theorem splitP_len (s : ByteArray) (c : Int) : (splitP s c).length ≤ s.size + 1 := splitF_len s c _ 0 0
theorem split (s : ByteArray) (c : Int) (hs : s.size ≤ 100000000) (F : PH) : PFn Tryz.prog 15 [.string s, .int .u8 c] F (fun v F' => Strs F' v (splitP s c)) := by
  refine Fn.intro (n := 34) (ts := [4]) Tryz.func15 rfl rfl rfl rfl (by simp) fun B hB => VC.emp (VC.go 100 ?_)
  simp only [push_cast, ↓reduceIte, Nat.reduceEqDiff, Nat.reduceAdd, Nat.reduceMul, Nat.reduceSub, Nat.reduceLT, Nat.reduceLeDiff, reduceCtorEq, Nat.reduceMod, Int.reduceEq, Int.reduceLT, Int.reduceLE, Int.reduceToNat, dite_true]
  have hpl := splitP_len s c
  refine VC.loopR (ι := Nat × Nat × List ByteArray × Value × PH × PH) (fun i => [(10, .v (.int .i64 (i.1 : Int))), (9, .v (.int .i64 (s.size : Int))), (6, .v (.int .i64 (i.2.1 : Int))), (5, .v i.2.2.2.1), (1, .v (.int .u8 c)), (0, .v (.string s))]) (fun i => i.2.2.2.2.2) (fun i => i.2.2.2.2.1) [] (fun i => i.1 ≤ s.size ∧ i.2.1 ≤ i.1 ∧ F.le i.2.2.2.2.2 ∧ Row i.2.2.2.2.1 9 1 i.2.2.2.1 (i.2.2.1.map .string) ∧ i.2.2.1 ++ splitE s c i.2.1 i.1 = splitP s c) (fun i => s.size - i.1) (0, 0, [], .slice none 0 0, PH.emp, F) ⟨Nat.zero_le _, Nat.le_refl _, PH.le_refl _, Row.nil _ _, rfl⟩ (by simp [subk, Eng.look]) rfl rfl ?_
  rintro ⟨i, a, acc, v, r, F1⟩ ⟨hi, ha, hF1, hr, hacc⟩ G hG
  dsimp only at hi ha hF1 hr hacc hG ⊢
  have hal : acc.length ≤ s.size + 1 := by
    have := congrArg List.length hacc
    rw [List.length_append] at this
    omega
  obtain ⟨p, n, cp, rfl⟩ := hr.val
  rw [splitE_eq] at hacc
  refine VC.go 100 ?_
  rcases Nat.lt_or_ge i s.size with hlt | hge
  · rw [if_pos hlt] at hacc
    have hc : ((s.data.getD i 0).toNat : Int) = ch s i := rfl
    have hw1 : IntKind.i64.wrap ((i : Int) + 1) = ((i + 1 : Nat) : Int) := by rw [IntWalk.i64_in _ (by omega)]; omega
    by_cases he : ch s i = c
    · rw [if_pos he] at hacc
      simp only [push_cast, ↓reduceIte, Nat.reduceEqDiff, Nat.reduceAdd, Nat.reduceMul, Nat.reduceSub, Nat.reduceLT, Nat.reduceLeDiff, reduceCtorEq, Nat.reduceMod, Int.reduceEq, Int.reduceLT, Int.reduceLE, Int.reduceToNat, dite_true, eq_true (show (i : Int) < (s.size : Int) by omega), eq_true (show (0 : Int) ≤ (i : Int) by omega), hc, eq_true he, eq_true (show (i : Int) ≤ (s.size : Int) by omega), eq_true (show (0 : Int) ≤ (a : Int) by omega), eq_true (show (a : Int) ≤ (i : Int) by omega)]
      intro b F2 hF2 hb
      refine Eff.append (xs := acc.map .string) (ys := [.string (s.extract a i)]) rfl rfl rfl ty42 rfl ty9 rfl (by decide) rfl rfl (List.Perm.refl _) hr (Src.blk hb rfl) (by simp [Value.oneCell']) (by simp; omega) (by decide) ?_
      intro v' r' hr'
      rw [show acc.map Value.string ++ [Value.string (s.extract a i)] = (acc ++ [s.extract a i]).map .string by simp] at hr'
      simp only [push_cast, ↓reduceIte, Nat.reduceEqDiff, Nat.reduceAdd, Nat.reduceMul, Nat.reduceSub, Nat.reduceLT, Nat.reduceLeDiff, reduceCtorEq, Nat.reduceMod, Int.reduceEq, Int.reduceLT, Int.reduceLE, Int.reduceToNat, dite_true, hw1]
      exact hG (i + 1, i + 1, acc ++ [s.extract a i], v', r', F2) _ ⟨by dsimp only; omega, Nat.le_refl _, PH.le_trans hF1 hF2, hr', by rw [List.append_assoc]; exact hacc⟩ (by dsimp only; omega) (by simp [subk, Eng.look]) (List.Sublist.refl _) rfl rfl
    · rw [if_neg he] at hacc
      simp only [push_cast, ↓reduceIte, Nat.reduceEqDiff, Nat.reduceAdd, Nat.reduceMul, Nat.reduceSub, Nat.reduceLT, Nat.reduceLeDiff, reduceCtorEq, Nat.reduceMod, Int.reduceEq, Int.reduceLT, Int.reduceLE, Int.reduceToNat, dite_true, eq_true (show (i : Int) < (s.size : Int) by omega), eq_true (show (0 : Int) ≤ (i : Int) by omega), hc, he, hw1]
      exact hG (i + 1, a, acc, _, r, F1) _ ⟨by dsimp only; omega, by dsimp only; omega, hF1, hr, hacc⟩ (by dsimp only; omega) (by simp [subk, Eng.look]) (List.Sublist.refl _) rfl rfl
  · rw [if_neg (by omega)] at hacc
    simp only [push_cast, ↓reduceIte, Nat.reduceEqDiff, Nat.reduceAdd, Nat.reduceMul, Nat.reduceSub, Nat.reduceLT, Nat.reduceLeDiff, reduceCtorEq, Nat.reduceMod, Int.reduceEq, Int.reduceLT, Int.reduceLE, Int.reduceToNat, dite_true, eq_false (show ¬ (i : Int) < (s.size : Int) by omega), eq_true (show (0 : Int) ≤ (a : Int) by omega), eq_true (show (a : Int) ≤ (s.size : Int) by omega)]
    intro b F2 hF2 hb
    refine Eff.fz (Eff.append (xs := acc.map .string) (ys := [.string (s.extract a s.size)]) rfl rfl rfl ty42 rfl ty9 rfl (by decide) rfl rfl (List.Perm.refl _) hr (Src.blk hb rfl) (by simp [Value.oneCell']) (by simp; omega) (by decide) ?_)
    intro v' r' hr'
    rw [show acc.map Value.string ++ [Value.string (s.extract a s.size)] = (acc ++ [s.extract a s.size]).map .string by simp, hacc] at hr'
    refine ⟨r', [], List.Perm.refl _, fun F3 hF3 hl3 => ?_⟩
    simp only [push_cast, ↓reduceIte, Nat.reduceEqDiff, Nat.reduceAdd, Nat.reduceMul, Nat.reduceSub, Nat.reduceLT, Nat.reduceLeDiff, reduceCtorEq, Nat.reduceMod, Int.reduceEq, Int.reduceLT, Int.reduceLE, Int.reduceToNat, dite_true]
    exact RetOk.p rfl (Row.strs hr' hl3)
theorem ref_split (s : ByteArray) (c : Int) (hs : s.size ≤ 100000000) (F : PH) : PFn Tryz.prog 18 [.string s, .int .u8 c] F (fun v F' => Strs F' v (splitP s c)) := by
  refine Fn.intro (n := 34) (ts := [4]) Tryz.func18 rfl rfl rfl rfl (by simp) fun B hB => VC.emp (VC.go 100 ?_)
  simp only [push_cast, ↓reduceIte, Nat.reduceEqDiff, Nat.reduceAdd, Nat.reduceMul, Nat.reduceSub, Nat.reduceLT, Nat.reduceLeDiff, reduceCtorEq, Nat.reduceMod, Int.reduceEq, Int.reduceLT, Int.reduceLE, Int.reduceToNat, dite_true]
  have hpl := splitP_len s c
  refine VC.loopR (ι := Nat × Nat × List ByteArray × Value × PH × PH) (fun i => [(7, .v (.int .i64 (i.1 : Int))), (6, .v (.string (s.extract i.2.1 i.1))), (5, .v i.2.2.2.1), (1, .v (.int .u8 c)), (0, .v (.string s))]) (fun i => i.2.2.2.2.2) (fun i => i.2.2.2.2.1) [] (fun i => i.1 ≤ s.size ∧ i.2.1 ≤ i.1 ∧ F.le i.2.2.2.2.2 ∧ Row i.2.2.2.2.1 9 1 i.2.2.2.1 (i.2.2.1.map .string) ∧ i.2.2.1 ++ splitE s c i.2.1 i.1 = splitP s c) (fun i => s.size - i.1) (0, 0, [], .slice none 0 0, PH.emp, F) ⟨Nat.zero_le _, Nat.le_refl _, PH.le_refl _, Row.nil _ _, rfl⟩ (by simp [subk, Eng.look]; rfl) rfl rfl ?_
  rintro ⟨i, a, acc, v, r, F1⟩ ⟨hi, ha, hF1, hr, hacc⟩ G hG
  dsimp only at hi ha hF1 hr hacc hG ⊢
  have hal : acc.length ≤ s.size + 1 := by
    have := congrArg List.length hacc
    rw [List.length_append] at this
    omega
  obtain ⟨p, n, cp, rfl⟩ := hr.val
  rw [splitE_eq] at hacc
  refine VC.go 100 ?_
  rcases Nat.lt_or_ge i s.size with hlt | hge
  · rw [if_pos hlt] at hacc
    have hc : ((s.data.getD i 0).toNat : Int) = ch s i := rfl
    have hw1 : IntKind.i64.wrap ((i : Int) + 1) = (i : Int) + 1 := IntWalk.i64_in _ (by omega)
    have ht : ((i : Int) + 1).toNat = i + 1 := by omega
    by_cases he : ch s i = c
    · rw [if_pos he] at hacc
      simp only [push_cast, ↓reduceIte, Nat.reduceEqDiff, Nat.reduceAdd, Nat.reduceMul, Nat.reduceSub, Nat.reduceLT, Nat.reduceLeDiff, reduceCtorEq, Nat.reduceMod, Int.reduceEq, Int.reduceLT, Int.reduceLE, Int.reduceToNat, dite_true, eq_true (show (i : Int) < (s.size : Int) by omega), eq_true (show (0 : Int) ≤ (i : Int) by omega), hc, eq_true he]
      intro b F2 hF2 hb
      refine Eff.append (xs := acc.map .string) (ys := [.string (s.extract a i)]) rfl rfl rfl ty42 rfl ty9 rfl (by decide) rfl rfl (List.Perm.refl _) hr (Src.blk hb rfl) (by simp [Value.oneCell']) (by simp; omega) (by decide) ?_
      intro v' r' hr'
      rw [show acc.map Value.string ++ [Value.string (s.extract a i)] = (acc ++ [s.extract a i]).map .string by simp] at hr'
      simp only [push_cast, ↓reduceIte, Nat.reduceEqDiff, Nat.reduceAdd, Nat.reduceMul, Nat.reduceSub, Nat.reduceLT, Nat.reduceLeDiff, reduceCtorEq, Nat.reduceMod, Int.reduceEq, Int.reduceLT, Int.reduceLE, Int.reduceToNat, dite_true, hw1]
      exact hG (i + 1, i + 1, acc ++ [s.extract a i], v', r', F2) _ ⟨by dsimp only; omega, Nat.le_refl _, PH.le_trans hF1 hF2, hr', by rw [List.append_assoc]; exact hacc⟩ (by dsimp only; omega) (by simp [subk, Eng.look]; rfl) (List.Sublist.refl _) rfl rfl
    · rw [if_neg he] at hacc
      have hA : (s.extract a i).size + (s.extract i (i + 1)).size ≤ 9223372036854775807 := by rw [ByteArray.size_extract, ByteArray.size_extract]; omega
      simp only [push_cast, ↓reduceIte, Nat.reduceEqDiff, Nat.reduceAdd, Nat.reduceMul, Nat.reduceSub, Nat.reduceLT, Nat.reduceLeDiff, reduceCtorEq, Nat.reduceMod, Int.reduceEq, Int.reduceLT, Int.reduceLE, Int.reduceToNat, dite_true, eq_true (show (i : Int) < (s.size : Int) by omega), eq_true (show (0 : Int) ≤ (i : Int) by omega), hc, he, hw1, ht, eq_true (show (0 : Int) ≤ (i : Int) + 1 by omega), eq_true (show (i : Int) + 1 ≤ (s.size : Int) by omega), eq_true (show (i : Int) ≤ (i : Int) + 1 by omega), eq_true hA]
      exact hG (i + 1, a, acc, _, r, F1) _ ⟨by dsimp only; omega, by dsimp only; omega, hF1, hr, hacc⟩ (by dsimp only; omega) (by simp [subk, Eng.look]; rw [Nat.min_eq_left ha]) (List.Sublist.refl _) rfl rfl
  · rw [if_neg (by omega)] at hacc
    obtain rfl : i = s.size := by omega
    simp only [push_cast, ↓reduceIte, Nat.reduceEqDiff, Nat.reduceAdd, Nat.reduceMul, Nat.reduceSub, Nat.reduceLT, Nat.reduceLeDiff, reduceCtorEq, Nat.reduceMod, Int.reduceEq, Int.reduceLT, Int.reduceLE, Int.reduceToNat, dite_true, eq_false (show ¬ (s.size : Int) < (s.size : Int) by omega)]
    intro b F2 hF2 hb
    refine Eff.fz (Eff.append (xs := acc.map .string) (ys := [.string (s.extract a s.size)]) rfl rfl rfl ty42 rfl ty9 rfl (by decide) rfl rfl (List.Perm.refl _) hr (Src.blk hb rfl) (by simp [Value.oneCell']) (by simp; omega) (by decide) ?_)
    intro v' r' hr'
    rw [show acc.map Value.string ++ [Value.string (s.extract a s.size)] = (acc ++ [s.extract a s.size]).map .string by simp, hacc] at hr'
    refine ⟨r', [], List.Perm.refl _, fun F3 hF3 hl3 => ?_⟩
    simp only [push_cast, ↓reduceIte, Nat.reduceEqDiff, Nat.reduceAdd, Nat.reduceMul, Nat.reduceSub, Nat.reduceLT, Nat.reduceLeDiff, reduceCtorEq, Nat.reduceMod, Int.reduceEq, Int.reduceLT, Int.reduceLE, Int.reduceToNat, dite_true]
    exact RetOk.p rfl (Row.strs hr' hl3)
end Go.Proofs.YtmiekonofocboaaGreatDoor.Q
