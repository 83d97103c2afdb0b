/- The lexer of the definition, as a function of the text: all tokens. (Written by gen/b5.py.) -/
import Derived.Test.YtoepmdbicdoieaaDoorB4
namespace Go.Proofs.YtoepmdbicdoieaaDoor.X
open Go Go.Eng Go.Proofs Go.Proofs.YtoepmdbicdoieaaDoor.T Go.Proofs.YtoepmdbicdoieaaDoor.K
set_option linter.unusedSimpArgs false
set_option linter.unusedVariables false
set_option maxRecDepth 100000
set_option maxHeartbeats 4000000
theorem RTok.len (t : Tok) (c : List Value) (h : RTok t c) : c.length = 4 := by cases h; rfl
theorem oneP_next {s : ByteArray} {a : Nat} (ha : a < s.size) (he : (oneP s a).2.2 = 0) : ∃ j : Nat, (oneP s a).2.1 = j ∧ a < j ∧ j ≤ s.size := by
  have r1 := runE_le s (i := a) (by omega)
  have r2 := runE_le s (i := a + 1) (by omega)
  have d1 := digE_le s (i := a + 1) (by omega)
  have rl := fun h => runE_lt s ha h
  unfold oneP at he ⊢
  split
  · rename_i h
    have := rl (by simp [wordB, h])
    split <;> exact ⟨_, rfl, this, r1.2⟩
  rename_i h1
  rw [if_neg h1] at he
  split
  · rename_i h
    exact ⟨_, rfl, rl (by simp [wordB, h]), r1.2⟩
  rename_i h2
  rw [if_neg h2] at he
  split
  · exact ⟨_, rfl, by omega, r2.2⟩
  rename_i h3
  rw [if_neg h3] at he
  split
  · rename_i h4
    rw [if_pos h4] at he
    split
    · exact ⟨_, rfl, by omega, d1.2.1⟩
    · rename_i hn
      rw [hn] at he
      simp at he
  rename_i h4
  rw [if_neg h4] at he
  split
  · rename_i h5
    have hn := h5.2
    unfold nxt at hn
    split at hn
    · exact ⟨a + 2, by simp, by omega, by omega⟩
    · exact absurd hn (by decide)
  rename_i h5
  rw [if_neg h5] at he
  split
  · exact ⟨a + 1, by simp, by omega, by omega⟩
  · rename_i h6
    rw [if_neg h6] at he
    exact absurd he (by decide)
/-- All tokens from a place on, behind some others; or what is wrong. -/
def scanF (s : ByteArray) : Nat → Nat → List Tok → List Tok × Int × Int
  | 0, _, l => (l, 0, 0)
  | n + 1, a, l => if a < s.size then (if ¬ (oneP s a).2.2 = 0 then ([], (a : Int), (oneP s a).2.2) else if 32 < (oneP s a).1.tx.size then ([], (a : Int), 21) else scanF s n (skipE s (oneP s a).2.1.toNat) (l ++ [(oneP s a).1])) else (l, 0, 0)
def scanE (s : ByteArray) (a : Nat) (l : List Tok) : List Tok × Int × Int := scanF s (s.size - a) a l
theorem next_lt {s : ByteArray} {a : Nat} (ha : a < s.size) (he : (oneP s a).2.2 = 0) : a < skipE s (oneP s a).2.1.toNat ∧ skipE s (oneP s a).2.1.toNat ≤ s.size := by
  obtain ⟨j, h1, h2, h3⟩ := oneP_next ha he
  have := skipE_le s h3
  rw [h1, Int.toNat_natCast]
  omega
theorem scanF_any (s : ByteArray) : ∀ n m a l, s.size - a ≤ n → s.size - a ≤ m → scanF s n a l = scanF s m a l
  | 0, 0, _, _, _, _ => rfl
  | 0, m + 1, a, l, h, _ => by simp only [scanF]; rw [if_neg (by omega)]
  | n + 1, 0, a, l, _, h => by simp only [scanF]; rw [if_neg (by omega)]
  | n + 1, m + 1, a, l, h1, h2 => by
    simp only [scanF]
    by_cases h : a < s.size
    · rw [if_pos h, if_pos h]
      by_cases he : (oneP s a).2.2 = 0
      · rw [if_neg (show ¬ ¬ (oneP s a).2.2 = 0 from fun k => k he), if_neg (show ¬ ¬ (oneP s a).2.2 = 0 from fun k => k he)]
        split
        · rfl
        · have := next_lt h he
          exact scanF_any s n m _ _ (by omega) (by omega)
      · rw [if_pos he, if_pos he]
    · rw [if_neg h, if_neg h]
theorem scanE_eq (s : ByteArray) (a : Nat) (l : List Tok) : scanE s a l = if a < s.size then (if ¬ (oneP s a).2.2 = 0 then ([], (a : Int), (oneP s a).2.2) else if 32 < (oneP s a).1.tx.size then ([], (a : Int), 21) else scanE s (skipE s (oneP s a).2.1.toNat) (l ++ [(oneP s a).1])) else (l, 0, 0) := by
  unfold scanE
  by_cases h : a < s.size
  · obtain ⟨n, hn⟩ : ∃ n, s.size - a = n + 1 := ⟨s.size - a - 1, by omega⟩
    rw [hn, if_pos h]
    simp only [scanF]
    rw [if_pos h]
    by_cases he : (oneP s a).2.2 = 0
    · rw [if_neg (show ¬ ¬ (oneP s a).2.2 = 0 from fun k => k he), if_neg (show ¬ ¬ (oneP s a).2.2 = 0 from fun k => k he)]
      split
      · rfl
      · have := next_lt h he
        exact scanF_any s _ _ _ _ (by omega) (by omega)
    · rw [if_pos he, if_pos he]
  · rw [show s.size - a = 0 by omega, if_neg h]
    rfl
def scanAll (s : ByteArray) : List Tok × Int × Int := if 16384 < s.size then ([], 0, 3) else scanE s (skipE s 0) []
theorem scan (s : ByteArray) (F : PH) : PFn Tryd.prog 16 [.string s] F
    (fun v F' => ∃ sl, v = .tuple #[sl, .int .i64 (scanAll s).2.1, .int .i64 (scanAll s).2.2] ∧ Toks F' sl (scanAll s).1 ∧ (scanAll s).1.length ≤ 16384 ∧ ∀ t ∈ (scanAll s).1, t.tx.size ≤ 32) := by
  refine Fn.intro (n := 46) (ts := [2, 3, 4]) Tryd.func16 rfl rfl rfl rfl (by simp) fun B hB => VC.go 100 ?_
  by_cases g : (s.size : Int) > 16384
  · have hA : scanAll s = ([], 0, 3) := by unfold scanAll; rw [if_pos (by omega)]
    rw [hA]
    simp only [push_cast, ↓reduceIte, Nat.reduceEqDiff, Nat.reduceAdd, Nat.reduceMul, Nat.reduceSub, Nat.reduceLT, Nat.reduceLeDiff, reduceCtorEq, Nat.reduceMod, Int.reduceEq, Int.reduceLT, Int.reduceLE, Int.reduceToNat, dite_true, eq_true g]
    exact RetOk.p rfl ⟨_, rfl, nil_sle _ _ _, by simp⟩
  have hs : s.size ≤ 16384 := by omega
  have hA : scanAll s = scanE s (skipE s 0) [] := by unfold scanAll; rw [if_neg (by omega)]
  rw [hA]
  simp only [push_cast, ↓reduceIte, Nat.reduceEqDiff, Nat.reduceAdd, Nat.reduceMul, Nat.reduceSub, Nat.reduceLT, Nat.reduceLeDiff, reduceCtorEq, Nat.reduceMod, Int.reduceEq, Int.reduceLT, Int.reduceLE, Int.reduceToNat, dite_true, g]
  refine CallV.pure (skip s 0 (Nat.zero_le _) hs F) ?_
  rintro _ F1 hF1 rfl
  have hj0 := (skipE_le s (i := 0) (by omega)).2
  obtain ⟨j0, hjd⟩ : ∃ j0, j0 = skipE s 0 := ⟨_, rfl⟩
  rw [← hjd] at hj0 ⊢
  simp only [push_cast, ↓reduceIte, Nat.reduceEqDiff, Nat.reduceAdd, Nat.reduceMul, Nat.reduceSub, Nat.reduceLT, Nat.reduceLeDiff, reduceCtorEq, Nat.reduceMod, Int.reduceEq, Int.reduceLT, Int.reduceLE, Int.reduceToNat, dite_true]
  refine VC.emp ?_
  refine VC.loopW (ι := Nat × Value × List Tok × PH × PH) (fun i => [(6, .v (.int .i64 i.1)), (5, .v i.2.1), (0, .v (.string s))]) (fun _ => []) (fun i => i.2.2.2.1) (fun i => [i.2.2.2.2]) (fun i => i.1 ≤ s.size ∧ scanE s i.1 i.2.2.1 = scanE s j0 [] ∧ i.2.2.1.length ≤ i.1 ∧ (∀ t ∈ i.2.2.1, t.tx.size ≤ 32) ∧ ∃ xs, Row i.2.2.2.2 99 4 i.2.1 xs ∧ Each RTok i.2.2.1 xs) (fun i => s.size - i.1) (j0, .slice none 0 0, [], F1, PH.emp) ⟨hj0, rfl, Nat.zero_le _, by simp, [], Row.nil _ _, rfl⟩ (by simp [subk, Eng.look]) (List.Sublist.refl _) rfl (subR_refl _) ?_
  rintro ⟨a, v5, l, F2, r⟩ ⟨ha, hsc, hl, hsz, xs, hr, hea⟩ G hG
  dsimp only at ha hsc hl hsz hr hea hG ⊢
  rw [scanE_eq] at hsc
  have hxl := Each.len RTok.len hea
  obtain ⟨p5, n5, c5, rfl⟩ := hr.val
  by_cases h : a < s.size
  case neg =>
    have h' : ¬ (a : Int) < (s.size : Int) := by omega
    refine VC.freezeR (List.Perm.refl _) fun F3 hF3 hrF => ?_
    refine VC.go 100 ?_
    simp only [push_cast, ↓reduceIte, Nat.reduceEqDiff, Nat.reduceAdd, Nat.reduceMul, Nat.reduceSub, Nat.reduceLT, Nat.reduceLeDiff, reduceCtorEq, Nat.reduceMod, Int.reduceEq, Int.reduceLT, Int.reduceLE, Int.reduceToNat, dite_true, h']
    rw [if_neg h] at hsc
    rw [← hsc]
    exact RetOk.p rfl ⟨_, rfl, row_sle (by decide) RTok.len hr hea hrF, by dsimp only; omega, hsz⟩
  have h' : (a : Int) < (s.size : Int) := by omega
  refine VC.go 100 ?_
  simp only [push_cast, ↓reduceIte, Nat.reduceEqDiff, Nat.reduceAdd, Nat.reduceMul, Nat.reduceSub, Nat.reduceLT, Nat.reduceLeDiff, reduceCtorEq, Nat.reduceMod, Int.reduceEq, Int.reduceLT, Int.reduceLE, Int.reduceToNat, dite_true, h']
  refine CallV.pure (one s a h hs F2) ?_
  rintro _ F3 hF3 rfl
  rw [if_pos h] at hsc
  have hnx := fun he => oneP_next (s := s) (a := a) h he
  obtain ⟨⟨t, nx, e⟩, hone⟩ : ∃ r, r = oneP s a := ⟨_, rfl⟩
  rw [← hone] at hsc hnx ⊢
  dsimp only at hsc hnx ⊢
  simp only [push_cast, ↓reduceIte, Nat.reduceEqDiff, Nat.reduceAdd, Nat.reduceMul, Nat.reduceSub, Nat.reduceLT, Nat.reduceLeDiff, reduceCtorEq, Nat.reduceMod, Int.reduceEq, Int.reduceLT, Int.reduceLE, Int.reduceToNat, dite_true]
  intro b7
  by_cases he : e = 0
  case neg =>
    rw [if_pos he] at hsc
    rw [← hsc]
    simp only [push_cast, ↓reduceIte, Nat.reduceEqDiff, Nat.reduceAdd, Nat.reduceMul, Nat.reduceSub, Nat.reduceLT, Nat.reduceLeDiff, reduceCtorEq, Nat.reduceMod, Int.reduceEq, Int.reduceLT, Int.reduceLE, Int.reduceToNat, dite_true, he]
    exact RetOk.p rfl ⟨_, rfl, nil_sle _ _ _, by simp⟩
  rw [if_neg (show ¬ ¬ e = 0 from fun k => k he)] at hsc
  obtain ⟨j, rfl, hj1, hj2⟩ := hnx he
  by_cases g3 : (t.tx.size : Int) > 32
  · rw [if_pos (by omega)] at hsc
    rw [← hsc]
    simp only [push_cast, ↓reduceIte, Nat.reduceEqDiff, Nat.reduceAdd, Nat.reduceMul, Nat.reduceSub, Nat.reduceLT, Nat.reduceLeDiff, reduceCtorEq, Nat.reduceMod, Int.reduceEq, Int.reduceLT, Int.reduceLE, Int.reduceToNat, dite_true, eq_true he, eq_true g3]
    exact RetOk.p rfl ⟨_, rfl, nil_sle _ _ _, by simp⟩
  rw [if_neg (by omega)] at hsc
  rw [Int.toNat_natCast] at hsc
  simp only [push_cast, ↓reduceIte, Nat.reduceEqDiff, Nat.reduceAdd, Nat.reduceMul, Nat.reduceSub, Nat.reduceLT, Nat.reduceLeDiff, reduceCtorEq, Nat.reduceMod, Int.reduceEq, Int.reduceLT, Int.reduceLE, Int.reduceToNat, dite_true, eq_true he, g3]
  intro b40 F4 hF4 hb40
  refine Eff.append (xs := xs) (ys := tokC t) rfl rfl rfl ty59 rfl ty99 rfl (by decide) rfl rfl (List.Perm.refl _) hr (Src.blk hb40 rfl) (by simp [Value.oneCell']) (by simp; omega) (by decide) ?_
  intro v' r' hr'
  obtain ⟨p6, n6, c6, rfl⟩ := hr'.val
  simp only [push_cast, ↓reduceIte, Nat.reduceEqDiff, Nat.reduceAdd, Nat.reduceMul, Nat.reduceSub, Nat.reduceLT, Nat.reduceLeDiff, reduceCtorEq, Nat.reduceMod, Int.reduceEq, Int.reduceLT, Int.reduceLE, Int.reduceToNat, dite_true]
  refine CallV.pure (skip s j hj2 hs F4) ?_
  rintro _ F5 hF5 rfl
  obtain ⟨hj5, hj6⟩ := skipE_le s hj2
  simp only [push_cast, ↓reduceIte, Nat.reduceEqDiff, Nat.reduceAdd, Nat.reduceMul, Nat.reduceSub, Nat.reduceLT, Nat.reduceLeDiff, reduceCtorEq, Nat.reduceMod, Int.reduceEq, Int.reduceLT, Int.reduceLE, Int.reduceToNat, dite_true]
  refine hG (skipE s j, _, l ++ [t], F5, r') _ ⟨hj6, hsc, by simp; omega, fun t' ht' => ?_, _, hr', each_snoc hea rfl⟩ (by simp; omega) (by simp [subk, Eng.look]) (List.nil_sublist _) rfl (subR_refl _)
  rcases List.mem_append.1 ht' with k | k
  · exact hsz t' k
  · rw [List.mem_singleton.1 k]; omega
end Go.Proofs.YtoepmdbicdoieaaDoor.X
