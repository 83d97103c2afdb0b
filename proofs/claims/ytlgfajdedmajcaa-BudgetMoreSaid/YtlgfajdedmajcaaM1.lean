import Derived.Test.YtlgfajdedmajcaaB3
namespace Go.Proofs.Ytlgfajdedmajcaa.V
open Go Go.Eng Go.Proofs Go.Proofs.Ytlgfajdedmajcaa.T
set_option linter.unusedSimpArgs false
set_option maxRecDepth 100000
theorem blk_bad {l g s nu : Int} (h : ¬ (blk l g s nu).2 = 0) : (blk l g s nu).1 = 0 := by
  unfold blk at h ⊢; split <;> (try split) <;> (try split) <;> simp_all
theorem blk_good {l g s nu : Int} (h : (blk l g s nu).2 = 0) : ¬ spc g s = 0 ∧ 0 ≤ l ∧ l ≤ 524288 ∧ 1 ≤ nu ∧ nu ≤ 4096 ∧ (blk l g s nu).1 = 16 * ((l + 63) / 64) + 16 * nu + 40 * spc g s + 2 := by
  unfold blk at h ⊢
  split at h
  · exact absurd h (by decide)
  split at h
  · exact absurd h (by decide)
  split at h
  · exact absurd h (by decide)
  rename_i h1 h2 h3
  rw [if_neg h1, if_neg h2, if_neg h3]
  exact ⟨by omega, by omega, by omega, by omega, by omega, rfl⟩
theorem spc_ok {g s : Int} (h : ¬ spc g s = 0) : 1 ≤ g ∧ g ≤ 4 ∧ 1 ≤ s ∧ s ≤ 3 ∧ spc g s = (g - 1) * s + 1 := by
  unfold spc at h ⊢
  split at h
  · rename_i h'; rw [if_pos h']; exact ⟨h'.1, h'.2.1, h'.2.2.1, h'.2.2.2, rfl⟩
  · exact absurd rfl h
theorem more_live {l g s nu m : Int} (h0 : 0 ≤ m) (h : (blk l g s nu).2 = 0) (h' : (blk (l + m) g s nu).2 = 0) : (blk l g s nu).1 ≤ (blk (l + m) g s nu).1 := by
  have a := blk_good h; have b := blk_good h'; omega
theorem more_nursery {l g s nu : Int} (h : (blk l g s nu).2 = 0) (h' : (blk l g s (nu + 1)).2 = 0) : (blk l g s nu).1 < (blk l g s (nu + 1)).1 := by
  have a := blk_good h; have b := blk_good h'; omega
theorem more_gens {l g s nu : Int} (h : (blk l g s nu).2 = 0) (h' : (blk l (g + 1) s nu).2 = 0) : (blk l g s nu).1 < (blk l (g + 1) s nu).1 := by
  have a := blk_good h; have b := blk_good h'
  have c := spc_ok a.1; have d := spc_ok b.1
  have e : (g + 1 - 1) * s = (g - 1) * s + s := by rw [show g + 1 - 1 = (g - 1) + 1 from by omega, Int.add_mul]; omega
  omega
theorem more_steps {l g s nu : Int} (h : (blk l g s nu).2 = 0) (h' : (blk l g (s + 1) nu).2 = 0) : (blk l g s nu).1 ≤ (blk l g (s + 1) nu).1 := by
  have a := blk_good h; have b := blk_good h'
  have c := spc_ok a.1; have d := spc_ok b.1
  have e : (g - 1) * (s + 1) = (g - 1) * s + (g - 1) := by rw [Int.mul_add]; omega
  omega
set_option maxHeartbeats 2000000 in
theorem law_more (F : PH) (l g s b nu ho m : Int) (hl : -9223372036854775808 ≤ l ∧ l ≤ 9223372036854775807) (hm : 0 ≤ m ∧ m ≤ 255) : PFn Try.prog 5 [.int .i64 l, cfg g s b nu ho, .int .u8 m] F (fun v _ => v = .bool true) := by
  refine Fn.intro (n := 113) (ts := [6]) Try.func5 rfl rfl rfl rfl (by simp) fun B hB => VC.go 100 ?_
  simp only [push_cast, ↓reduceIte, Nat.reduceEqDiff, Nat.reduceAdd, Nat.reduceMul, Nat.reduceSub, Nat.reduceLT, Nat.reduceLeDiff, reduceCtorEq, Nat.reduceMod, Int.reduceEq, Int.reduceLT, Int.reduceLE, Int.reduceToNat, dite_true]
  intro bb
  refine CallV.pure (blocks F l g s b nu ho hl) ?_
  rintro _ F1 hF1 rfl
  simp only [push_cast, ↓reduceIte, Nat.reduceEqDiff, Nat.reduceAdd, Nat.reduceMul, Nat.reduceSub, Nat.reduceLT, Nat.reduceLeDiff, reduceCtorEq, Nat.reduceMod, Int.reduceEq, Int.reduceLT, Int.reduceLE, Int.reduceToNat, dite_true]
  refine CallV.pure (awake22 F1) ?_
  rintro _ F2 hF2 rfl
  by_cases h0 : (blk l g s nu).2 = 0
  case neg =>
    simp only [push_cast, ↓reduceIte, Nat.reduceEqDiff, Nat.reduceAdd, Nat.reduceMul, Nat.reduceSub, Nat.reduceLT, Nat.reduceLeDiff, reduceCtorEq, Nat.reduceMod, Int.reduceEq, Int.reduceLT, Int.reduceLE, Int.reduceToNat, dite_true, h0]
    refine CallV.pure (awake22 F2) ?_
    rintro _ F3 hF3 rfl
    simp only [push_cast, ↓reduceIte, Nat.reduceEqDiff, Nat.reduceAdd, Nat.reduceMul, Nat.reduceSub, Nat.reduceLT, Nat.reduceLeDiff, reduceCtorEq, Nat.reduceMod, Int.reduceEq, Int.reduceLT, Int.reduceLE, Int.reduceToNat, dite_true, blk_bad h0]
    exact RetOk.p rfl rfl
  have good := blk_good h0
  have gsp := spc_ok good.1
  simp only [push_cast, ↓reduceIte, Nat.reduceEqDiff, Nat.reduceAdd, Nat.reduceMul, Nat.reduceSub, Nat.reduceLT, Nat.reduceLeDiff, reduceCtorEq, Nat.reduceMod, Int.reduceEq, Int.reduceLT, Int.reduceLE, Int.reduceToNat, dite_true, h0, w64 m (by omega), w64 (l + m) (by omega)]
  refine CallV.pure (blocks F2 (l + m) g s b nu ho (by omega)) ?_
  rintro _ F3 hF3 rfl
  simp only [push_cast, ↓reduceIte, Nat.reduceEqDiff, Nat.reduceAdd, Nat.reduceMul, Nat.reduceSub, Nat.reduceLT, Nat.reduceLeDiff, reduceCtorEq, Nat.reduceMod, Int.reduceEq, Int.reduceLT, Int.reduceLE, Int.reduceToNat, dite_true]
  refine VC.drawT (fun S => ∃ (i1 i2 i3 b1 b2 b3 nx : Nat), i1 ≠ 0 ∧ i2 ≠ 0 ∧ i3 ≠ 0 ∧ i1 ≠ i2 ∧ i1 ≠ i3 ∧ i2 ≠ i3 ∧ S.F = F3 ∧ subk S.L [(11, .o i1 b1 0), (12, .o i2 b2 0), (13, .o i3 b3 0), (10, .v (.int .i64 (blk (l + m) g s nu).2)), (9, .v (.int .i64 (blk (l + m) g s nu).1)), (7, .v (.int .i64 (blk l g s nu).1)), (0, .v (.int .i64 l))] ∧ S.R = [] ∧ S.nx = nx ∧ S.M.Perm [⟨i1, b1, 23, [.int .i64 g, .int .i64 s, .int .i64 b, .int .i64 nu, .int .i64 ho]⟩, ⟨i2, b2, 23, [.int .i64 g, .int .i64 s, .int .i64 b, .int .i64 nu, .int .i64 ho]⟩, ⟨i3, b3, 23, [.int .i64 g, .int .i64 s, .int .i64 b, .int .i64 nu, .int .i64 ho]⟩, ⟨0, bb, 23, [.int .i64 g, .int .i64 s, .int .i64 b, .int .i64 nu, .int .i64 ho]⟩]) (.q 0 (.q 1 (.q 2 (.e3 3 (.e2 4 (.e 5 (.es 6 [1, 2] (.es 7 [2] (.e 8 (.done))))) 5 (.e 4 (.es 6 [1, 2] (.es 7 [2] (.e 8 (.done)))))) 4 (.e2 3 (.e 5 (.es 6 [1, 2] (.es 7 [2] (.e 8 (.done))))) 5 (.e 3 (.es 6 [1, 2] (.es 7 [2] (.e 8 (.done)))))) 5 (.e2 3 (.e 4 (.es 6 [1, 2] (.es 7 [2] (.e 8 (.done))))) 4 (.e 3 (.es 6 [1, 2] (.es 7 [2] (.e 8 (.done)))))))))) mixed (by rfl) ?_ ?_
  · simp only [push_cast, ↓reduceIte, Nat.reduceEqDiff, Nat.reduceAdd, Nat.reduceMul, Nat.reduceSub, Nat.reduceLT, Nat.reduceLeDiff, reduceCtorEq, Nat.reduceMod, Int.reduceEq, Int.reduceLT, Int.reduceLE, Int.reduceToNat, dite_true]
    refine ⟨fun x1 => ⟨fun x2 x3 => ?_, fun x2 x3 => ?_⟩, fun x1 => ⟨fun x2 x3 => ?_, fun x2 x3 => ?_⟩, fun x1 => ⟨fun x2 x3 => ?_, fun x2 x3 => ?_⟩⟩
    · exact ⟨1, 2, 3, x1, x2, x3, _, by decide, by decide, by decide, by decide, by decide, by decide, by simp [subk, Eng.look], rfl, (List.perm_append_comm (l₁ := [_]) (l₂ := [_, _, _])).trans (List.Perm.append_right [_] (.refl _))⟩
    · exact ⟨1, 3, 2, x1, x3, x2, _, by decide, by decide, by decide, by decide, by decide, by decide, by simp [subk, Eng.look], rfl, (List.perm_append_comm (l₁ := [_]) (l₂ := [_, _, _])).trans (List.Perm.append_right [_] (.cons _ (.swap _ _ _)))⟩
    · exact ⟨2, 1, 3, x2, x1, x3, _, by decide, by decide, by decide, by decide, by decide, by decide, by simp [subk, Eng.look], rfl, (List.perm_append_comm (l₁ := [_]) (l₂ := [_, _, _])).trans (List.Perm.append_right [_] (.swap _ _ _))⟩
    · exact ⟨3, 1, 2, x3, x1, x2, _, by decide, by decide, by decide, by decide, by decide, by decide, by simp [subk, Eng.look], rfl, (List.perm_append_comm (l₁ := [_]) (l₂ := [_, _, _])).trans (List.Perm.append_right [_] ((List.Perm.cons _ (.swap _ _ _)).trans (.swap _ _ _)))⟩
    · exact ⟨2, 3, 1, x2, x3, x1, _, by decide, by decide, by decide, by decide, by decide, by decide, by simp [subk, Eng.look], rfl, (List.perm_append_comm (l₁ := [_]) (l₂ := [_, _, _])).trans (List.Perm.append_right [_] ((List.Perm.swap _ _ _).trans (.cons _ (.swap _ _ _))))⟩
    · exact ⟨3, 2, 1, x3, x2, x1, _, by decide, by decide, by decide, by decide, by decide, by decide, by simp [subk, Eng.look], rfl, (List.perm_append_comm (l₁ := [_]) (l₂ := [_, _, _])).trans (List.Perm.append_right [_] (((List.Perm.swap _ _ _).trans (.cons _ (.swap _ _ _))).trans (.swap _ _ _)))⟩
  rintro S ⟨i1, i2, i3, b1, b2, b3, nx, h1, h2, h3, h4, h5, h6, hF, hL, hR, hn, hM⟩
  obtain ⟨L, M, F', R', nx'⟩ := S
  subst hF hR hn
  refine VC.permM hM (VC.weaken (S' := ⟨_, _, _, _, 0⟩) ⟨subk_le hL, List.Sublist.refl _, rfl, List.Sublist.refl _⟩ ?_)
  refine VC.go 100 ?_
  simp only [push_cast, ↓reduceIte, Nat.reduceEqDiff, Nat.reduceAdd, Nat.reduceMul, Nat.reduceSub, Nat.reduceLT, Nat.reduceLeDiff, reduceCtorEq, Nat.reduceMod, Int.reduceEq, Int.reduceLT, Int.reduceLE, Int.reduceToNat, dite_true, h1, h2, h3, h4, h5, h6, h4.symm, h5.symm, h6.symm, w64 (nu + 1) (by omega), w64 (g + 1) (by omega), w64 (s + 1) (by omega)]
  refine CallV.pure (blocks _ l g s b (nu + 1) ho hl) ?_
  rintro _ F4 hF4 rfl
  simp only [push_cast, ↓reduceIte, Nat.reduceEqDiff, Nat.reduceAdd, Nat.reduceMul, Nat.reduceSub, Nat.reduceLT, Nat.reduceLeDiff, reduceCtorEq, Nat.reduceMod, Int.reduceEq, Int.reduceLT, Int.reduceLE, Int.reduceToNat, dite_true, h1, h2, h3, h4, h5, h6, h4.symm, h5.symm, h6.symm]
  refine CallV.pure (blocks _ l (g + 1) s b nu ho hl) ?_
  rintro _ F5 hF5 rfl
  simp only [push_cast, ↓reduceIte, Nat.reduceEqDiff, Nat.reduceAdd, Nat.reduceMul, Nat.reduceSub, Nat.reduceLT, Nat.reduceLeDiff, reduceCtorEq, Nat.reduceMod, Int.reduceEq, Int.reduceLT, Int.reduceLE, Int.reduceToNat, dite_true, h1, h2, h3, h4, h5, h6, h4.symm, h5.symm, h6.symm]
  refine CallV.pure (blocks _ l g (s + 1) b nu ho hl) ?_
  rintro _ F6 hF6 rfl
  have ta := more_live (m := m) hm.1 h0
  have tb := more_nursery h0
  have tc := more_gens h0
  have td := more_steps h0
  generalize blk (l + m) g s nu = pa at *
  generalize blk l g s (nu + 1) = pb at *
  generalize blk l (g + 1) s nu = pc at *
  generalize blk l g (s + 1) nu = pd at *
  clear good gsp hL hM hF1 hF2 hF4 hF5 hF6
  by_cases ka : pa.2 = 0 <;> by_cases kb : pb.2 = 0 <;> by_cases kc : pc.2 = 0 <;> by_cases kd : pd.2 = 0
  all_goals
    simp only [push_cast, ↓reduceIte, Nat.reduceEqDiff, Nat.reduceAdd, Nat.reduceMul, Nat.reduceSub, Nat.reduceLT, Nat.reduceLeDiff, reduceCtorEq, Nat.reduceMod, Int.reduceEq, Int.reduceLT, Int.reduceLE, Int.reduceToNat, dite_true, ka, kb, kc, kd, ta, tb, tc, td]
    exact RetOk.p rfl rfl
end Go.Proofs.Ytlgfajdedmajcaa.V
