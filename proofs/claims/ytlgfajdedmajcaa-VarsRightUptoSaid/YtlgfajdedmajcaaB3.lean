import Derived.Test.YtlgfajdedmajcaaB2
namespace Go.Proofs.Ytlgfajdedmajcaa.V
open Go Go.Eng Go.Proofs Go.Proofs.Ytlgfajdedmajcaa.T
set_option linter.unusedSimpArgs false
set_option maxRecDepth 100000
theorem mixed : Try.prog.follows .mixedOrders = true := by kernel_rfl
abbrev n64 : (64 : Int) = 0 ↔ False := by decide
theorem blk_nn {l g s nu : Int} (h1 : ¬ spc g s = 0) (h2 : ¬ l < 0) (h3 : ¬ nu < 1) (h4 : ¬ 4096 < nu) : blk l g s nu = if 524288 < l then (0, 3) else if 4096 < 16 * ((l + 63) / 64) + 16 * nu + 40 * spc g s + 2 then (0, 3) else (16 * ((l + 63) / 64) + 16 * nu + 40 * spc g s + 2, 0) := by
  unfold blk; rw [if_neg (by omega)]
theorem refblocks (F : PH) (l g s b nu ho : Int) (hl : -9223372036854775808 ≤ l ∧ l ≤ 9223372036854775807) : PFn Try.prog 10 [.int .i64 l, cfg g s b nu ho] F (fun v _ => v = two (blk l g s nu)) := by
  refine Fn.intro (n := 60) (ts := [4, 5]) Try.func10 rfl rfl rfl rfl (by simp) fun B hB => VC.go 100 ?_
  simp only [push_cast, ↓reduceIte, Nat.reduceEqDiff, Nat.reduceAdd, Nat.reduceMul, Nat.reduceSub, Nat.reduceLT, Nat.reduceLeDiff, reduceCtorEq, Nat.reduceMod, Int.reduceEq, Int.reduceLT, Int.reduceLE, Int.reduceToNat, dite_true]
  intro bb
  refine CallV.pure (refspaces F g s b nu ho) ?_
  rintro _ F1 hF1 rfl
  have hsp := spc_bd g s
  by_cases h1 : spc g s = 0
  · simp only [push_cast, ↓reduceIte, Nat.reduceEqDiff, Nat.reduceAdd, Nat.reduceMul, Nat.reduceSub, Nat.reduceLT, Nat.reduceLeDiff, reduceCtorEq, Nat.reduceMod, Int.reduceEq, Int.reduceLT, Int.reduceLE, Int.reduceToNat, dite_true, h1]; exact RetOk.p rfl (by unfold blk; rw [if_pos (.inl h1)]; rfl)
  by_cases h2 : l < 0
  · simp only [push_cast, ↓reduceIte, Nat.reduceEqDiff, Nat.reduceAdd, Nat.reduceMul, Nat.reduceSub, Nat.reduceLT, Nat.reduceLeDiff, reduceCtorEq, Nat.reduceMod, Int.reduceEq, Int.reduceLT, Int.reduceLE, Int.reduceToNat, dite_true, h1, h2]; exact RetOk.p rfl (by unfold blk; rw [if_pos (.inr (.inl h2))]; rfl)
  by_cases h3 : nu < 1
  · simp only [push_cast, ↓reduceIte, Nat.reduceEqDiff, Nat.reduceAdd, Nat.reduceMul, Nat.reduceSub, Nat.reduceLT, Nat.reduceLeDiff, reduceCtorEq, Nat.reduceMod, Int.reduceEq, Int.reduceLT, Int.reduceLE, Int.reduceToNat, dite_true, h1, h2, h3]; exact RetOk.p rfl (by unfold blk; rw [if_pos (.inr (.inr (.inl h3)))]; rfl)
  by_cases h4 : 4096 < nu
  · simp only [push_cast, ↓reduceIte, Nat.reduceEqDiff, Nat.reduceAdd, Nat.reduceMul, Nat.reduceSub, Nat.reduceLT, Nat.reduceLeDiff, reduceCtorEq, Nat.reduceMod, Int.reduceEq, Int.reduceLT, Int.reduceLE, Int.reduceToNat, dite_true, h1, h2, h3, h4]; exact RetOk.p rfl (by unfold blk; rw [if_pos (.inr (.inr (.inr h4)))]; rfl)
  have hb := blk_nn h1 h2 h3 h4
  have hq : l.tdiv 64 = l / 64 := Int.tdiv_eq_ediv_of_nonneg (by omega)
  have hr : l.tmod 64 = l % 64 := Int.tmod_eq_emod_of_nonneg (by omega)
  have e1 : IntKind.i64.wrap (l / 64) = l / 64 := w64 _ (by omega)
  have e2 : IntKind.i64.wrap (IntKind.i64.wrap (IntKind.i64.wrap (4096 - IntKind.i64.wrap (16 * nu)) - IntKind.i64.wrap (40 * spc g s)) - 2) = 4096 - 16 * nu - 40 * spc g s - 2 := by
    rw [w64 (16 * nu) (by omega), w64 (4096 - 16 * nu) (by omega), w64 (40 * spc g s) (by omega), w64 (4096 - 16 * nu - 40 * spc g s) (by omega), w64 _ (by omega)]
  have e3 : ∀ f : Int, 0 ≤ f → f ≤ 256 → IntKind.i64.wrap (IntKind.i64.wrap (IntKind.i64.wrap (IntKind.i64.wrap (16 * f) + IntKind.i64.wrap (16 * nu)) + IntKind.i64.wrap (40 * spc g s)) + 2) = 16 * f + 16 * nu + 40 * spc g s + 2 := by
    intro f h0 h1
    rw [w64 (16 * f) (by omega), w64 (16 * nu) (by omega), w64 (16 * f + 16 * nu) (by omega), w64 (40 * spc g s) (by omega), w64 (16 * f + 16 * nu + 40 * spc g s) (by omega), w64 _ (by omega)]
  have e4 : IntKind.i64.wrap (l / 64 + 1) = l / 64 + 1 := w64 _ (by omega)
  have hd : ¬ 4096 - 16 * nu - 40 * spc g s - 2 < 0 → (4096 - 16 * nu - 40 * spc g s - 2).tdiv 16 = (4096 - 16 * nu - 40 * spc g s - 2) / 16 := fun h => Int.tdiv_eq_ediv_of_nonneg (by omega)
  obtain ⟨f, hf⟩ : ∃ f, f = (l + 63) / 64 := ⟨_, rfl⟩
  rw [← hf] at hb
  have e5 : IntKind.i64.wrap f = f := w64 _ (by omega)
  have hf0 : 0 ≤ f := by omega
  by_cases h7 : 0 < l % 64
  all_goals
    first
    | (have h8 : 0 < l % 64 := h7
       simp only [push_cast, ↓reduceIte, Nat.reduceEqDiff, Nat.reduceAdd, Nat.reduceMul, Nat.reduceSub, Nat.reduceLT, Nat.reduceLeDiff, reduceCtorEq, Nat.reduceMod, Int.reduceEq, Int.reduceLT, Int.reduceLE, Int.reduceToNat, dite_true, h1, h2, h3, h4, hq, hr, e1, e4, h7, show l / 64 + 1 = f from by omega, e5])
    | (have h8 : ¬ 0 < l % 64 := h7
       simp only [push_cast, ↓reduceIte, Nat.reduceEqDiff, Nat.reduceAdd, Nat.reduceMul, Nat.reduceSub, Nat.reduceLT, Nat.reduceLeDiff, reduceCtorEq, Nat.reduceMod, Int.reduceEq, Int.reduceLT, Int.reduceLE, Int.reduceToNat, dite_true, h1, h2, h3, h4, hq, hr, e1, h7, show l / 64 = f from by omega, e5])
    clear h7
    refine VC.draw (.q 0 (.q 1 (.q 2 (.q 3 (.q 4 (.e 5 (.q 6 (.q 7 (.q 8 (.q 9 (.done))))))))))) mixed (by rfl) ?_
    simp only [push_cast, ↓reduceIte, Nat.reduceEqDiff, Nat.reduceAdd, Nat.reduceMul, Nat.reduceSub, Nat.reduceLT, Nat.reduceLeDiff, reduceCtorEq, Nat.reduceMod, Int.reduceEq, Int.reduceLT, Int.reduceLE, Int.reduceToNat, dite_true]
    refine CallV.pure (refspaces F1 g s b nu ho) ?_
    rintro _ F2 hF2 rfl
    simp only [push_cast, ↓reduceIte, Nat.reduceEqDiff, Nat.reduceAdd, Nat.reduceMul, Nat.reduceSub, Nat.reduceLT, Nat.reduceLeDiff, reduceCtorEq, Nat.reduceMod, Int.reduceEq, Int.reduceLT, Int.reduceLE, Int.reduceToNat, dite_true, e2]
    refine VC.go 100 ?_
    by_cases h8 : 4096 - 16 * nu - 40 * spc g s - 2 < 0
    · simp only [push_cast, ↓reduceIte, Nat.reduceEqDiff, Nat.reduceAdd, Nat.reduceMul, Nat.reduceSub, Nat.reduceLT, Nat.reduceLeDiff, reduceCtorEq, Nat.reduceMod, Int.reduceEq, Int.reduceLT, Int.reduceLE, Int.reduceToNat, dite_true, h8]
      exact RetOk.p rfl (by
        rw [hb]
        by_cases h9 : 524288 < l
        · rw [if_pos h9]; rfl
        · rw [if_neg h9, if_pos (by omega)]; rfl)
    · have hd' := hd h8
      have e6 : IntKind.i64.wrap ((4096 - 16 * nu - 40 * spc g s - 2) / 16) = (4096 - 16 * nu - 40 * spc g s - 2) / 16 := w64 _ (by omega)
      by_cases h9 : (4096 - 16 * nu - 40 * spc g s - 2) / 16 < f
      · simp only [push_cast, ↓reduceIte, Nat.reduceEqDiff, Nat.reduceAdd, Nat.reduceMul, Nat.reduceSub, Nat.reduceLT, Nat.reduceLeDiff, reduceCtorEq, Nat.reduceMod, Int.reduceEq, Int.reduceLT, Int.reduceLE, Int.reduceToNat, dite_true, h8, hd', e6, h9]
        exact RetOk.p rfl (by
          rw [hb]
          by_cases h10 : 524288 < l
          · rw [if_pos h10]; rfl
          · rw [if_neg h10, if_pos (by omega)]; rfl)
      · simp only [push_cast, ↓reduceIte, Nat.reduceEqDiff, Nat.reduceAdd, Nat.reduceMul, Nat.reduceSub, Nat.reduceLT, Nat.reduceLeDiff, reduceCtorEq, Nat.reduceMod, Int.reduceEq, Int.reduceLT, Int.reduceLE, Int.reduceToNat, dite_true, h8, hd', e6, h9]
        refine VC.draw (.q 0 (.q 1 (.q 2 (.q 3 (.q 4 (.q 5 (.q 6 (.e 7 (.q 8 (.q 9 (.q 10 (.q 11 (.q 12 (.done)))))))))))))) mixed (by rfl) ?_
        simp only [push_cast, ↓reduceIte, Nat.reduceEqDiff, Nat.reduceAdd, Nat.reduceMul, Nat.reduceSub, Nat.reduceLT, Nat.reduceLeDiff, reduceCtorEq, Nat.reduceMod, Int.reduceEq, Int.reduceLT, Int.reduceLE, Int.reduceToNat, dite_true]
        refine CallV.pure (refspaces F2 g s b nu ho) ?_
        rintro _ F3 hF3 rfl
        simp only [push_cast, ↓reduceIte, Nat.reduceEqDiff, Nat.reduceAdd, Nat.reduceMul, Nat.reduceSub, Nat.reduceLT, Nat.reduceLeDiff, reduceCtorEq, Nat.reduceMod, Int.reduceEq, Int.reduceLT, Int.reduceLE, Int.reduceToNat, dite_true, e3 f hf0 (by omega)]
        refine VC.go 100 ?_
        simp only [push_cast, ↓reduceIte, Nat.reduceEqDiff, Nat.reduceAdd, Nat.reduceMul, Nat.reduceSub, Nat.reduceLT, Nat.reduceLeDiff, reduceCtorEq, Nat.reduceMod, Int.reduceEq, Int.reduceLT, Int.reduceLE, Int.reduceToNat, dite_true]
        exact RetOk.p rfl (by rw [hb, if_neg (by omega), if_neg (by omega)]; rfl)
def fue (a b : Int) : Int × Int := if a < 0 ∨ b < 0 then (0, 2) else if 1048576 < a ∨ 1048576 < b ∨ 1048576 < 20 * a + 4000 * b then (0, 3) else (20 * a + 4000 * b, 0)
theorem fuel (F : PH) (a b : Int) : PFn Try.prog 14 [.int .i64 a, .int .i64 b] F (fun v _ => v = two (fue a b)) := by
  refine Fn.intro (n := 31) (ts := [4, 5]) Try.func14 rfl rfl rfl rfl (by simp) fun B hB => VC.go 100 ?_
  by_cases h1 : a < 0
  · simp only [push_cast, ↓reduceIte, Nat.reduceEqDiff, Nat.reduceAdd, Nat.reduceMul, Nat.reduceSub, Nat.reduceLT, Nat.reduceLeDiff, reduceCtorEq, Nat.reduceMod, Int.reduceEq, Int.reduceLT, Int.reduceLE, Int.reduceToNat, dite_true, h1]; exact RetOk.p rfl (by unfold fue; rw [if_pos (.inl h1)]; rfl)
  by_cases h2 : b < 0
  · simp only [push_cast, ↓reduceIte, Nat.reduceEqDiff, Nat.reduceAdd, Nat.reduceMul, Nat.reduceSub, Nat.reduceLT, Nat.reduceLeDiff, reduceCtorEq, Nat.reduceMod, Int.reduceEq, Int.reduceLT, Int.reduceLE, Int.reduceToNat, dite_true, h1, h2]; exact RetOk.p rfl (by unfold fue; rw [if_pos (.inr h2)]; rfl)
  have hn : fue a b = if 1048576 < a ∨ 1048576 < b ∨ 1048576 < 20 * a + 4000 * b then (0, 3) else (20 * a + 4000 * b, 0) := by unfold fue; rw [if_neg (by omega)]
  by_cases h3 : 1048576 < a
  · simp only [push_cast, ↓reduceIte, Nat.reduceEqDiff, Nat.reduceAdd, Nat.reduceMul, Nat.reduceSub, Nat.reduceLT, Nat.reduceLeDiff, reduceCtorEq, Nat.reduceMod, Int.reduceEq, Int.reduceLT, Int.reduceLE, Int.reduceToNat, dite_true, h1, h2, h3]; exact RetOk.p rfl (by rw [hn, if_pos (.inl h3)]; rfl)
  by_cases h4 : 1048576 < b
  · simp only [push_cast, ↓reduceIte, Nat.reduceEqDiff, Nat.reduceAdd, Nat.reduceMul, Nat.reduceSub, Nat.reduceLT, Nat.reduceLeDiff, reduceCtorEq, Nat.reduceMod, Int.reduceEq, Int.reduceLT, Int.reduceLE, Int.reduceToNat, dite_true, h1, h2, h3, h4]; exact RetOk.p rfl (by rw [hn, if_pos (.inr (.inl h4))]; rfl)
  have e : IntKind.i64.wrap (IntKind.i64.wrap (20 * a) + IntKind.i64.wrap (4000 * b)) = 20 * a + 4000 * b := by
    rw [w64 (20 * a) (by omega), w64 (4000 * b) (by omega), w64 _ (by omega)]
  by_cases h5 : 1048576 < 20 * a + 4000 * b
  · simp only [push_cast, ↓reduceIte, Nat.reduceEqDiff, Nat.reduceAdd, Nat.reduceMul, Nat.reduceSub, Nat.reduceLT, Nat.reduceLeDiff, reduceCtorEq, Nat.reduceMod, Int.reduceEq, Int.reduceLT, Int.reduceLE, Int.reduceToNat, dite_true, h1, h2, h3, h4, e, h5]; exact RetOk.p rfl (by rw [hn, if_pos (.inr (.inr h5))]; rfl)
  · simp only [push_cast, ↓reduceIte, Nat.reduceEqDiff, Nat.reduceAdd, Nat.reduceMul, Nat.reduceSub, Nat.reduceLT, Nat.reduceLeDiff, reduceCtorEq, Nat.reduceMod, Int.reduceEq, Int.reduceLT, Int.reduceLE, Int.reduceToNat, dite_true, h1, h2, h3, h4, e, h5]; exact RetOk.p rfl (by rw [hn, if_neg (by omega)]; rfl)
theorem awake22 (F : PH) : PFn Try.prog 11 [] F (fun v _ => v = .bool true) := by
  refine Fn.intro (n := 33) (ts := [0]) Try.func11 rfl rfl rfl rfl (by simp) fun B hB => VC.go 100 ?_
  simp only [push_cast, ↓reduceIte, Nat.reduceEqDiff, Nat.reduceAdd, Nat.reduceMul, Nat.reduceSub, Nat.reduceLT, Nat.reduceLeDiff, reduceCtorEq, Nat.reduceMod, Int.reduceEq, Int.reduceLT, Int.reduceLE, Int.reduceToNat, dite_true]
  refine CallV.pure (blocks F 65 1 1 0 1 0 (by omega)) ?_
  rintro _ F1 hF1 rfl
  simp only [push_cast, ↓reduceIte, Nat.reduceEqDiff, Nat.reduceAdd, Nat.reduceMul, Nat.reduceSub, Nat.reduceLT, Nat.reduceLeDiff, reduceCtorEq, Nat.reduceMod, Int.reduceEq, Int.reduceLT, Int.reduceLE, Int.reduceToNat, dite_true, show blk 65 1 1 1 = (90, 0) from by decide]
  refine CallV.pure (fuel F1 10 1) ?_
  rintro _ F2 hF2 rfl
  simp only [push_cast, ↓reduceIte, Nat.reduceEqDiff, Nat.reduceAdd, Nat.reduceMul, Nat.reduceSub, Nat.reduceLT, Nat.reduceLeDiff, reduceCtorEq, Nat.reduceMod, Int.reduceEq, Int.reduceLT, Int.reduceLE, Int.reduceToNat, dite_true, show fue 10 1 = (4200, 0) from by decide]
  refine CallV.pure (spaces F2 3 2 0 0 0) ?_
  rintro _ F3 hF3 rfl
  simp only [push_cast, ↓reduceIte, Nat.reduceEqDiff, Nat.reduceAdd, Nat.reduceMul, Nat.reduceSub, Nat.reduceLT, Nat.reduceLeDiff, reduceCtorEq, Nat.reduceMod, Int.reduceEq, Int.reduceLT, Int.reduceLE, Int.reduceToNat, dite_true, show spc 3 2 = 5 from by decide]
  exact RetOk.p rfl rfl
theorem law_blocks (F : PH) (l g s b nu ho : Int) (hl : -9223372036854775808 ≤ l ∧ l ≤ 9223372036854775807) : PFn Try.prog 3 [.int .i64 l, cfg g s b nu ho] F (fun v _ => v = .bool true) := by
  refine Fn.intro (n := 39) (ts := [4]) Try.func3 rfl rfl rfl rfl (by simp) fun B hB => VC.go 100 ?_
  simp only [push_cast, ↓reduceIte, Nat.reduceEqDiff, Nat.reduceAdd, Nat.reduceMul, Nat.reduceSub, Nat.reduceLT, Nat.reduceLeDiff, reduceCtorEq, Nat.reduceMod, Int.reduceEq, Int.reduceLT, Int.reduceLE, Int.reduceToNat, dite_true]
  intro bb
  refine CallV.pure (blocks F l g s b nu ho hl) ?_
  rintro _ F1 hF1 rfl
  simp only [push_cast, ↓reduceIte, Nat.reduceEqDiff, Nat.reduceAdd, Nat.reduceMul, Nat.reduceSub, Nat.reduceLT, Nat.reduceLeDiff, reduceCtorEq, Nat.reduceMod, Int.reduceEq, Int.reduceLT, Int.reduceLE, Int.reduceToNat, dite_true]
  refine CallV.pure (refblocks F1 l g s b nu ho hl) ?_
  rintro _ F2 hF2 rfl
  simp only [push_cast, ↓reduceIte, Nat.reduceEqDiff, Nat.reduceAdd, Nat.reduceMul, Nat.reduceSub, Nat.reduceLT, Nat.reduceLeDiff, reduceCtorEq, Nat.reduceMod, Int.reduceEq, Int.reduceLT, Int.reduceLE, Int.reduceToNat, dite_true]
  refine VC.draw (.e 0 (.q 1 (.q 2 (.q 3 (.q 4 (.q 5 (.q 6 (.q 7 (.q 8 (.q 9 (.q 10 (.q 11 (.q 12 (.q 14 (.e 13 (.e 15 (.q 16 (.q 17 (.q 18 (.done)))))))))))))))))))) mixed (by rfl) ?_
  simp only [push_cast, ↓reduceIte, Nat.reduceEqDiff, Nat.reduceAdd, Nat.reduceMul, Nat.reduceSub, Nat.reduceLT, Nat.reduceLeDiff, reduceCtorEq, Nat.reduceMod, Int.reduceEq, Int.reduceLT, Int.reduceLE, Int.reduceToNat, dite_true]
  refine CallV.pure (awake22 F2) ?_
  rintro _ F3 hF3 rfl
  simp only [push_cast, ↓reduceIte, Nat.reduceEqDiff, Nat.reduceAdd, Nat.reduceMul, Nat.reduceSub, Nat.reduceLT, Nat.reduceLeDiff, reduceCtorEq, Nat.reduceMod, Int.reduceEq, Int.reduceLT, Int.reduceLE, Int.reduceToNat, dite_true]
  refine CallV.pure (spaces F3 g s b nu ho) ?_
  rintro _ F4 hF4 rfl
  simp only [push_cast, ↓reduceIte, Nat.reduceEqDiff, Nat.reduceAdd, Nat.reduceMul, Nat.reduceSub, Nat.reduceLT, Nat.reduceLeDiff, reduceCtorEq, Nat.reduceMod, Int.reduceEq, Int.reduceLT, Int.reduceLE, Int.reduceToNat, dite_true]
  refine CallV.pure (refspaces F4 g s b nu ho) ?_
  rintro _ F5 hF5 rfl
  simp only [push_cast, ↓reduceIte, Nat.reduceEqDiff, Nat.reduceAdd, Nat.reduceMul, Nat.reduceSub, Nat.reduceLT, Nat.reduceLeDiff, reduceCtorEq, Nat.reduceMod, Int.reduceEq, Int.reduceLT, Int.reduceLE, Int.reduceToNat, dite_true]
  refine VC.go 100 ?_
  simp only [push_cast, ↓reduceIte, Nat.reduceEqDiff, Nat.reduceAdd, Nat.reduceMul, Nat.reduceSub, Nat.reduceLT, Nat.reduceLeDiff, reduceCtorEq, Nat.reduceMod, Int.reduceEq, Int.reduceLT, Int.reduceLE, Int.reduceToNat, dite_true]
  exact RetOk.p rfl rfl
end Go.Proofs.Ytlgfajdedmajcaa.V
