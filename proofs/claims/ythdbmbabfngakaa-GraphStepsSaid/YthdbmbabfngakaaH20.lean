/- Graphs: what must come at any rate. -/
import Derived.Test.YthdbmbabfngakaaH19
namespace Go.Proofs.Ythdbmbabfngakaa.G
open Go Go.Eng Go.Proofs Go.Proofs.Ythdbmbabfngakaa.T Go.Proofs.Ythdbmbabfngakaa.K
set_option linter.unusedSimpArgs false
set_option linter.unusedVariables false
set_option maxRecDepth 100000
set_option maxHeartbeats 4000000
def g0 : Gr := ⟨[1], [⟨2, 0, [5], []⟩, ⟨8, 0, [], [0]⟩]⟩
def g1 : Gr := ⟨[0], [⟨8, 0, [], [1]⟩, ⟨2, 0, [5], []⟩]⟩
def g2 : Gr := ⟨[1], [⟨8, 0, [], [1]⟩, ⟨2, 0, [5], []⟩]⟩
def g3 : Gr := ⟨[0], [⟨2, 0, [5], []⟩]⟩
theorem norm_g0 : norm g0 = g1 := by
  have : order g0 = [1, 0] := by decide
  unfold norm
  rw [this]
  rfl
theorem round_g1 : round g1 = g2 := by rfl
theorem round_g2 : round g2 = g2 := by rfl
theorem clean_g2 : Clean g2 := ⟨by intro x hx; simp only [g2, List.mem_singleton] at hx; subst hx; rfl, by
  intro m hm x hx
  simp only [g2, List.mem_cons, List.not_mem_nil, or_false] at hm
  rcases hm with rfl | rfl
  · simp only [List.mem_singleton] at hx; subst hx; rfl
  · cases hx⟩
theorem short_g0 : short g0 = g3 := by
  unfold short
  rw [norm_g0]
  have h1 : ¬ Clean g1 := fun h => by
    have := round_clean h
    rw [round_g1] at this
    exact absurd (congrArg Gr.roots this) (by decide)
  show norm (rounds 4 g1) = g3
  rw [rounds, if_neg h1, round_g1, rounds_clean clean_g2]
  have : order g2 = [1] := by decide
  unfold norm
  rw [this]
  rfl
theorem okg0 : Okg g0 := ⟨by decide, by decide, by decide, by decide, by decide⟩
theorem awakeL (F : PH) : PFn Try.prog 9 [] F (fun v _ => v = .bool true) := by
  refine Fn.intro (n := 42) (ts := [0]) Try.func9 rfl rfl rfl rfl (by simp) fun B hB => VC.go 100 ?_
  simp only [push_cast, ↓reduceIte, Nat.reduceEqDiff, Nat.reduceAdd, Nat.reduceMul, Nat.reduceSub, Nat.reduceLT, Nat.reduceLeDiff, reduceCtorEq, Nat.reduceMod, Int.reduceEq, Int.reduceLT, Int.reduceLE, Int.reduceToNat, dite_true]
  intro b3 F1 hF1 hb3
  intro b4 F2 hF2 hb4
  intro b6 F3 hF3 hb6
  intro b8 F4 hF4 hb8
  intro b1
  have hr : Ints F4 (.slice (some ⟨b3, 0, none⟩) 1 1) [1] := ⟨some ⟨b3, 0, none⟩, 1, rfl, by decide, one_max, Src.blk (hF4 _ _ (hF3 _ _ (hF2 _ _ hb3))) rfl⟩
  have hn : Us F4 (.slice (some ⟨b4, 0, none⟩) 1 1) [5] := ⟨some ⟨b4, 0, none⟩, 1, rfl, by decide, one_max, Src.blk (hF4 _ _ (hF3 _ _ hb4)) rfl⟩
  have hk : Ints F4 (.slice (some ⟨b6, 0, none⟩) 1 1) [0] := ⟨some ⟨b6, 0, none⟩, 1, rfl, by decide, one_max, Src.blk (hF4 _ _ hb6) rfl⟩
  have hnil : ∀ F : PH, Us F (.slice none 0 0) [] := fun F => ⟨none, 0, rfl, Nat.le_refl _, Nat.zero_le _, rfl, fun h => absurd h (by decide)⟩
  have hnil2 : ∀ F : PH, Ints F (.slice none 0 0) [] := fun F => ⟨none, 0, rfl, Nat.le_refl _, Nat.zero_le _, rfl, fun h => absurd h (by decide)⟩
  have hN : Nodes F4 (.slice (some ⟨b8, 0, none⟩) 2 2) g0.nodes := ⟨_, ⟨some ⟨b8, 0, none⟩, 2, rfl, by decide, by decide, Src.blk hb8 rfl⟩, ⟨_, _, rfl, ⟨_, _, rfl, hn, hnil2 F4⟩, ⟨_, _, rfl, ⟨_, _, rfl, hnil F4, hk⟩, rfl⟩⟩⟩
  have hg : Gra F4 (.agg #[.slice (some ⟨b3, 0, none⟩) 1 1, .slice (some ⟨b8, 0, none⟩) 2 2]) g0 := ⟨_, _, rfl, hr, hN⟩
  refine CallV.pure (shortF F4 _ g0 hg okg0) ?_
  rintro _ F5 hF5 hs
  rw [short_g0] at hs
  obtain ⟨vr, vn, rfl, hvr, hvn⟩ := hs
  obtain ⟨pr, cr, rfl, _, _, hvr3⟩ := hvr
  obtain ⟨q, cq, cs, eq, _, _, kl, kr⟩ := hvn.elem (by decide) (i := 0) (a := ⟨2, 0, [5], []⟩) rfl RNd.len
  cases eq
  obtain ⟨un, uk, rfl, _⟩ := kr
  obtain ⟨qr, rfl, hqr⟩ := hvr3.elem1 (i := 0) (v := .int .i64 0) rfl
  have c0 := cell_at kl (o := 0) rfl
  have e1 : g3.nodes.length = 1 := rfl
  have e2 : g3.roots.length = 1 := rfl
  rw [e1, e2]
  simp only [push_cast, ↓reduceIte, Nat.reduceEqDiff, Nat.reduceAdd, Nat.reduceMul, Nat.reduceSub, Nat.reduceLT, Nat.reduceLeDiff, reduceCtorEq, Nat.reduceMod, Int.reduceEq, Int.reduceLT, Int.reduceLE, Int.reduceToNat, dite_true, add_own, c0, hqr]
  intro b2
  simp only [push_cast, ↓reduceIte, Nat.reduceEqDiff, Nat.reduceAdd, Nat.reduceMul, Nat.reduceSub, Nat.reduceLT, Nat.reduceLeDiff, reduceCtorEq, Nat.reduceMod, Int.reduceEq, Int.reduceLT, Int.reduceLE, Int.reduceToNat, dite_true, Int.zero_add, add_own, c0, hqr, Int.reduceAdd]
  refine CallV.pure (wordsG F5 _ _ g0.nodes rfl (hN.mono hF5)) ?_
  rintro _ F6 hF6 rfl
  rw [show words g0.nodes = 4 from by decide]
  simp only [push_cast, ↓reduceIte, Nat.reduceEqDiff, Nat.reduceAdd, Nat.reduceMul, Nat.reduceSub, Nat.reduceLT, Nat.reduceLeDiff, reduceCtorEq, Nat.reduceMod, Int.reduceEq, Int.reduceLT, Int.reduceLE, Int.reduceToNat, dite_true]
  exact RetOk.p rfl rfl
end Go.Proofs.Ythdbmbabfngakaa.G
