/- Graphs: where going on ends, by definition. -/
import Derived.Test.YthdbmbabfngakaaH4
namespace Go.Proofs.Ythdbmbabfngakaa.G
open Go Go.Eng Go.Proofs Go.Proofs.Ythdbmbabfngakaa.T Go.Proofs.Ythdbmbabfngakaa.K
set_option linter.unusedSimpArgs false
set_option linter.unusedVariables false
set_option maxRecDepth 100000
set_option maxHeartbeats 4000000
theorem endR (F : PH) (ar av : Value) (ma : List Nd) (lead : Int → Int) (k : Int) (h1 : ar.oneCell' = true) (ha : Nodes F av ma) (hk : k < ma.length) (hlen : ma.length ≤ 1000000) (hlt : ∀ k : Int, 0 ≤ k → k < ma.length → lead k < ma.length)
    (hL : ∀ F1 : PH, F.le F1 → ∀ k : Int, 0 ≤ k → k < ma.length → PFn Try.prog 19 [.agg #[ar, av], .int .i64 k] F1 (fun v _ => v = .int .i64 (lead k))) :
    PFn Try.prog 30 [.agg #[ar, av], .int .i64 k] F (fun v _ => v = .int .i64 (endN lead ma.length k)) := by
  obtain ⟨pa, ca, rfl, _, _⟩ := ha.val
  refine Fn.intro (n := 26) (ts := [4]) Try.func30 rfl rfl rfl rfl (by simp) fun B hB => VC.go 100 ?_
  simp only [push_cast, ↓reduceIte, Nat.reduceEqDiff, Nat.reduceAdd, Nat.reduceMul, Nat.reduceSub, Nat.reduceLT, Nat.reduceLeDiff, reduceCtorEq, Nat.reduceMod, Int.reduceEq, Int.reduceLT, Int.reduceLE, Int.reduceToNat, dite_true, h1]
  intro b2
  refine VC.loopM (ι := Nat × Int × PH) (fun i => [(5, .v (.int .i64 i.1)), (2, .o 0 b2 0), (1, .v (.int .i64 i.2.1))]) (fun _ => [⟨0, b2, 25, [ar, .slice pa ma.length ca]⟩]) (fun i => i.2.2) (fun i => i.1 ≤ ma.length + 1 ∧ i.2.1 < ma.length ∧ F.le i.2.2 ∧ endF lead (ma.length + 1 - i.1) i.2.1 = endN lead ma.length k) (fun i => ma.length + 1 - i.1) (0, k, F) ⟨Nat.zero_le _, hk, PH.le_refl _, rfl⟩ (by simp [subk, Eng.look]) (List.Sublist.refl _) rfl ?_
  rintro ⟨i, c, F1⟩ ⟨hi, hc, hF1, he⟩ G hG
  dsimp only at hi hc hF1 he hG ⊢
  refine VC.go 100 ?_
  by_cases h : i ≤ ma.length
  case neg =>
    have h' : ¬ (i : Int) ≤ (ma.length : Int) := by omega
    rw [show ma.length + 1 - i = 0 from by omega] at he
    rw [← he]
    simp only [push_cast, ↓reduceIte, Nat.reduceEqDiff, Nat.reduceAdd, Nat.reduceMul, Nat.reduceSub, Nat.reduceLT, Nat.reduceLeDiff, reduceCtorEq, Nat.reduceMod, Int.reduceEq, Int.reduceLT, Int.reduceLE, Int.reduceToNat, dite_true, h', h1]
    exact RetOk.p rfl rfl
  have h' : (i : Int) ≤ (ma.length : Int) := by omega
  rw [show ma.length + 1 - i = (ma.length - i) + 1 from by omega, endF] at he
  have e2 : IntKind.i64.wrap ((i : Int) + 1) = ((i + 1 : Nat) : Int) := by rw [IntWalk.i64_in _ (by omega)]; rfl
  by_cases h0 : c < 0
  · rw [if_pos h0] at he
    rw [← he]
    simp only [push_cast, ↓reduceIte, Nat.reduceEqDiff, Nat.reduceAdd, Nat.reduceMul, Nat.reduceSub, Nat.reduceLT, Nat.reduceLeDiff, reduceCtorEq, Nat.reduceMod, Int.reduceEq, Int.reduceLT, Int.reduceLE, Int.reduceToNat, dite_true, h', h1, eq_true h0]
    exact RetOk.p rfl rfl
  rw [if_neg h0] at he
  simp only [push_cast, ↓reduceIte, Nat.reduceEqDiff, Nat.reduceAdd, Nat.reduceMul, Nat.reduceSub, Nat.reduceLT, Nat.reduceLeDiff, reduceCtorEq, Nat.reduceMod, Int.reduceEq, Int.reduceLT, Int.reduceLE, Int.reduceToNat, dite_true, h', h1, h0]
  refine CallV.pure (hL F1 hF1 c (by omega) hc) ?_
  rintro _ F2 hF2 rfl
  by_cases g1 : lead c = -2
  · rw [if_pos g1] at he
    rw [← he]
    simp only [push_cast, ↓reduceIte, Nat.reduceEqDiff, Nat.reduceAdd, Nat.reduceMul, Nat.reduceSub, Nat.reduceLT, Nat.reduceLeDiff, reduceCtorEq, Nat.reduceMod, Int.reduceEq, Int.reduceLT, Int.reduceLE, Int.reduceToNat, dite_true, h1, eq_true g1]
    exact RetOk.p rfl rfl
  rw [if_neg g1] at he
  by_cases g2 : lead c < 0
  · rw [if_pos g2] at he
    rw [← he]
    simp only [push_cast, ↓reduceIte, Nat.reduceEqDiff, Nat.reduceAdd, Nat.reduceMul, Nat.reduceSub, Nat.reduceLT, Nat.reduceLeDiff, reduceCtorEq, Nat.reduceMod, Int.reduceEq, Int.reduceLT, Int.reduceLE, Int.reduceToNat, dite_true, h1, g1, eq_true g2]
    exact RetOk.p rfl rfl
  rw [if_neg g2] at he
  simp only [push_cast, ↓reduceIte, Nat.reduceEqDiff, Nat.reduceAdd, Nat.reduceMul, Nat.reduceSub, Nat.reduceLT, Nat.reduceLeDiff, reduceCtorEq, Nat.reduceMod, Int.reduceEq, Int.reduceLT, Int.reduceLE, Int.reduceToNat, dite_true, h1, g1, g2, e2]
  refine hG (i + 1, lead c, F2) _ ⟨by omega, hlt c (by omega) hc, PH.le_trans hF1 hF2, ?_⟩ (by simp; omega) (by simp [subk, Eng.look]) (List.Sublist.refl _) rfl rfl
  dsimp only
  rw [show ma.length + 1 - (i + 1) = ma.length - i from by omega]
  exact he
end Go.Proofs.Ythdbmbabfngakaa.G
