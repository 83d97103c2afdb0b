/- Graphs: the laws on what is in order, and on what is the same. -/
import Derived.Test.YthdbmbabfngakaaH20
namespace Go.Proofs.Ythdbmbabfngakaa.G
open Go Go.Eng Go.Proofs Go.Proofs.Ythdbmbabfngakaa.T Go.Proofs.Ythdbmbabfngakaa.K
set_option linter.unusedSimpArgs false
set_option linter.unusedVariables false
set_option maxRecDepth 100000
set_option maxHeartbeats 4000000
/-- What a reading gives of the Nons. -/
def OkN (g : Gr) : Prop := ∀ m ∈ g.nodes, m.nons.length ≤ 17592186044416 ∧ ∀ i ∈ m.nons, 0 ≤ i
theorem okg_few {g : Gr} (h : OkN g) : Okg (few g) := by
  have hm : ∀ m ∈ (few g).nodes, ∃ m' ∈ g.nodes, m = fewNd m' := fun m hm => by
    simp only [few] at hm
    obtain ⟨m', h1, rfl⟩ := List.mem_map.1 hm
    exact ⟨m', List.mem_of_mem_take h1, rfl⟩
  refine ⟨?_, ?_, fun m hmm => ?_, fun m hmm => ?_, fun m hmm => ?_⟩
  · simp only [few, List.length_map, List.length_take]; omega
  · simp only [few, List.length_take]; omega
  · obtain ⟨m', _, rfl⟩ := hm m hmm; simp only [fewNd, List.length_take]; omega
  · obtain ⟨m', h1, rfl⟩ := hm m hmm; exact (h m' h1).1
  · obtain ⟨m', h1, rfl⟩ := hm m hmm; exact (h m' h1).2
theorem Gra.val {F : PH} {v : Value} {g : Gr} (h : Gra F v g) : ∃ p c q d, v = .agg #[.slice p g.roots.length c, .slice q g.nodes.length d] := by
  obtain ⟨_, _, rfl, ⟨p, c, rfl, _⟩, h2⟩ := h
  obtain ⟨q, d, rfl, _⟩ := h2.val
  exact ⟨p, c, q, d, rfl⟩
theorem sameL (F : PH) (va vb : Value) (a b : Gr) (ha : Gra F va a) (hb : Gra F vb b) : PFn Try.prog 15 [va, vb] F (fun v _ => v = .bool (sameGr a b)) := by
  obtain ⟨_, _, rfl, h1, h2⟩ := ha
  obtain ⟨_, _, rfl, h3, h4⟩ := hb
  exact sameG F _ _ _ _ a b h1 h3 h2 h4
theorem sameLR (F : PH) (va vb : Value) (a b : Gr) (ha : Gra F va a) (hb : Gra F vb b) : PFn Try.prog 10 [va, vb] F (fun v _ => v = .bool (sameGr a b)) := by
  obtain ⟨_, _, rfl, h1, h2⟩ := ha
  obtain ⟨_, _, rfl, h3, h4⟩ := hb
  exact sameGrR F _ _ _ _ a b h1 h3 h2 h4
theorem law_shorts (F : PH) (vg : Value) (g : Gr) (hg : Gra F vg g) (hn : OkN g) : PFn Try.prog 3 [vg] F (fun v _ => v = .bool true) := by
  have hok := okg_few hn
  have hg' := hg
  obtain ⟨p, c, q, d, rfl⟩ := hg.val
  refine Fn.intro (n := 20) (ts := [2]) Try.func3 rfl rfl rfl rfl (by simp) fun B hB => VC.go 100 ?_
  simp only [push_cast, ↓reduceIte, Nat.reduceEqDiff, Nat.reduceAdd, Nat.reduceMul, Nat.reduceSub, Nat.reduceLT, Nat.reduceLeDiff, reduceCtorEq, Nat.reduceMod, Int.reduceEq, Int.reduceLT, Int.reduceLE, Int.reduceToNat, dite_true]
  intro b1
  refine CallV.pure (fewL F _ g hg') ?_
  intro v F1 hF1 hf
  obtain ⟨p1, c1, q1, d1, rfl⟩ := hf.val
  simp only [push_cast, ↓reduceIte, Nat.reduceEqDiff, Nat.reduceAdd, Nat.reduceMul, Nat.reduceSub, Nat.reduceLT, Nat.reduceLeDiff, reduceCtorEq, Nat.reduceMod, Int.reduceEq, Int.reduceLT, Int.reduceLE, Int.reduceToNat, dite_true]
  refine VC.draw (.e 0 (.q 1 (.q 2 (.q 4 (.e 3 (.e 5 (.e 6 (.q 7 (.q 8 (.q 9 (.q 11 (.e 10 (.e 12 (.e 13 (.q 14 (.q 15 (.done))))))))))))))))) mixed (by rfl) ?_
  simp only [push_cast, ↓reduceIte, Nat.reduceEqDiff, Nat.reduceAdd, Nat.reduceMul, Nat.reduceSub, Nat.reduceLT, Nat.reduceLeDiff, reduceCtorEq, Nat.reduceMod, Int.reduceEq, Int.reduceLT, Int.reduceLE, Int.reduceToNat, dite_true]
  refine CallV.pure (awakeL F1) ?_
  rintro _ F2 hF2 rfl
  simp only [push_cast, ↓reduceIte, Nat.reduceEqDiff, Nat.reduceAdd, Nat.reduceMul, Nat.reduceSub, Nat.reduceLT, Nat.reduceLeDiff, reduceCtorEq, Nat.reduceMod, Int.reduceEq, Int.reduceLT, Int.reduceLE, Int.reduceToNat, dite_true]
  refine CallV.pure (normF F2 _ _ (hf.mono hF2) hok) ?_
  intro v3 F3 hF3 h3
  simp only [push_cast, ↓reduceIte, Nat.reduceEqDiff, Nat.reduceAdd, Nat.reduceMul, Nat.reduceSub, Nat.reduceLT, Nat.reduceLeDiff, reduceCtorEq, Nat.reduceMod, Int.reduceEq, Int.reduceLT, Int.reduceLE, Int.reduceToNat, dite_true]
  refine CallV.pure (normR F3 _ _ (hf.mono (PH.le_trans hF2 hF3)) hok) ?_
  intro v4 F4 hF4 h4
  simp only [push_cast, ↓reduceIte, Nat.reduceEqDiff, Nat.reduceAdd, Nat.reduceMul, Nat.reduceSub, Nat.reduceLT, Nat.reduceLeDiff, reduceCtorEq, Nat.reduceMod, Int.reduceEq, Int.reduceLT, Int.reduceLE, Int.reduceToNat, dite_true]
  refine CallV.pure (sameLR F4 _ _ _ _ (h3.mono hF4) h4) ?_
  rintro _ F5 hF5 rfl
  rw [sameGr_refl]
  simp only [push_cast, ↓reduceIte, Nat.reduceEqDiff, Nat.reduceAdd, Nat.reduceMul, Nat.reduceSub, Nat.reduceLT, Nat.reduceLeDiff, reduceCtorEq, Nat.reduceMod, Int.reduceEq, Int.reduceLT, Int.reduceLE, Int.reduceToNat, dite_true]
  have hF15 := PH.le_trans hF2 (PH.le_trans hF3 (PH.le_trans hF4 hF5))
  refine CallV.pure (shortF F5 _ _ (hf.mono hF15) hok) ?_
  intro v6 F6 hF6 h6
  simp only [push_cast, ↓reduceIte, Nat.reduceEqDiff, Nat.reduceAdd, Nat.reduceMul, Nat.reduceSub, Nat.reduceLT, Nat.reduceLeDiff, reduceCtorEq, Nat.reduceMod, Int.reduceEq, Int.reduceLT, Int.reduceLE, Int.reduceToNat, dite_true]
  refine CallV.pure (shortR F6 _ _ (hf.mono (PH.le_trans hF15 hF6)) hok) ?_
  intro v7 F7 hF7 h7
  simp only [push_cast, ↓reduceIte, Nat.reduceEqDiff, Nat.reduceAdd, Nat.reduceMul, Nat.reduceSub, Nat.reduceLT, Nat.reduceLeDiff, reduceCtorEq, Nat.reduceMod, Int.reduceEq, Int.reduceLT, Int.reduceLE, Int.reduceToNat, dite_true]
  refine CallV.pure (sameLR F7 _ _ _ _ (h6.mono hF7) h7) ?_
  rintro _ F8 hF8 rfl
  rw [sameGr_refl]
  simp only [push_cast, ↓reduceIte, Nat.reduceEqDiff, Nat.reduceAdd, Nat.reduceMul, Nat.reduceSub, Nat.reduceLT, Nat.reduceLeDiff, reduceCtorEq, Nat.reduceMod, Int.reduceEq, Int.reduceLT, Int.reduceLE, Int.reduceToNat, dite_true]
  refine VC.go 100 ?_
  simp only [push_cast, ↓reduceIte, Nat.reduceEqDiff, Nat.reduceAdd, Nat.reduceMul, Nat.reduceSub, Nat.reduceLT, Nat.reduceLeDiff, reduceCtorEq, Nat.reduceMod, Int.reduceEq, Int.reduceLT, Int.reduceLE, Int.reduceToNat, dite_true]
  exact RetOk.p rfl rfl
theorem law_same (F : PH) (va vb : Value) (a b : Gr) (ha : Gra F va a) (hb : Gra F vb b) : PFn Try.prog 4 [va, vb] F (fun v _ => v = .bool true) := by
  have ha' := ha
  have hb' := hb
  obtain ⟨p, c, q, d, rfl⟩ := ha.val
  obtain ⟨p2, c2, q2, d2, rfl⟩ := hb.val
  have haN : Nodes F (.slice q a.nodes.length d) a.nodes := by
    obtain ⟨_, _, e, _, h⟩ := ha'
    cases e; exact h
  refine Fn.intro (n := 27) (ts := [4]) Try.func4 rfl rfl rfl rfl (by simp) fun B hB => VC.go 100 ?_
  simp only [push_cast, ↓reduceIte, Nat.reduceEqDiff, Nat.reduceAdd, Nat.reduceMul, Nat.reduceSub, Nat.reduceLT, Nat.reduceLeDiff, reduceCtorEq, Nat.reduceMod, Int.reduceEq, Int.reduceLT, Int.reduceLE, Int.reduceToNat, dite_true]
  intro b2 b3
  refine VC.draw (.e 0 (.q 1 (.q 2 (.q 3 (.q 5 (.q 6 (.e 4 (.e 7 (.q 8 (.q 9 (.q 10 (.q 11 (.q 12 (.e 13 (.q 14 (.q 15 (.q 16 (.q 18 (.e 17 (.e 19 (.q 20 (.q 21 (.q 22 (.done)))))))))))))))))))))))) mixed (by rfl) ?_
  simp only [push_cast, ↓reduceIte, Nat.reduceEqDiff, Nat.reduceAdd, Nat.reduceMul, Nat.reduceSub, Nat.reduceLT, Nat.reduceLeDiff, reduceCtorEq, Nat.reduceMod, Int.reduceEq, Int.reduceLT, Int.reduceLE, Int.reduceToNat, dite_true]
  refine CallV.pure (awakeL F) ?_
  rintro _ F1 hF1 rfl
  simp only [push_cast, ↓reduceIte, Nat.reduceEqDiff, Nat.reduceAdd, Nat.reduceMul, Nat.reduceSub, Nat.reduceLT, Nat.reduceLeDiff, reduceCtorEq, Nat.reduceMod, Int.reduceEq, Int.reduceLT, Int.reduceLE, Int.reduceToNat, dite_true]
  refine CallV.pure (sameL F1 _ _ _ _ (ha'.mono hF1) (hb'.mono hF1)) ?_
  rintro _ F2 hF2 rfl
  have hF12 := PH.le_trans hF1 hF2
  simp only [push_cast, ↓reduceIte, Nat.reduceEqDiff, Nat.reduceAdd, Nat.reduceMul, Nat.reduceSub, Nat.reduceLT, Nat.reduceLeDiff, reduceCtorEq, Nat.reduceMod, Int.reduceEq, Int.reduceLT, Int.reduceLE, Int.reduceToNat, dite_true]
  refine CallV.pure (sameLR F2 _ _ _ _ (ha'.mono hF12) (hb'.mono hF12)) ?_
  rintro _ F3 hF3 rfl
  have hF13 := PH.le_trans hF12 hF3
  simp only [push_cast, ↓reduceIte, Nat.reduceEqDiff, Nat.reduceAdd, Nat.reduceMul, Nat.reduceSub, Nat.reduceLT, Nat.reduceLeDiff, reduceCtorEq, Nat.reduceMod, Int.reduceEq, Int.reduceLT, Int.reduceLE, Int.reduceToNat, dite_true]
  refine CallV.pure (sameL F3 _ _ _ _ (ha'.mono hF13) (ha'.mono hF13)) ?_
  rintro _ F4 hF4 rfl
  have hF14 := PH.le_trans hF13 hF4
  rw [sameGr_refl]
  simp only [push_cast, ↓reduceIte, Nat.reduceEqDiff, Nat.reduceAdd, Nat.reduceMul, Nat.reduceSub, Nat.reduceLT, Nat.reduceLeDiff, reduceCtorEq, Nat.reduceMod, Int.reduceEq, Int.reduceLT, Int.reduceLE, Int.reduceToNat, dite_true]
  refine CallV.pure (wordsG F4 _ _ a.nodes rfl (haN.mono hF14)) ?_
  rintro _ F5 hF5 rfl
  simp only [push_cast, ↓reduceIte, Nat.reduceEqDiff, Nat.reduceAdd, Nat.reduceMul, Nat.reduceSub, Nat.reduceLT, Nat.reduceLeDiff, reduceCtorEq, Nat.reduceMod, Int.reduceEq, Int.reduceLT, Int.reduceLE, Int.reduceToNat, dite_true]
  refine CallV.pure (wordsR F5 _ _ a.nodes rfl (haN.mono (PH.le_trans hF14 hF5))) ?_
  rintro _ F6 hF6 rfl
  simp only [push_cast, ↓reduceIte, Nat.reduceEqDiff, Nat.reduceAdd, Nat.reduceMul, Nat.reduceSub, Nat.reduceLT, Nat.reduceLeDiff, reduceCtorEq, Nat.reduceMod, Int.reduceEq, Int.reduceLT, Int.reduceLE, Int.reduceToNat, dite_true]
  refine VC.go 100 ?_
  simp only [push_cast, ↓reduceIte, Nat.reduceEqDiff, Nat.reduceAdd, Nat.reduceMul, Nat.reduceSub, Nat.reduceLT, Nat.reduceLeDiff, reduceCtorEq, Nat.reduceMod, Int.reduceEq, Int.reduceLT, Int.reduceLE, Int.reduceToNat, dite_true]
  exact RetOk.p rfl rfl
end Go.Proofs.Ythdbmbabfngakaa.G
