/- The reader of the definition: expressions. (Written by gen/r234.py.) -/
import Derived.Test.YtoepmdbicdoieaaDoorR2
namespace Go.Proofs.YtoepmdbicdoieaaDoor.X
open Go Go.Eng Go.Proofs Go.Proofs.YtoepmdbicdoieaaDoor.T Go.Proofs.YtoepmdbicdoieaaDoor.K
set_option linter.unusedSimpArgs false
set_option linter.unusedVariables false
set_option maxRecDepth 100000
set_option maxHeartbeats 8000000
theorem RBind.one {F : PH} {b : Bind} {cs : List Value} (h : RBind F b cs) : ∀ u ∈ cs, u.oneCell' = true := by
  obtain ⟨wv, cc, rfl, hwv, hcc⟩ := RBind_iff.1 h
  obtain ⟨xa, xb, xe, xl, rfl, hx⟩ := RExp_iff.1 hcc
  obtain ⟨pv, cv, rfl, _, _, _⟩ := hwv
  obtain ⟨_, _, _, _, _, _, _, _, rfl, rfl, rfl, rfl⟩ := hx.slices
  intro u hu
  simp only [expCells, List.mem_cons, List.not_mem_nil, or_false] at hu
  rcases hu with rfl | rfl | rfl | rfl | rfl | rfl | rfl | rfl | rfl | rfl | rfl <;> rfl
theorem sizeBs_append : ∀ (a b : List Bind), sizeBs (a ++ b) = sizeBs a + sizeBs b
  | [], b => by simp [sizeBs]
  | x :: a, b => by simp only [List.cons_append, sizeBs, sizeBs_append a b]; omega
theorem sizeLs_append : ∀ (a b : List Alt), sizeLs (a ++ b) = sizeLs a + sizeLs b
  | [], b => by simp [sizeLs]
  | x :: a, b => by simp only [List.cons_append, sizeLs, sizeLs_append a b]; omega
theorem RExp.one {F : PH} {x : Exp} {cs : List Value} (h : RExp F x cs) : ∀ u ∈ cs, u.oneCell' = true := by
  obtain ⟨xa, xb, xe, xl, rfl, hx⟩ := RExp_iff.1 h
  obtain ⟨_, _, _, _, _, _, _, _, rfl, rfl, rfl, rfl⟩ := hx.slices
  intro u hu
  simp only [expCells, List.mem_cons, List.not_mem_nil, or_false] at hu
  rcases hu with rfl | rfl | rfl | rfl | rfl | rfl | rfl | rfl <;> rfl
theorem RAlt.one {F : PH} {x : Alt} {cs : List Value} (h : RAlt F x cs) : ∀ u ∈ cs, u.oneCell' = true := by
  obtain ⟨wv, cc, rfl, hwv, hcc⟩ := RAlt_iff.1 h
  obtain ⟨pv, cv, rfl, _, _, _⟩ := hwv
  have h1 := RExp.one hcc
  intro u hu
  simp only [List.mem_cons] at hu
  rcases hu with rfl | rfl | rfl | rfl | rfl | hu
  · rfl
  · rfl
  · rfl
  · rfl
  · rfl
  · exact h1 u hu
theorem each_one1 {α : Type} {R : α → List Value → Prop} {a : α} {cs : List Value} (h : R a cs) : Each R [a] cs := ⟨cs, [], by simp, h, rfl⟩
theorem sl0 (F : PH) : Sl F 2 (.slice none 0 0) 0 [] := ⟨none, 0, rfl, Nat.le_refl _, Nat.zero_le _, rfl, fun h => absurd h (by simp)⟩
theorem deepE {d : Nat} (hd : 60 < d) (hd2 : d < 1000) : ExpG d := by
  intro F b vl l e r hl hr
  have hone : vl.oneCell' = true := by obtain ⟨p, c, rfl, h1, h2⟩ := hl.toks.val; rfl
  refine OFn.intro (n := 183) (ts := [.cell 4 49]) Tryd.func66 rfl rfl rfl rfl (by simp) fun B hB => ?_
  refine VC.go 7 ?_
  simp only [push_cast, ↓reduceIte, Nat.reduceEqDiff, Nat.reduceAdd, Nat.reduceMul, Nat.reduceSub, Nat.reduceLT, Nat.reduceLeDiff, reduceCtorEq, Nat.reduceMod, Int.reduceEq, Int.reduceLT, Int.reduceLE, Int.reduceToNat, dite_true, hone]
  intro b4
  refine CallV.own (i := 0) rfl (token F b vl l e r hl hr) ?_
  rintro _ F1 _ hF1 ⟨rfl, rfl⟩
  obtain ⟨t, ht⟩ : ∃ t, t = tokR l e r := ⟨_, rfl⟩
  rw [← ht]
  simp only [push_cast, ↓reduceIte, Nat.reduceEqDiff, Nat.reduceAdd, Nat.reduceMul, Nat.reduceSub, Nat.reduceLT, Nat.reduceLeDiff, reduceCtorEq, Nat.reduceMod, Int.reduceEq, Int.reduceLT, Int.reduceLE, Int.reduceToNat, dite_true, hone]
  intro b5 b6
  have g : (d : Int) > 60 := by omega
  refine VC.go 100 ?_
  simp only [push_cast, ↓reduceIte, Nat.reduceEqDiff, Nat.reduceAdd, Nat.reduceMul, Nat.reduceSub, Nat.reduceLT, Nat.reduceLeDiff, reduceCtorEq, Nat.reduceMod, Int.reduceEq, Int.reduceLT, Int.reduceLE, Int.reduceToNat, dite_true, hone, eq_true g]
  refine CallV.own (i := 0) rfl (fail F1 b vl l e 24 r (hl.mono hF1) hr) ?_
  rintro _ F2 _ hF2 rfl
  simp only [push_cast, ↓reduceIte, Nat.reduceEqDiff, Nat.reduceAdd, Nat.reduceMul, Nat.reduceSub, Nat.reduceLT, Nat.reduceLeDiff, reduceCtorEq, Nat.reduceMod, Int.reduceEq, Int.reduceLT, Int.reduceLE, Int.reduceToNat, dite_true, hone]
  exact rret (r := failR l e r 24) (vs := [_]) (by simp only [push_cast, ↓reduceIte, Nat.reduceEqDiff, Nat.reduceAdd, Nat.reduceMul, Nat.reduceSub, Nat.reduceLT, Nat.reduceLeDiff, reduceCtorEq, Nat.reduceMod, Int.reduceEq, Int.reduceLT, Int.reduceLE, Int.reduceToNat, dite_true, rvals, rval1] <;> rfl) rfl ⟨_, .mk 0 t.at_ ⟨#[]⟩ 0 [] [] [] [], _, rfl, rfl, go_fail hr, RExp_iff.2 ⟨_, _, _, _, rfl, ⟨sl0 _, nil_sle _ _ _, nil_sle _ _ _, nil_sle _ _ _⟩⟩, (fun hb => by rw [fail_bad] at hb; cases hb), by rw [show 61 - d = 0 by omega]; exact ⟨by unfold NoneR; rw [← ht], rfl⟩⟩
theorem stepE {d : Nat} (hd : d ≤ 60) (hE : ExpG (d + 1)) : ExpG d := by
  have hBd : BindG (d + 1) := bind hE
  have hA : AltG (d + 1) := alt hE
  have hn : expRel (61 - d) = StepR (expRel (61 - (d + 1))) := by rw [show 61 - d = (61 - (d + 1)) + 1 by omega]; rfl
  intro F b vl l e r hl hr
  have hone : vl.oneCell' = true := by obtain ⟨p, c, rfl, h1, h2⟩ := hl.toks.val; rfl
  have hfew := hl.few
  have e3 : IntKind.i64.wrap ((d : Int) + 1) = (d : Int) + 1 := IntWalk.i64_in _ (by omega)
  refine OFn.intro (n := 183) (ts := [.cell 4 49]) Tryd.func66 rfl rfl rfl rfl (by simp) fun B hB => ?_
  refine VC.go 7 ?_
  simp only [push_cast, ↓reduceIte, Nat.reduceEqDiff, Nat.reduceAdd, Nat.reduceMul, Nat.reduceSub, Nat.reduceLT, Nat.reduceLeDiff, reduceCtorEq, Nat.reduceMod, Int.reduceEq, Int.reduceLT, Int.reduceLE, Int.reduceToNat, dite_true, hone]
  intro b4
  refine CallV.own (i := 0) rfl (token F b vl l e r hl hr) ?_
  rintro _ F1 _ hF1 ⟨rfl, rfl⟩
  have hts := tokR_short (l := l) (e := e) (r := r) hl.short
  have hon := fun h => go_on (l := l) (e := e) (r := r) h
  obtain ⟨t, ht⟩ : ∃ t, t = tokR l e r := ⟨_, rfl⟩
  rw [← ht] at hts hon
  rw [← ht]
  simp only [push_cast, ↓reduceIte, Nat.reduceEqDiff, Nat.reduceAdd, Nat.reduceMul, Nat.reduceSub, Nat.reduceLT, Nat.reduceLeDiff, reduceCtorEq, Nat.reduceMod, Int.reduceEq, Int.reduceLT, Int.reduceLE, Int.reduceToNat, dite_true, hone]
  intro b5 b6
  have g : ¬ (d : Int) > 60 := by omega
  have hl1 := hl.mono hF1
  refine VC.go 5 ?_
  simp only [push_cast, ↓reduceIte, Nat.reduceEqDiff, Nat.reduceAdd, Nat.reduceMul, Nat.reduceSub, Nat.reduceLT, Nat.reduceLeDiff, reduceCtorEq, Nat.reduceMod, Int.reduceEq, Int.reduceLT, Int.reduceLE, Int.reduceToNat, dite_true, hone, g]
  refine VC.cutMR (ι := Rd × Exp × List Value × PH) (fun i => [(6, .o 3 b6 0), (4, .o 1 b4 0), (1, .v (.int .i64 d)), (0, .o 0 b 0)])
    (fun i => [⟨0, b, 97, rdC vl e i.1⟩, ⟨1, b4, 49, expZ⟩, ⟨2, b5, 99, tokC t⟩, ⟨3, b6, 49, i.2.2.1⟩]) (fun i => i.2.2.2) (fun _ => []) (fun i => F.le i.2.2.2 ∧ Go l r i.1 ∧ RExp i.2.2.2 i.2.1 i.2.2.1 ∧ Cost r i.1 i.2.1.size ∧ StepR (expRel (61 - (d + 1))) l e r i.2.1 i.1) ?_ ?_
  case refine_2 =>
    rintro ⟨s, x, cs, F2⟩ ⟨hF2, g1, hx, hc, hsr⟩
    dsimp only at hF2 g1 hx hc hsr ⊢
    have hx' := hx
    obtain ⟨xa, xb, xe, xl, rfl, hX⟩ := RExp_iff.1 hx
    obtain ⟨_, _, _, _, _, _, _, _, rfl, rfl, rfl, rfl⟩ := hX.slices
    refine VC.go 100 ?_
    simp only [push_cast, ↓reduceIte, Nat.reduceEqDiff, Nat.reduceAdd, Nat.reduceMul, Nat.reduceSub, Nat.reduceLT, Nat.reduceLeDiff, reduceCtorEq, Nat.reduceMod, Int.reduceEq, Int.reduceLT, Int.reduceLE, Int.reduceToNat, dite_true, hone]
    exact rret (r := s) (vs := [_]) (by simp only [push_cast, ↓reduceIte, Nat.reduceEqDiff, Nat.reduceAdd, Nat.reduceMul, Nat.reduceSub, Nat.reduceLT, Nat.reduceLeDiff, reduceCtorEq, Nat.reduceMod, Int.reduceEq, Int.reduceLT, Int.reduceLE, Int.reduceToNat, dite_true, rvals, rval1] <;> rfl) rfl ⟨s, x, _, rfl, rfl, g1, hx', hc, by rw [hn]; exact hsr⟩
  intro G hG0
  have hG : ∀ (s : Rd) (x : Exp) (va vb ve w4 : Value) (F2 : PH) (S' : St), F.le F2 → Go l r s → ExpAt F2 x va vb ve w4 → Cost r s x.size → StepR (expRel (61 - (d + 1))) l e r x s → subk S'.L [(6, .o 3 b6 0), (4, .o 1 b4 0), (1, .v (.int .i64 d)), (0, .o 0 b 0)] → ([⟨0, b, 97, rdC vl e s⟩, ⟨1, b4, 49, expZ⟩, ⟨2, b5, 99, tokC t⟩, ⟨3, b6, 49, expCells x va vb ve w4⟩]).Sublist S'.M → S'.F = F2 → G S' := fun s x va vb ve w4 F2 S' k1 k2 k3 k4 k8 k5 k6 k7 => hG0 (s, x, _, F2) S' ⟨k1, k2, RExp_iff.2 ⟨_, _, _, _, rfl, k3⟩, k4, k8⟩ k5 k6 k7 ⟨[], List.nil_sublist _, .refl _⟩
  clear hG0
  refine VC.go 100 ?_
  cases hb : r.bad with
  | true =>
    simp only [push_cast, ↓reduceIte, Nat.reduceEqDiff, Nat.reduceAdd, Nat.reduceMul, Nat.reduceSub, Nat.reduceLT, Nat.reduceLeDiff, reduceCtorEq, Nat.reduceMod, Int.reduceEq, Int.reduceLT, Int.reduceLE, Int.reduceToNat, dite_true, hone, hb]
    exact hG r (.mk 0 t.at_ ⟨#[]⟩ 0 [] [] [] []) _ _ _ _ F1 _ hF1 (.refl hr) ⟨sl0 _, nil_sle _ _ _, nil_sle _ _ _, nil_sle _ _ _⟩ (fun hb' => by rw [hb] at hb'; cases hb') (by unfold StepR; rw [if_pos hb]; exact ⟨by unfold NoneR; rw [← ht], rfl⟩) (by simp [subk, Eng.look]) (List.Sublist.refl _) rfl
  | false =>
  by_cases k4 : t.k = 4
  case pos =>
    obtain ⟨g1, g2, g3⟩ := hon (by rw [k4]; decide)
    simp only [push_cast, ↓reduceIte, Nat.reduceEqDiff, Nat.reduceAdd, Nat.reduceMul, Nat.reduceSub, Nat.reduceLT, Nat.reduceLeDiff, reduceCtorEq, Nat.reduceMod, Int.reduceEq, Int.reduceLT, Int.reduceLE, Int.reduceToNat, dite_true, hone, hb, eq_true k4]
    refine CallV.own (i := 0) rfl (on F1 b vl l e r hl1 hr) ?_
    rintro _ F2 _ hF2 rfl
    simp only [push_cast, ↓reduceIte, Nat.reduceEqDiff, Nat.reduceAdd, Nat.reduceMul, Nat.reduceSub, Nat.reduceLT, Nat.reduceLeDiff, reduceCtorEq, Nat.reduceMod, Int.reduceEq, Int.reduceLT, Int.reduceLE, Int.reduceToNat, dite_true, hone]
    refine hG (onR r) (.mk 4 t.at_ ⟨#[]⟩ t.n [] [] [] []) _ _ _ _ F2 _ (PH.le_trans hF1 hF2) g1 ⟨sl0 _, nil_sle _ _ _, nil_sle _ _ _, nil_sle _ _ _⟩ (fun hb' => ?_) (by unfold StepR; rw [if_neg (by rw [hb]; decide), ← ht, if_pos k4]; exact ⟨rfl, rfl⟩) (by simp [subk, Eng.look]) (List.Sublist.refl _) rfl
    have : (⟨#[]⟩ : ByteArray).size = 0 := rfl
    simp only [Exp.size, sizeA, sizeBs, sizeEs, sizeLs]
    omega
  by_cases k1 : t.k = 1
  case pos =>
    obtain ⟨g1, g2, g3⟩ := hon (by rw [k1]; decide)
    simp only [push_cast, ↓reduceIte, Nat.reduceEqDiff, Nat.reduceAdd, Nat.reduceMul, Nat.reduceSub, Nat.reduceLT, Nat.reduceLeDiff, reduceCtorEq, Nat.reduceMod, Int.reduceEq, Int.reduceLT, Int.reduceLE, Int.reduceToNat, dite_true, hone, hb, k4, eq_true k1]
    refine CallV.own (i := 0) rfl (on F1 b vl l e r hl1 hr) ?_
    rintro _ F2 _ hF2 rfl
    simp only [push_cast, ↓reduceIte, Nat.reduceEqDiff, Nat.reduceAdd, Nat.reduceMul, Nat.reduceSub, Nat.reduceLT, Nat.reduceLeDiff, reduceCtorEq, Nat.reduceMod, Int.reduceEq, Int.reduceLT, Int.reduceLE, Int.reduceToNat, dite_true, hone]
    refine VC.draw (.q 0 (.q 1 (.q 2 (.q 3 (.q 4 (.es 5 [0, 1, 2, 3, 4] (.e 6 (.e 7 (.done))))))))) mixed (by rfl) ?_
    simp only [push_cast, ↓reduceIte, Nat.reduceEqDiff, Nat.reduceAdd, Nat.reduceMul, Nat.reduceSub, Nat.reduceLT, Nat.reduceLeDiff, reduceCtorEq, Nat.reduceMod, Int.reduceEq, Int.reduceLT, Int.reduceLE, Int.reduceToNat, dite_true, hone]
    refine CallV.own (i := 0) rfl (atoms F2 b vl l e (onR r) (hl1.mono hF2) g1.lt) ?_
    rintro _ F3 _ hF3 ⟨s, ats, rfl, g4, hsl, hsz, har⟩
    have hsl' := hsl
    obtain ⟨pa, ca, rfl, _, _, _⟩ := hsl
    have g4l := g4.le
    simp only [push_cast, ↓reduceIte, Nat.reduceEqDiff, Nat.reduceAdd, Nat.reduceMul, Nat.reduceSub, Nat.reduceLT, Nat.reduceLeDiff, reduceCtorEq, Nat.reduceMod, Int.reduceEq, Int.reduceLT, Int.reduceLE, Int.reduceToNat, dite_true, hone]
    refine VC.go 100 ?_
    simp only [push_cast, ↓reduceIte, Nat.reduceEqDiff, Nat.reduceAdd, Nat.reduceMul, Nat.reduceSub, Nat.reduceLT, Nat.reduceLeDiff, reduceCtorEq, Nat.reduceMod, Int.reduceEq, Int.reduceLT, Int.reduceLE, Int.reduceToNat, dite_true, hone]
    refine hG s (.mk 1 t.at_ t.tx 0 ats [] [] []) _ _ _ _ F3 _ (PH.le_trans hF1 (PH.le_trans hF2 hF3)) (g1.trans g4) ⟨hsl', nil_sle _ _ _, nil_sle _ _ _, nil_sle _ _ _⟩ (fun hb' => ?_) (by unfold StepR; rw [if_neg (by rw [hb]; decide), ← ht, if_neg k4, if_pos (.inl k1), k1]; exact ⟨ats, har, rfl⟩) (by simp [subk, Eng.look]) (List.Sublist.refl _) rfl
    simp only [Exp.size, sizeBs, sizeEs, sizeLs]
    omega
  by_cases k2 : t.k = 2
  case pos =>
    obtain ⟨g1, g2, g3⟩ := hon (by rw [k2]; decide)
    simp only [push_cast, ↓reduceIte, Nat.reduceEqDiff, Nat.reduceAdd, Nat.reduceMul, Nat.reduceSub, Nat.reduceLT, Nat.reduceLeDiff, reduceCtorEq, Nat.reduceMod, Int.reduceEq, Int.reduceLT, Int.reduceLE, Int.reduceToNat, dite_true, hone, hb, k4, k1, eq_true k2]
    refine CallV.own (i := 0) rfl (on F1 b vl l e r hl1 hr) ?_
    rintro _ F2 _ hF2 rfl
    simp only [push_cast, ↓reduceIte, Nat.reduceEqDiff, Nat.reduceAdd, Nat.reduceMul, Nat.reduceSub, Nat.reduceLT, Nat.reduceLeDiff, reduceCtorEq, Nat.reduceMod, Int.reduceEq, Int.reduceLT, Int.reduceLE, Int.reduceToNat, dite_true, hone]
    refine VC.draw (.q 0 (.q 1 (.q 2 (.q 3 (.q 4 (.es 5 [0, 1, 2, 3, 4] (.e 6 (.e 7 (.done))))))))) mixed (by rfl) ?_
    simp only [push_cast, ↓reduceIte, Nat.reduceEqDiff, Nat.reduceAdd, Nat.reduceMul, Nat.reduceSub, Nat.reduceLT, Nat.reduceLeDiff, reduceCtorEq, Nat.reduceMod, Int.reduceEq, Int.reduceLT, Int.reduceLE, Int.reduceToNat, dite_true, hone]
    refine CallV.own (i := 0) rfl (atoms F2 b vl l e (onR r) (hl1.mono hF2) g1.lt) ?_
    rintro _ F3 _ hF3 ⟨s, ats, rfl, g4, hsl, hsz, har⟩
    have hsl' := hsl
    obtain ⟨pa, ca, rfl, _, _, _⟩ := hsl
    have g4l := g4.le
    simp only [push_cast, ↓reduceIte, Nat.reduceEqDiff, Nat.reduceAdd, Nat.reduceMul, Nat.reduceSub, Nat.reduceLT, Nat.reduceLeDiff, reduceCtorEq, Nat.reduceMod, Int.reduceEq, Int.reduceLT, Int.reduceLE, Int.reduceToNat, dite_true, hone]
    refine VC.go 100 ?_
    simp only [push_cast, ↓reduceIte, Nat.reduceEqDiff, Nat.reduceAdd, Nat.reduceMul, Nat.reduceSub, Nat.reduceLT, Nat.reduceLeDiff, reduceCtorEq, Nat.reduceMod, Int.reduceEq, Int.reduceLT, Int.reduceLE, Int.reduceToNat, dite_true, hone]
    refine hG s (.mk 2 t.at_ t.tx 0 ats [] [] []) _ _ _ _ F3 _ (PH.le_trans hF1 (PH.le_trans hF2 hF3)) (g1.trans g4) ⟨hsl', nil_sle _ _ _, nil_sle _ _ _, nil_sle _ _ _⟩ (fun hb' => ?_) (by unfold StepR; rw [if_neg (by rw [hb]; decide), ← ht, if_neg k4, if_pos (.inr (.inl k2)), k2]; exact ⟨ats, har, rfl⟩) (by simp [subk, Eng.look]) (List.Sublist.refl _) rfl
    simp only [Exp.size, sizeBs, sizeEs, sizeLs]
    omega
  by_cases k3 : t.k = 3
  case pos =>
    obtain ⟨g1, g2, g3⟩ := hon (by rw [k3]; decide)
    simp only [push_cast, ↓reduceIte, Nat.reduceEqDiff, Nat.reduceAdd, Nat.reduceMul, Nat.reduceSub, Nat.reduceLT, Nat.reduceLeDiff, reduceCtorEq, Nat.reduceMod, Int.reduceEq, Int.reduceLT, Int.reduceLE, Int.reduceToNat, dite_true, hone, hb, k4, k1, k2, eq_true k3]
    refine CallV.own (i := 0) rfl (on F1 b vl l e r hl1 hr) ?_
    rintro _ F2 _ hF2 rfl
    simp only [push_cast, ↓reduceIte, Nat.reduceEqDiff, Nat.reduceAdd, Nat.reduceMul, Nat.reduceSub, Nat.reduceLT, Nat.reduceLeDiff, reduceCtorEq, Nat.reduceMod, Int.reduceEq, Int.reduceLT, Int.reduceLE, Int.reduceToNat, dite_true, hone]
    refine VC.draw (.q 0 (.q 1 (.q 2 (.q 3 (.q 4 (.es 5 [0, 1, 2, 3, 4] (.e 6 (.e 7 (.done))))))))) mixed (by rfl) ?_
    simp only [push_cast, ↓reduceIte, Nat.reduceEqDiff, Nat.reduceAdd, Nat.reduceMul, Nat.reduceSub, Nat.reduceLT, Nat.reduceLeDiff, reduceCtorEq, Nat.reduceMod, Int.reduceEq, Int.reduceLT, Int.reduceLE, Int.reduceToNat, dite_true, hone]
    refine CallV.own (i := 0) rfl (atoms F2 b vl l e (onR r) (hl1.mono hF2) g1.lt) ?_
    rintro _ F3 _ hF3 ⟨s, ats, rfl, g4, hsl, hsz, har⟩
    have hsl' := hsl
    obtain ⟨pa, ca, rfl, _, _, _⟩ := hsl
    have g4l := g4.le
    simp only [push_cast, ↓reduceIte, Nat.reduceEqDiff, Nat.reduceAdd, Nat.reduceMul, Nat.reduceSub, Nat.reduceLT, Nat.reduceLeDiff, reduceCtorEq, Nat.reduceMod, Int.reduceEq, Int.reduceLT, Int.reduceLE, Int.reduceToNat, dite_true, hone]
    refine VC.go 100 ?_
    simp only [push_cast, ↓reduceIte, Nat.reduceEqDiff, Nat.reduceAdd, Nat.reduceMul, Nat.reduceSub, Nat.reduceLT, Nat.reduceLeDiff, reduceCtorEq, Nat.reduceMod, Int.reduceEq, Int.reduceLT, Int.reduceLE, Int.reduceToNat, dite_true, hone]
    refine hG s (.mk 3 t.at_ t.tx 0 ats [] [] []) _ _ _ _ F3 _ (PH.le_trans hF1 (PH.le_trans hF2 hF3)) (g1.trans g4) ⟨hsl', nil_sle _ _ _, nil_sle _ _ _, nil_sle _ _ _⟩ (fun hb' => ?_) (by unfold StepR; rw [if_neg (by rw [hb]; decide), ← ht, if_neg k4, if_pos (.inr (.inr k3)), k3]; exact ⟨ats, har, rfl⟩) (by simp [subk, Eng.look]) (List.Sublist.refl _) rfl
    simp only [Exp.size, sizeBs, sizeEs, sizeLs]
    omega
  simp only [push_cast, ↓reduceIte, Nat.reduceEqDiff, Nat.reduceAdd, Nat.reduceMul, Nat.reduceSub, Nat.reduceLT, Nat.reduceLeDiff, reduceCtorEq, Nat.reduceMod, Int.reduceEq, Int.reduceLT, Int.reduceLE, Int.reduceToNat, dite_true, hone, hb, k4, k1, k2, k3]
  refine CallV.own (i := 0) rfl (is_ F1 b vl l e r ⟨#[108, 101, 116]⟩ hl1 hr) ?_
  rintro _ F2 _ hF2 ⟨rfl, rfl⟩
  have hF02 := PH.le_trans hF1 hF2
  cases i1 : isR l e r ⟨#[108, 101, 116]⟩ with
  | true =>
    obtain ⟨g1, g2, g3⟩ := hon (by rw [ht]; exact isR_k i1)
    simp only [push_cast, ↓reduceIte, Nat.reduceEqDiff, Nat.reduceAdd, Nat.reduceMul, Nat.reduceSub, Nat.reduceLT, Nat.reduceLeDiff, reduceCtorEq, Nat.reduceMod, Int.reduceEq, Int.reduceLT, Int.reduceLE, Int.reduceToNat, dite_true, hone]
    refine CallV.own (i := 0) rfl (on F2 b vl l e r (hl.mono hF02) hr) ?_
    rintro _ F3 _ hF3 rfl
    simp only [push_cast, ↓reduceIte, Nat.reduceEqDiff, Nat.reduceAdd, Nat.reduceMul, Nat.reduceSub, Nat.reduceLT, Nat.reduceLeDiff, reduceCtorEq, Nat.reduceMod, Int.reduceEq, Int.reduceLT, Int.reduceLE, Int.reduceToNat, dite_true, hone]
    refine CallV.own (i := 0) rfl (want F3 b vl l e (onR r) ⟨#[123]⟩ (hl.mono (PH.le_trans hF02 hF3)) g1.lt) ?_
    rintro _ FA _ hF4 rfl
    have gA0 := go_want (l := l) (e := e) (r := onR r) (s := ⟨#[123]⟩) g1.lt
    obtain ⟨sA, hsA⟩ : ∃ sA, sA = wantR l e (onR r) ⟨#[123]⟩ := ⟨_, rfl⟩
    rw [← hsA] at gA0 ⊢
    have gA := g1.trans gA0
    have gA1 := gA0.le
    have hFA := PH.le_trans hF02 (PH.le_trans hF3 hF4)
    have hszA : sA.bad = false → r.at_ + 1 ≤ sA.at_ := fun _ => by omega
    simp only [push_cast, ↓reduceIte, Nat.reduceEqDiff, Nat.reduceAdd, Nat.reduceMul, Nat.reduceSub, Nat.reduceLT, Nat.reduceLeDiff, reduceCtorEq, Nat.reduceMod, Int.reduceEq, Int.reduceLT, Int.reduceLE, Int.reduceToNat, dite_true, hone]
    refine VC.emp ?_
    refine VC.draw (.q 0 (.q 1 (.q 2 (.q 3 (.q 4 (.es 5 [0, 1, 2, 3, 4] (.e 6 (.e 7 (.q 8 (.e 9 (.done))))))))))) mixed (by rfl) ?_
    simp only [push_cast, ↓reduceIte, Nat.reduceEqDiff, Nat.reduceAdd, Nat.reduceMul, Nat.reduceSub, Nat.reduceLT, Nat.reduceLeDiff, reduceCtorEq, Nat.reduceMod, Int.reduceEq, Int.reduceLT, Int.reduceLE, Int.reduceToNat, dite_true, hone, e3]
    refine CallV.own (i := 0) rfl (hBd FA b vl l e sA (hl.mono hFA) gA.lt) ?_
    rintro _ FB _ hFB ⟨sB, y, cs, rfl, rfl, gB, hy, hcB, hoB, hyr⟩
    have hyo := RBind.one hy
    have hyl := RBind.len hy
    have hyR := hy
    obtain ⟨wY, cY, rfl, hwY, hcYe⟩ := RBind_iff.1 hy
    obtain ⟨pwY, cwY, rfl, _, _, _⟩ := hwY
    obtain ⟨xaY, xbY, xeY, xlY, rfl, hXY⟩ := RExp_iff.1 hcYe
    obtain ⟨_, _, _, _, _, _, _, _, rfl, rfl, rfl, rfl⟩ := hXY.slices
    simp only [push_cast, ↓reduceIte, Nat.reduceEqDiff, Nat.reduceAdd, Nat.reduceMul, Nat.reduceSub, Nat.reduceLT, Nat.reduceLeDiff, reduceCtorEq, Nat.reduceMod, Int.reduceEq, Int.reduceLT, Int.reduceLE, Int.reduceToNat, dite_true, hone, e3]
    intro bB FC hFC hbC
    refine Eff.append (xs := []) (ys := _) rfl rfl rfl ty23 rfl ty53 rfl (by decide) rfl rfl (List.Perm.refl _) (Row.nil _ _) (Src.blk hbC rfl) hyo (by simp) (by decide) ?_
    intro vC rC hrC
    rw [List.nil_append] at hrC
    obtain ⟨pC, nC, cC, rfl⟩ := hrC.val
    have hFFC := PH.le_trans hFA (PH.le_trans hFB hFC)
    simp only [push_cast, ↓reduceIte, Nat.reduceEqDiff, Nat.reduceAdd, Nat.reduceMul, Nat.reduceSub, Nat.reduceLT, Nat.reduceLeDiff, reduceCtorEq, Nat.reduceMod, Int.reduceEq, Int.reduceLT, Int.reduceLE, Int.reduceToNat, dite_true, hone]
    refine VC.go 1 ?_
    simp only [push_cast, ↓reduceIte, Nat.reduceEqDiff, Nat.reduceAdd, Nat.reduceMul, Nat.reduceSub, Nat.reduceLT, Nat.reduceLeDiff, reduceCtorEq, Nat.reduceMod, Int.reduceEq, Int.reduceLT, Int.reduceLE, Int.reduceToNat, dite_true]
    refine VC.cutMR (ι := Rd × List Bind × Value × PH) (fun i => [(6, .o 3 b6 0), (5, .o 2 b5 0), (4, .o 1 b4 0), (1, .v (.int .i64 d)), (0, .o 0 b 0)])
      (fun i => [⟨0, b, 97, rdC vl e i.1⟩, ⟨1, b4, 49, expZ⟩, ⟨2, b5, 99, tokC t⟩, ⟨3, b6, 49, [.int .i64 5, .int .i64 t.at_, .string ⟨#[]⟩, .int .i64 0, (.slice none 0 0), i.2.2.1, (.slice none 0 0), (.slice none 0 0)]⟩]) (fun i => i.2.2.2) (fun _ => []) (fun i => FC.le i.2.2.2 ∧ Go l r i.1 ∧ SlE i.2.2.2 11 (RBind i.2.2.2) i.2.2.1 i.2.1 ∧ (i.1.bad = false → 1 + sizeBs i.2.1 ≤ 40 * (i.1.at_ - r.at_) ∧ sA.at_ ≤ i.1.at_) ∧ ∃ zs, i.2.1 = y :: zs ∧ ManyR l e (BindR (expRel (61 - (d + 1))) l e) sB zs i.1) ?_ ?_
    · intro G2 hG2
      refine VC.go 100 ?_
      simp only [push_cast, ↓reduceIte, Nat.reduceEqDiff, Nat.reduceAdd, Nat.reduceMul, Nat.reduceSub, Nat.reduceLT, Nat.reduceLeDiff, reduceCtorEq, Nat.reduceMod, Int.reduceEq, Int.reduceLT, Int.reduceLE, Int.reduceToNat, dite_true]
      refine VC.loopMR (ι := Rd × List Bind × Value × PH × PH) (fun i => [(6, .o 3 b6 0), (5, .o 2 b5 0), (4, .o 1 b4 0), (1, .v (.int .i64 d)), (0, .o 0 b 0)])
        (fun i => [⟨0, b, 97, rdC vl e i.1⟩, ⟨1, b4, 49, expZ⟩, ⟨2, b5, 99, tokC t⟩, ⟨3, b6, 49, [.int .i64 5, .int .i64 t.at_, .string ⟨#[]⟩, .int .i64 0, (.slice none 0 0), i.2.2.1, (.slice none 0 0), (.slice none 0 0)]⟩]) (fun i => i.2.2.2.1) (fun i => [i.2.2.2.2]) (fun i => FC.le i.2.2.2.1 ∧ Go l r i.1 ∧ sA.at_ ≤ i.1.at_ ∧ (∃ xs, Row i.2.2.2.2 53 11 i.2.2.1 xs ∧ Each (RBind i.2.2.2.1) i.2.1 xs) ∧ i.2.1.length ≤ l.length + 1 ∧ (i.1.bad = false → 1 + sizeBs i.2.1 ≤ 40 * (i.1.at_ - r.at_) ∧ i.2.1.length ≤ i.1.at_ - r.at_) ∧ ∀ ms u, ManyR l e (BindR (expRel (61 - (d + 1))) l e) i.1 ms u → ∃ zs, i.2.1 ++ ms = y :: zs ∧ ManyR l e (BindR (expRel (61 - (d + 1))) l e) sB zs u) (fun i => 2 * (l.length - i.1.at_) + (if i.1.bad then 0 else 1)) (sB, [y], .slice pC nC cC, FC, rC) ⟨PH.le_refl _, gA.trans gB, gB.le, ⟨_, hrC, each_one1 (hyR.mono hFC)⟩, by simp, fun hb' => ?_, fun ms u q => ⟨ms, rfl, q⟩⟩ (by simp [subk, Eng.look]) (List.Sublist.refl _) rfl (subR_refl _) ?_
      · have q1 := hcB hb'
        have q2 := hoB hb'
        have q3 := hszA (gB.good hb')
        simp only [sizeBs, List.length_singleton]
        omega
      rintro ⟨s, ys, v, FD, rD⟩ ⟨hFD, gD, hleD, ⟨xs, hrD, heaD⟩, hlenD, hcD, hmD⟩ G3 hG3
      dsimp only at hFD gD hleD hrD heaD hlenD hcD hmD hG3 ⊢
      have hFFD := PH.le_trans hFFC hFD
      have hxl := Each.len (fun _ _ h => RBind.len h) heaD
      obtain ⟨pD, nD, cD, rfl⟩ := hrD.val
      refine VC.go 3 ?_
      cases hbD : s.bad with
      | true =>
        simp only [push_cast, ↓reduceIte, Nat.reduceEqDiff, Nat.reduceAdd, Nat.reduceMul, Nat.reduceSub, Nat.reduceLT, Nat.reduceLeDiff, reduceCtorEq, Nat.reduceMod, Int.reduceEq, Int.reduceLT, Int.reduceLE, Int.reduceToNat, dite_true, hone, hbD]
        refine VC.freezeR (List.Perm.refl _) fun FE hFE hrF => ?_
        refine VC.go 100 ?_
        simp only [push_cast, ↓reduceIte, Nat.reduceEqDiff, Nat.reduceAdd, Nat.reduceMul, Nat.reduceSub, Nat.reduceLT, Nat.reduceLeDiff, reduceCtorEq, Nat.reduceMod, Int.reduceEq, Int.reduceLT, Int.reduceLE, Int.reduceToNat, dite_true, hone]
        exact hG2 (s, ys, .slice pD nD cD, FE) _ ⟨PH.le_trans hFD hFE, gD, row_sle (by decide) (fun _ _ h => RBind.len h) hrD (heaD.mono fun _ _ _ h => h.mono hFE) hrF, (fun hb' => by rw [hbD] at hb'; cases hb'), by have := hmD [] s (.done (.inl hbD)); rwa [List.append_nil] at this⟩ (by simp [subk, Eng.look]) (List.Sublist.refl _) rfl ⟨[], List.nil_sublist _, .refl _⟩
      | false =>
      have hcD2 := hcD hbD
      simp only [push_cast, ↓reduceIte, Nat.reduceEqDiff, Nat.reduceAdd, Nat.reduceMul, Nat.reduceSub, Nat.reduceLT, Nat.reduceLeDiff, reduceCtorEq, Nat.reduceMod, Int.reduceEq, Int.reduceLT, Int.reduceLE, Int.reduceToNat, dite_true, hone, hbD]
      refine CallV.own (i := 0) rfl (is_ FD b vl l e s ⟨#[125]⟩ (hl.mono hFFD) gD.lt) ?_
      rintro _ FE _ hFE ⟨rfl, rfl⟩
      cases hkE : isR l e s ⟨#[125]⟩ with
      | true =>
        simp only [push_cast, ↓reduceIte, Nat.reduceEqDiff, Nat.reduceAdd, Nat.reduceMul, Nat.reduceSub, Nat.reduceLT, Nat.reduceLeDiff, reduceCtorEq, Nat.reduceMod, Int.reduceEq, Int.reduceLT, Int.reduceLE, Int.reduceToNat, dite_true, hone]
        refine VC.freezeR (List.Perm.refl _) fun FH hFH hrF => ?_
        refine VC.go 100 ?_
        simp only [push_cast, ↓reduceIte, Nat.reduceEqDiff, Nat.reduceAdd, Nat.reduceMul, Nat.reduceSub, Nat.reduceLT, Nat.reduceLeDiff, reduceCtorEq, Nat.reduceMod, Int.reduceEq, Int.reduceLT, Int.reduceLE, Int.reduceToNat, dite_true, hone]
        exact hG2 (s, ys, .slice pD nD cD, FH) _ ⟨PH.le_trans hFD (PH.le_trans hFE hFH), gD, row_sle (by decide) (fun _ _ h => RBind.len h) hrD (heaD.mono fun _ _ _ h => h.mono (PH.le_trans hFE hFH)) hrF, fun hb' => ⟨hcD2.1, hleD⟩, by have := hmD [] s (.done (.inr hkE)); rwa [List.append_nil] at this⟩ (by simp [subk, Eng.look]) (List.Sublist.refl _) rfl ⟨[], List.nil_sublist _, .refl _⟩
      | false =>
      simp only [push_cast, ↓reduceIte, Nat.reduceEqDiff, Nat.reduceAdd, Nat.reduceMul, Nat.reduceSub, Nat.reduceLT, Nat.reduceLeDiff, reduceCtorEq, Nat.reduceMod, Int.reduceEq, Int.reduceLT, Int.reduceLE, Int.reduceToNat, dite_true, hone]
      refine VC.go 100 ?_
      simp only [push_cast, ↓reduceIte, Nat.reduceEqDiff, Nat.reduceAdd, Nat.reduceMul, Nat.reduceSub, Nat.reduceLT, Nat.reduceLeDiff, reduceCtorEq, Nat.reduceMod, Int.reduceEq, Int.reduceLT, Int.reduceLE, Int.reduceToNat, dite_true, hone]
      refine VC.draw (.q 0 (.q 1 (.q 2 (.q 3 (.q 4 (.es 5 [0, 1, 2, 3, 4] (.e 6 (.e 7 (.q 8 (.e 9 (.done))))))))))) mixed (by rfl) ?_
      simp only [push_cast, ↓reduceIte, Nat.reduceEqDiff, Nat.reduceAdd, Nat.reduceMul, Nat.reduceSub, Nat.reduceLT, Nat.reduceLeDiff, reduceCtorEq, Nat.reduceMod, Int.reduceEq, Int.reduceLT, Int.reduceLE, Int.reduceToNat, dite_true, hone, e3]
      refine CallV.own (i := 0) rfl (hBd FE b vl l e s (hl.mono (PH.le_trans hFFD hFE)) gD.lt) ?_
      rintro _ FH _ hFH ⟨sH, z, csz, rfl, rfl, gH, hz, hcH, hoH, hzr⟩
      have hzo := RBind.one hz
      have hzl := RBind.len hz
      have hzR := hz
      obtain ⟨wZ, cZ, rfl, hwZ, hcZe⟩ := RBind_iff.1 hz
      obtain ⟨pwZ, cwZ, rfl, _, _, _⟩ := hwZ
      obtain ⟨xaZ, xbZ, xeZ, xlZ, rfl, hXZ⟩ := RExp_iff.1 hcZe
      obtain ⟨_, _, _, _, _, _, _, _, rfl, rfl, rfl, rfl⟩ := hXZ.slices
      simp only [push_cast, ↓reduceIte, Nat.reduceEqDiff, Nat.reduceAdd, Nat.reduceMul, Nat.reduceSub, Nat.reduceLT, Nat.reduceLeDiff, reduceCtorEq, Nat.reduceMod, Int.reduceEq, Int.reduceLT, Int.reduceLE, Int.reduceToNat, dite_true, hone, e3]
      intro bH FI hFI hbI
      refine Eff.append (xs := xs) (ys := _) rfl rfl rfl ty23 rfl ty53 rfl (by decide) rfl rfl (List.Perm.refl _) hrD (Src.blk hbI rfl) hzo (by simp; omega) (by decide) ?_
      intro vI rI hrI
      obtain ⟨pI, nI, cI, rfl⟩ := hrI.val
      have gHl := gH.le
      have gHt := gH.lt
      simp only [push_cast, ↓reduceIte, Nat.reduceEqDiff, Nat.reduceAdd, Nat.reduceMul, Nat.reduceSub, Nat.reduceLT, Nat.reduceLeDiff, reduceCtorEq, Nat.reduceMod, Int.reduceEq, Int.reduceLT, Int.reduceLE, Int.reduceToNat, dite_true, hone]
      refine VC.go 100 ?_
      simp only [push_cast, ↓reduceIte, Nat.reduceEqDiff, Nat.reduceAdd, Nat.reduceMul, Nat.reduceSub, Nat.reduceLT, Nat.reduceLeDiff, reduceCtorEq, Nat.reduceMod, Int.reduceEq, Int.reduceLT, Int.reduceLE, Int.reduceToNat, dite_true, hone]
      refine hG3 (sH, ys ++ [z], .slice pI nI cI, FI, rI) _ ⟨PH.le_trans hFD (PH.le_trans hFE (PH.le_trans hFH hFI)), gD.trans gH, Nat.le_trans hleD gHl, ⟨_, hrI, each_snoc (heaD.mono fun _ _ _ h => h.mono (PH.le_trans hFE (PH.le_trans hFH hFI))) (hzR.mono hFI)⟩, by simp; have := gD.lt; omega, fun hb' => ?_, fun ms u q => by dsimp only; rw [List.append_assoc]; exact hmD _ _ (.more hbD hkE hzr q)⟩ ?_ (by simp [subk, Eng.look]) (List.Sublist.refl _) rfl (subR_refl _)
      · have q1 := hcH hb'
        have q2 := hoH hb'
        dsimp only
        rw [sizeBs_append]
        simp only [sizeBs, List.length_append, List.length_singleton]
        omega
      · dsimp only
        rw [hbD]
        cases hbH : sH.bad with
        | true => simp; omega
        | false => have := hoH hbH; simp; omega
    rintro ⟨s3, ys, vv, FJ⟩ ⟨hFJ, gJ, hsJ, hcJ, zs, hzs, hmJ⟩
    dsimp only at hFJ gJ hsJ hcJ hzs hmJ ⊢
    have hFFJ := PH.le_trans hFFC hFJ
    have hsJ' := hsJ
    obtain ⟨pJ, cJ, rfl, _, _⟩ := hsJ.val
    refine VC.go 100 ?_
    simp only [push_cast, ↓reduceIte, Nat.reduceEqDiff, Nat.reduceAdd, Nat.reduceMul, Nat.reduceSub, Nat.reduceLT, Nat.reduceLeDiff, reduceCtorEq, Nat.reduceMod, Int.reduceEq, Int.reduceLT, Int.reduceLE, Int.reduceToNat, dite_true, hone]
    refine CallV.own (i := 0) rfl (want FJ b vl l e s3 ⟨#[125]⟩ (hl.mono hFFJ) gJ.lt) ?_
    rintro _ FK _ hFK rfl
    have gK := go_want (l := l) (e := e) (r := s3) (s := ⟨#[125]⟩) gJ.lt
    obtain ⟨s4, hs4⟩ : ∃ s4, s4 = wantR l e s3 ⟨#[125]⟩ := ⟨_, rfl⟩
    rw [← hs4] at gK ⊢
    simp only [push_cast, ↓reduceIte, Nat.reduceEqDiff, Nat.reduceAdd, Nat.reduceMul, Nat.reduceSub, Nat.reduceLT, Nat.reduceLeDiff, reduceCtorEq, Nat.reduceMod, Int.reduceEq, Int.reduceLT, Int.reduceLE, Int.reduceToNat, dite_true, hone]
    refine CallV.own (i := 0) rfl (want FK b vl l e s4 ⟨#[105, 110]⟩ (hl.mono (PH.le_trans hFFJ hFK)) gK.lt) ?_
    rintro _ FL _ hFL rfl
    have gL := go_want (l := l) (e := e) (r := s4) (s := ⟨#[105, 110]⟩) gK.lt
    obtain ⟨s5, hs5⟩ : ∃ s5, s5 = wantR l e s4 ⟨#[105, 110]⟩ := ⟨_, rfl⟩
    rw [← hs5] at gL ⊢
    simp only [push_cast, ↓reduceIte, Nat.reduceEqDiff, Nat.reduceAdd, Nat.reduceMul, Nat.reduceSub, Nat.reduceLT, Nat.reduceLeDiff, reduceCtorEq, Nat.reduceMod, Int.reduceEq, Int.reduceLT, Int.reduceLE, Int.reduceToNat, dite_true, hone]
    refine VC.emp ?_
    refine VC.draw (.q 0 (.q 1 (.q 2 (.q 3 (.q 4 (.es 5 [0, 1, 2, 3, 4] (.e 6 (.e 7 (.q 8 (.e 9 (.done))))))))))) mixed (by rfl) ?_
    simp only [push_cast, ↓reduceIte, Nat.reduceEqDiff, Nat.reduceAdd, Nat.reduceMul, Nat.reduceSub, Nat.reduceLT, Nat.reduceLeDiff, reduceCtorEq, Nat.reduceMod, Int.reduceEq, Int.reduceLT, Int.reduceLE, Int.reduceToNat, dite_true, hone, e3]
    refine CallV.own (i := 0) rfl (hE FL b vl l e s5 (hl.mono (PH.le_trans hFFJ (PH.le_trans hFK hFL))) gL.lt) ?_
    rintro _ FM _ hFM ⟨s6, x, cs, rfl, rfl, gM, hx, hcM, hxr⟩
    have hxo := RExp.one hx
    have hxR := hx
    obtain ⟨xa, xb, xe, xl, rfl, hX⟩ := RExp_iff.1 hx
    obtain ⟨_, _, _, _, _, _, _, _, rfl, rfl, rfl, rfl⟩ := hX.slices
    simp only [push_cast, ↓reduceIte, Nat.reduceEqDiff, Nat.reduceAdd, Nat.reduceMul, Nat.reduceSub, Nat.reduceLT, Nat.reduceLeDiff, reduceCtorEq, Nat.reduceMod, Int.reduceEq, Int.reduceLT, Int.reduceLE, Int.reduceToNat, dite_true, hone, e3]
    intro bM FN hFN hbN
    refine Eff.append (xs := []) (ys := _) rfl rfl rfl ty46 rfl ty49 rfl (by decide) rfl rfl (List.Perm.refl _) (Row.nil _ _) (Src.blk hbN rfl) hxo (by simp) (by decide) ?_
    intro vN rN hrN
    rw [List.nil_append] at hrN
    obtain ⟨pN, nN, cN, rfl⟩ := hrN.val
    simp only [push_cast, ↓reduceIte, Nat.reduceEqDiff, Nat.reduceAdd, Nat.reduceMul, Nat.reduceSub, Nat.reduceLT, Nat.reduceLeDiff, reduceCtorEq, Nat.reduceMod, Int.reduceEq, Int.reduceLT, Int.reduceLE, Int.reduceToNat, dite_true, hone]
    refine VC.freezeR (List.Perm.refl _) fun FO hFO hrF => ?_
    have hFJO := PH.le_trans hFK (PH.le_trans hFL (PH.le_trans hFM (PH.le_trans hFN hFO)))
    refine VC.go 100 ?_
    simp only [push_cast, ↓reduceIte, Nat.reduceEqDiff, Nat.reduceAdd, Nat.reduceMul, Nat.reduceSub, Nat.reduceLT, Nat.reduceLeDiff, reduceCtorEq, Nat.reduceMod, Int.reduceEq, Int.reduceLT, Int.reduceLE, Int.reduceToNat, dite_true, hone]
    refine hG s6 (.mk 5 t.at_ ⟨#[]⟩ 0 [] ys [x] []) _ _ _ _ FO _ (PH.le_trans hFFJ hFJO) (gJ.trans (gK.trans (gL.trans gM))) ⟨sl0 _, hsJ'.mono hFJO (fun _ _ _ h => h.mono hFJO), row_sle (by decide) (fun _ _ h => RExp.len h) hrN (each_one1 (hxR.mono (PH.le_trans hFN hFO))) hrF, nil_sle _ _ _⟩ (fun hb' => ?_) (by unfold StepR; rw [if_neg (by rw [hb]; decide), ← ht, if_neg k4, if_neg (by omega), if_pos i1]; exact ⟨y, sB, zs, s3, x, by rw [← hsA]; exact hyr, hmJ, by rw [← hs4, ← hs5]; exact hxr, by rw [← ht, hzs]⟩) (by simp [subk, Eng.look]) (List.Sublist.refl _) rfl
    have q1 := hcM hb'
    have q2 := (hcJ (gK.good (gL.good (gM.good hb')))).1
    have q3 := gK.le
    have q4 := gL.le
    have q5 := gM.le
    have q6 := gJ.le
    have : (⟨#[]⟩ : ByteArray).size = 0 := rfl
    simp only [Exp.size, sizeA, sizeEs, sizeLs]
    omega
  | false =>
  simp only [push_cast, ↓reduceIte, Nat.reduceEqDiff, Nat.reduceAdd, Nat.reduceMul, Nat.reduceSub, Nat.reduceLT, Nat.reduceLeDiff, reduceCtorEq, Nat.reduceMod, Int.reduceEq, Int.reduceLT, Int.reduceLE, Int.reduceToNat, dite_true, hone]
  refine CallV.own (i := 0) rfl (is_ F2 b vl l e r ⟨#[99, 97, 115, 101]⟩ (hl.mono hF02) hr) ?_
  rintro _ F3 _ hF3 ⟨rfl, rfl⟩
  have hF03 := PH.le_trans hF02 hF3
  cases i2 : isR l e r ⟨#[99, 97, 115, 101]⟩ with
  | true =>
    obtain ⟨g1, g2, g3⟩ := hon (by rw [ht]; exact isR_k i2)
    simp only [push_cast, ↓reduceIte, Nat.reduceEqDiff, Nat.reduceAdd, Nat.reduceMul, Nat.reduceSub, Nat.reduceLT, Nat.reduceLeDiff, reduceCtorEq, Nat.reduceMod, Int.reduceEq, Int.reduceLT, Int.reduceLE, Int.reduceToNat, dite_true, hone]
    refine CallV.own (i := 0) rfl (on F3 b vl l e r (hl.mono hF03) hr) ?_
    rintro _ F4 _ hF4 rfl
    have hF04 := PH.le_trans hF03 hF4
    simp only [push_cast, ↓reduceIte, Nat.reduceEqDiff, Nat.reduceAdd, Nat.reduceMul, Nat.reduceSub, Nat.reduceLT, Nat.reduceLeDiff, reduceCtorEq, Nat.reduceMod, Int.reduceEq, Int.reduceLT, Int.reduceLE, Int.reduceToNat, dite_true, hone]
    refine VC.emp ?_
    refine VC.draw (.q 0 (.q 1 (.q 2 (.q 3 (.q 4 (.es 5 [0, 1, 2, 3, 4] (.e 6 (.e 7 (.q 8 (.e 9 (.done))))))))))) mixed (by rfl) ?_
    simp only [push_cast, ↓reduceIte, Nat.reduceEqDiff, Nat.reduceAdd, Nat.reduceMul, Nat.reduceSub, Nat.reduceLT, Nat.reduceLeDiff, reduceCtorEq, Nat.reduceMod, Int.reduceEq, Int.reduceLT, Int.reduceLE, Int.reduceToNat, dite_true, hone, e3]
    refine CallV.own (i := 0) rfl (hE F4 b vl l e (onR r) (hl.mono hF04) g1.lt) ?_
    rintro _ FM _ hFM ⟨s1, kx, cs, rfl, rfl, gM, hx, hcM, hkr⟩
    have hxo := RExp.one hx
    have hxR := hx
    obtain ⟨xa, xb, xe, xl, rfl, hX⟩ := RExp_iff.1 hx
    obtain ⟨_, _, _, _, _, _, _, _, rfl, rfl, rfl, rfl⟩ := hX.slices
    simp only [push_cast, ↓reduceIte, Nat.reduceEqDiff, Nat.reduceAdd, Nat.reduceMul, Nat.reduceSub, Nat.reduceLT, Nat.reduceLeDiff, reduceCtorEq, Nat.reduceMod, Int.reduceEq, Int.reduceLT, Int.reduceLE, Int.reduceToNat, dite_true, hone, e3]
    intro bM FN hFN hbN
    refine Eff.append (xs := []) (ys := _) rfl rfl rfl ty46 rfl ty49 rfl (by decide) rfl rfl (List.Perm.refl _) (Row.nil _ _) (Src.blk hbN rfl) hxo (by simp) (by decide) ?_
    intro vN rN hrN
    rw [List.nil_append] at hrN
    obtain ⟨pN, nN, cN, rfl⟩ := hrN.val
    simp only [push_cast, ↓reduceIte, Nat.reduceEqDiff, Nat.reduceAdd, Nat.reduceMul, Nat.reduceSub, Nat.reduceLT, Nat.reduceLeDiff, reduceCtorEq, Nat.reduceMod, Int.reduceEq, Int.reduceLT, Int.reduceLE, Int.reduceToNat, dite_true, hone]
    refine VC.freezeR (List.Perm.refl _) fun FO hFO hrF => ?_
    have hkk : SlE FO 8 (RExp FO) (.slice pN nN cN) [kx] := row_sle (by decide) (fun _ _ h => RExp.len h) hrN (each_one1 (hxR.mono (PH.le_trans hFN hFO))) hrF
    have hkk' := hkk
    obtain ⟨pk, ck, ek, _, _⟩ := hkk.val
    cases ek
    have hFO4 := PH.le_trans hF04 (PH.le_trans hFM (PH.le_trans hFN hFO))
    refine VC.go 100 ?_
    simp only [push_cast, ↓reduceIte, Nat.reduceEqDiff, Nat.reduceAdd, Nat.reduceMul, Nat.reduceSub, Nat.reduceLT, Nat.reduceLeDiff, reduceCtorEq, Nat.reduceMod, Int.reduceEq, Int.reduceLT, Int.reduceLE, Int.reduceToNat, dite_true, hone]
    refine CallV.own (i := 0) rfl (want FO b vl l e s1 ⟨#[111, 102]⟩ (hl.mono hFO4) gM.lt) ?_
    rintro _ FP _ hFP rfl
    have gP := go_want (l := l) (e := e) (r := s1) (s := ⟨#[111, 102]⟩) gM.lt
    obtain ⟨s2, hs2⟩ : ∃ s2, s2 = wantR l e s1 ⟨#[111, 102]⟩ := ⟨_, rfl⟩
    rw [← hs2] at gP ⊢
    simp only [push_cast, ↓reduceIte, Nat.reduceEqDiff, Nat.reduceAdd, Nat.reduceMul, Nat.reduceSub, Nat.reduceLT, Nat.reduceLeDiff, reduceCtorEq, Nat.reduceMod, Int.reduceEq, Int.reduceLT, Int.reduceLE, Int.reduceToNat, dite_true, hone]
    refine CallV.own (i := 0) rfl (want FP b vl l e s2 ⟨#[123]⟩ (hl.mono (PH.le_trans hFO4 hFP)) gP.lt) ?_
    rintro _ FA _ hFA0 rfl
    have gA0 := go_want (l := l) (e := e) (r := s2) (s := ⟨#[123]⟩) gP.lt
    obtain ⟨sA, hsA⟩ : ∃ sA, sA = wantR l e s2 ⟨#[123]⟩ := ⟨_, rfl⟩
    rw [← hsA] at gA0 ⊢
    have gA := g1.trans (gM.trans (gP.trans gA0))
    have hFA := PH.le_trans hFO4 (PH.le_trans hFP hFA0)
    have hszA : sA.bad = false → 1 + kx.size ≤ 40 * (sA.at_ - r.at_) := fun hb' => by
      have q1 := hcM (gP.good (gA0.good hb'))
      have q2 := gP.le
      have q3 := gA0.le
      have q4 := gM.le
      omega
    have gA2 := gP.le
    have gA3 := gA0.le
    have gA4 := gM.le
    have hszB : r.at_ + 1 ≤ sA.at_ := by omega
    simp only [push_cast, ↓reduceIte, Nat.reduceEqDiff, Nat.reduceAdd, Nat.reduceMul, Nat.reduceSub, Nat.reduceLT, Nat.reduceLeDiff, reduceCtorEq, Nat.reduceMod, Int.reduceEq, Int.reduceLT, Int.reduceLE, Int.reduceToNat, dite_true, hone]
    refine VC.emp ?_
    refine VC.draw (.q 0 (.q 1 (.q 2 (.q 3 (.q 4 (.es 5 [0, 1, 2, 3, 4] (.e 6 (.e 7 (.q 8 (.e 9 (.done))))))))))) mixed (by rfl) ?_
    simp only [push_cast, ↓reduceIte, Nat.reduceEqDiff, Nat.reduceAdd, Nat.reduceMul, Nat.reduceSub, Nat.reduceLT, Nat.reduceLeDiff, reduceCtorEq, Nat.reduceMod, Int.reduceEq, Int.reduceLT, Int.reduceLE, Int.reduceToNat, dite_true, hone, e3]
    refine CallV.own (i := 0) rfl (hA FA b vl l e sA (hl.mono hFA) gA.lt) ?_
    rintro _ FB _ hFB ⟨sB, y, cs, rfl, rfl, gB, hy, hcB, hoB, hyr⟩
    have hyo := RAlt.one hy
    have hyl := RAlt.len hy
    have hyR := hy
    obtain ⟨wY, cY, rfl, hwY, hcYe⟩ := RAlt_iff.1 hy
    obtain ⟨pwY, cwY, rfl, _, _, _⟩ := hwY
    obtain ⟨xaY, xbY, xeY, xlY, rfl, hXY⟩ := RExp_iff.1 hcYe
    obtain ⟨_, _, _, _, _, _, _, _, rfl, rfl, rfl, rfl⟩ := hXY.slices
    simp only [push_cast, ↓reduceIte, Nat.reduceEqDiff, Nat.reduceAdd, Nat.reduceMul, Nat.reduceSub, Nat.reduceLT, Nat.reduceLeDiff, reduceCtorEq, Nat.reduceMod, Int.reduceEq, Int.reduceLT, Int.reduceLE, Int.reduceToNat, dite_true, hone, e3]
    intro bB FC hFC hbC
    refine Eff.append (xs := []) (ys := _) rfl rfl rfl ty47 rfl ty148 rfl (by decide) rfl rfl (List.Perm.refl _) (Row.nil _ _) (Src.blk hbC rfl) hyo (by simp) (by decide) ?_
    intro vC rC hrC
    rw [List.nil_append] at hrC
    obtain ⟨pC, nC, cC, rfl⟩ := hrC.val
    have hFFC := PH.le_trans hFA (PH.le_trans hFB hFC)
    simp only [push_cast, ↓reduceIte, Nat.reduceEqDiff, Nat.reduceAdd, Nat.reduceMul, Nat.reduceSub, Nat.reduceLT, Nat.reduceLeDiff, reduceCtorEq, Nat.reduceMod, Int.reduceEq, Int.reduceLT, Int.reduceLE, Int.reduceToNat, dite_true, hone]
    refine VC.go 1 ?_
    simp only [push_cast, ↓reduceIte, Nat.reduceEqDiff, Nat.reduceAdd, Nat.reduceMul, Nat.reduceSub, Nat.reduceLT, Nat.reduceLeDiff, reduceCtorEq, Nat.reduceMod, Int.reduceEq, Int.reduceLT, Int.reduceLE, Int.reduceToNat, dite_true]
    refine VC.cutMR (ι := Rd × List Alt × Value × PH) (fun i => [(6, .o 3 b6 0), (5, .o 2 b5 0), (4, .o 1 b4 0), (1, .v (.int .i64 d)), (0, .o 0 b 0)])
      (fun i => [⟨0, b, 97, rdC vl e i.1⟩, ⟨1, b4, 49, expZ⟩, ⟨2, b5, 99, tokC t⟩, ⟨3, b6, 49, [.int .i64 6, .int .i64 t.at_, .string ⟨#[]⟩, .int .i64 0, (.slice none 0 0), (.slice none 0 0), (.slice pN [kx].length cN), i.2.2.1]⟩]) (fun i => i.2.2.2) (fun _ => []) (fun i => FC.le i.2.2.2 ∧ Go l r i.1 ∧ SlE i.2.2.2 13 (RAlt i.2.2.2) i.2.2.1 i.2.1 ∧ (i.1.bad = false → 1 + kx.size + sizeLs i.2.1 ≤ 40 * (i.1.at_ - r.at_) ∧ sA.at_ ≤ i.1.at_) ∧ ∃ zs, i.2.1 = y :: zs ∧ ManyR l e (AltR (expRel (61 - (d + 1))) l e) sB zs i.1) ?_ ?_
    · intro G2 hG2
      refine VC.go 100 ?_
      simp only [push_cast, ↓reduceIte, Nat.reduceEqDiff, Nat.reduceAdd, Nat.reduceMul, Nat.reduceSub, Nat.reduceLT, Nat.reduceLeDiff, reduceCtorEq, Nat.reduceMod, Int.reduceEq, Int.reduceLT, Int.reduceLE, Int.reduceToNat, dite_true]
      refine VC.loopMR (ι := Rd × List Alt × Value × PH × PH) (fun i => [(6, .o 3 b6 0), (5, .o 2 b5 0), (4, .o 1 b4 0), (1, .v (.int .i64 d)), (0, .o 0 b 0)])
        (fun i => [⟨0, b, 97, rdC vl e i.1⟩, ⟨1, b4, 49, expZ⟩, ⟨2, b5, 99, tokC t⟩, ⟨3, b6, 49, [.int .i64 6, .int .i64 t.at_, .string ⟨#[]⟩, .int .i64 0, (.slice none 0 0), (.slice none 0 0), (.slice pN [kx].length cN), i.2.2.1]⟩]) (fun i => i.2.2.2.1) (fun i => [i.2.2.2.2]) (fun i => FC.le i.2.2.2.1 ∧ Go l r i.1 ∧ sA.at_ ≤ i.1.at_ ∧ (∃ xs, Row i.2.2.2.2 148 13 i.2.2.1 xs ∧ Each (RAlt i.2.2.2.1) i.2.1 xs) ∧ i.2.1.length ≤ l.length + 1 ∧ (i.1.bad = false → 1 + kx.size + sizeLs i.2.1 ≤ 40 * (i.1.at_ - r.at_) ∧ i.2.1.length ≤ i.1.at_ - r.at_) ∧ ∀ ms u, ManyR l e (AltR (expRel (61 - (d + 1))) l e) i.1 ms u → ∃ zs, i.2.1 ++ ms = y :: zs ∧ ManyR l e (AltR (expRel (61 - (d + 1))) l e) sB zs u) (fun i => 2 * (l.length - i.1.at_) + (if i.1.bad then 0 else 1)) (sB, [y], .slice pC nC cC, FC, rC) ⟨PH.le_refl _, gA.trans gB, gB.le, ⟨_, hrC, each_one1 (hyR.mono hFC)⟩, by simp, fun hb' => ?_, fun ms u q => ⟨ms, rfl, q⟩⟩ (by simp [subk, Eng.look]) (List.Sublist.refl _) rfl (subR_refl _) ?_
      · have q1 := hcB hb'
        have q2 := hoB hb'
        have q3 := hszA (gB.good hb')
        simp only [sizeLs, List.length_singleton]
        omega
      rintro ⟨s, ys, v, FD, rD⟩ ⟨hFD, gD, hleD, ⟨xs, hrD, heaD⟩, hlenD, hcD, hmD⟩ G3 hG3
      dsimp only at hFD gD hleD hrD heaD hlenD hcD hmD hG3 ⊢
      have hFFD := PH.le_trans hFFC hFD
      have hxl := Each.len (fun _ _ h => RAlt.len h) heaD
      obtain ⟨pD, nD, cD, rfl⟩ := hrD.val
      refine VC.go 3 ?_
      cases hbD : s.bad with
      | true =>
        simp only [push_cast, ↓reduceIte, Nat.reduceEqDiff, Nat.reduceAdd, Nat.reduceMul, Nat.reduceSub, Nat.reduceLT, Nat.reduceLeDiff, reduceCtorEq, Nat.reduceMod, Int.reduceEq, Int.reduceLT, Int.reduceLE, Int.reduceToNat, dite_true, hone, hbD]
        refine VC.freezeR (List.Perm.refl _) fun FE hFE hrF => ?_
        refine VC.go 100 ?_
        simp only [push_cast, ↓reduceIte, Nat.reduceEqDiff, Nat.reduceAdd, Nat.reduceMul, Nat.reduceSub, Nat.reduceLT, Nat.reduceLeDiff, reduceCtorEq, Nat.reduceMod, Int.reduceEq, Int.reduceLT, Int.reduceLE, Int.reduceToNat, dite_true, hone]
        exact hG2 (s, ys, .slice pD nD cD, FE) _ ⟨PH.le_trans hFD hFE, gD, row_sle (by decide) (fun _ _ h => RAlt.len h) hrD (heaD.mono fun _ _ _ h => h.mono hFE) hrF, (fun hb' => by rw [hbD] at hb'; cases hb'), by have := hmD [] s (.done (.inl hbD)); rwa [List.append_nil] at this⟩ (by simp [subk, Eng.look]) (List.Sublist.refl _) rfl ⟨[], List.nil_sublist _, .refl _⟩
      | false =>
      have hcD2 := hcD hbD
      simp only [push_cast, ↓reduceIte, Nat.reduceEqDiff, Nat.reduceAdd, Nat.reduceMul, Nat.reduceSub, Nat.reduceLT, Nat.reduceLeDiff, reduceCtorEq, Nat.reduceMod, Int.reduceEq, Int.reduceLT, Int.reduceLE, Int.reduceToNat, dite_true, hone, hbD]
      refine CallV.own (i := 0) rfl (is_ FD b vl l e s ⟨#[125]⟩ (hl.mono hFFD) gD.lt) ?_
      rintro _ FE _ hFE ⟨rfl, rfl⟩
      cases hkE : isR l e s ⟨#[125]⟩ with
      | true =>
        simp only [push_cast, ↓reduceIte, Nat.reduceEqDiff, Nat.reduceAdd, Nat.reduceMul, Nat.reduceSub, Nat.reduceLT, Nat.reduceLeDiff, reduceCtorEq, Nat.reduceMod, Int.reduceEq, Int.reduceLT, Int.reduceLE, Int.reduceToNat, dite_true, hone]
        refine VC.freezeR (List.Perm.refl _) fun FH hFH hrF => ?_
        refine VC.go 100 ?_
        simp only [push_cast, ↓reduceIte, Nat.reduceEqDiff, Nat.reduceAdd, Nat.reduceMul, Nat.reduceSub, Nat.reduceLT, Nat.reduceLeDiff, reduceCtorEq, Nat.reduceMod, Int.reduceEq, Int.reduceLT, Int.reduceLE, Int.reduceToNat, dite_true, hone]
        exact hG2 (s, ys, .slice pD nD cD, FH) _ ⟨PH.le_trans hFD (PH.le_trans hFE hFH), gD, row_sle (by decide) (fun _ _ h => RAlt.len h) hrD (heaD.mono fun _ _ _ h => h.mono (PH.le_trans hFE hFH)) hrF, fun hb' => ⟨hcD2.1, hleD⟩, by have := hmD [] s (.done (.inr hkE)); rwa [List.append_nil] at this⟩ (by simp [subk, Eng.look]) (List.Sublist.refl _) rfl ⟨[], List.nil_sublist _, .refl _⟩
      | false =>
      simp only [push_cast, ↓reduceIte, Nat.reduceEqDiff, Nat.reduceAdd, Nat.reduceMul, Nat.reduceSub, Nat.reduceLT, Nat.reduceLeDiff, reduceCtorEq, Nat.reduceMod, Int.reduceEq, Int.reduceLT, Int.reduceLE, Int.reduceToNat, dite_true, hone]
      refine VC.go 100 ?_
      simp only [push_cast, ↓reduceIte, Nat.reduceEqDiff, Nat.reduceAdd, Nat.reduceMul, Nat.reduceSub, Nat.reduceLT, Nat.reduceLeDiff, reduceCtorEq, Nat.reduceMod, Int.reduceEq, Int.reduceLT, Int.reduceLE, Int.reduceToNat, dite_true, hone]
      refine VC.draw (.q 0 (.q 1 (.q 2 (.q 3 (.q 4 (.es 5 [0, 1, 2, 3, 4] (.e 6 (.e 7 (.q 8 (.e 9 (.done))))))))))) mixed (by rfl) ?_
      simp only [push_cast, ↓reduceIte, Nat.reduceEqDiff, Nat.reduceAdd, Nat.reduceMul, Nat.reduceSub, Nat.reduceLT, Nat.reduceLeDiff, reduceCtorEq, Nat.reduceMod, Int.reduceEq, Int.reduceLT, Int.reduceLE, Int.reduceToNat, dite_true, hone, e3]
      refine CallV.own (i := 0) rfl (hA FE b vl l e s (hl.mono (PH.le_trans hFFD hFE)) gD.lt) ?_
      rintro _ FH _ hFH ⟨sH, z, csz, rfl, rfl, gH, hz, hcH, hoH, hzr⟩
      have hzo := RAlt.one hz
      have hzl := RAlt.len hz
      have hzR := hz
      obtain ⟨wZ, cZ, rfl, hwZ, hcZe⟩ := RAlt_iff.1 hz
      obtain ⟨pwZ, cwZ, rfl, _, _, _⟩ := hwZ
      obtain ⟨xaZ, xbZ, xeZ, xlZ, rfl, hXZ⟩ := RExp_iff.1 hcZe
      obtain ⟨_, _, _, _, _, _, _, _, rfl, rfl, rfl, rfl⟩ := hXZ.slices
      simp only [push_cast, ↓reduceIte, Nat.reduceEqDiff, Nat.reduceAdd, Nat.reduceMul, Nat.reduceSub, Nat.reduceLT, Nat.reduceLeDiff, reduceCtorEq, Nat.reduceMod, Int.reduceEq, Int.reduceLT, Int.reduceLE, Int.reduceToNat, dite_true, hone, e3]
      intro bH FI hFI hbI
      refine Eff.append (xs := xs) (ys := _) rfl rfl rfl ty47 rfl ty148 rfl (by decide) rfl rfl (List.Perm.refl _) hrD (Src.blk hbI rfl) hzo (by simp; omega) (by decide) ?_
      intro vI rI hrI
      obtain ⟨pI, nI, cI, rfl⟩ := hrI.val
      have gHl := gH.le
      have gHt := gH.lt
      simp only [push_cast, ↓reduceIte, Nat.reduceEqDiff, Nat.reduceAdd, Nat.reduceMul, Nat.reduceSub, Nat.reduceLT, Nat.reduceLeDiff, reduceCtorEq, Nat.reduceMod, Int.reduceEq, Int.reduceLT, Int.reduceLE, Int.reduceToNat, dite_true, hone]
      refine VC.go 100 ?_
      simp only [push_cast, ↓reduceIte, Nat.reduceEqDiff, Nat.reduceAdd, Nat.reduceMul, Nat.reduceSub, Nat.reduceLT, Nat.reduceLeDiff, reduceCtorEq, Nat.reduceMod, Int.reduceEq, Int.reduceLT, Int.reduceLE, Int.reduceToNat, dite_true, hone]
      refine hG3 (sH, ys ++ [z], .slice pI nI cI, FI, rI) _ ⟨PH.le_trans hFD (PH.le_trans hFE (PH.le_trans hFH hFI)), gD.trans gH, Nat.le_trans hleD gHl, ⟨_, hrI, each_snoc (heaD.mono fun _ _ _ h => h.mono (PH.le_trans hFE (PH.le_trans hFH hFI))) (hzR.mono hFI)⟩, by simp; have := gD.lt; omega, fun hb' => ?_, fun ms u q => by dsimp only; rw [List.append_assoc]; exact hmD _ _ (.more hbD hkE hzr q)⟩ ?_ (by simp [subk, Eng.look]) (List.Sublist.refl _) rfl (subR_refl _)
      · have q1 := hcH hb'
        have q2 := hoH hb'
        dsimp only
        rw [sizeLs_append]
        simp only [sizeLs, List.length_append, List.length_singleton]
        omega
      · dsimp only
        rw [hbD]
        cases hbH : sH.bad with
        | true => simp; omega
        | false => have := hoH hbH; simp; omega
    rintro ⟨s3, ys, vv, FJ⟩ ⟨hFJ, gJ, hsJ, hcJ, zs, hzs, hmJ⟩
    dsimp only at hFJ gJ hsJ hcJ hzs hmJ ⊢
    have hFFJ := PH.le_trans hFFC hFJ
    have hsJ' := hsJ
    obtain ⟨pJ, cJ, rfl, _, _⟩ := hsJ.val
    refine VC.go 100 ?_
    simp only [push_cast, ↓reduceIte, Nat.reduceEqDiff, Nat.reduceAdd, Nat.reduceMul, Nat.reduceSub, Nat.reduceLT, Nat.reduceLeDiff, reduceCtorEq, Nat.reduceMod, Int.reduceEq, Int.reduceLT, Int.reduceLE, Int.reduceToNat, dite_true, hone]
    refine CallV.own (i := 0) rfl (want FJ b vl l e s3 ⟨#[125]⟩ (hl.mono hFFJ) gJ.lt) ?_
    rintro _ FK _ hFK rfl
    have gK := go_want (l := l) (e := e) (r := s3) (s := ⟨#[125]⟩) gJ.lt
    simp only [push_cast, ↓reduceIte, Nat.reduceEqDiff, Nat.reduceAdd, Nat.reduceMul, Nat.reduceSub, Nat.reduceLT, Nat.reduceLeDiff, reduceCtorEq, Nat.reduceMod, Int.reduceEq, Int.reduceLT, Int.reduceLE, Int.reduceToNat, dite_true, hone]
    have hFOJ : FO.le FJ := PH.le_trans hFP (PH.le_trans hFA0 (PH.le_trans hFB (PH.le_trans hFC hFJ)))
    have hFOK := PH.le_trans hFOJ hFK
    refine hG (wantR l e s3 ⟨#[125]⟩) (.mk 6 t.at_ ⟨#[]⟩ 0 [] [] [kx] ys) _ _ _ _ FK _ (PH.le_trans hFFJ hFK) (gJ.trans gK) ⟨sl0 _, nil_sle _ _ _, hkk'.mono hFOK (fun _ _ _ h => h.mono hFOK), hsJ'.mono hFK (fun _ _ _ h => h.mono hFK)⟩ (fun hb' => ?_) (by unfold StepR; rw [if_neg (by rw [hb]; decide), ← ht, if_neg k4, if_neg (by omega), if_neg (by rw [i1]; decide), if_pos i2]; exact ⟨kx, s1, y, sB, zs, s3, hkr, by rw [← hs2, ← hsA]; exact hyr, hmJ, rfl, by rw [← ht, hzs]⟩) (by simp [subk, Eng.look]) (List.Sublist.refl _) rfl
    have q2 := (hcJ (gK.good hb')).1
    have q3 := gK.le
    have q6 := gJ.le
    have : (⟨#[]⟩ : ByteArray).size = 0 := rfl
    simp only [Exp.size, sizeA, sizeEs, sizeBs]
    omega
  | false =>
  simp only [push_cast, ↓reduceIte, Nat.reduceEqDiff, Nat.reduceAdd, Nat.reduceMul, Nat.reduceSub, Nat.reduceLT, Nat.reduceLeDiff, reduceCtorEq, Nat.reduceMod, Int.reduceEq, Int.reduceLT, Int.reduceLE, Int.reduceToNat, dite_true, hone]
  refine CallV.own (i := 0) rfl (is_ F3 b vl l e r ⟨#[40]⟩ (hl.mono hF03) hr) ?_
  rintro _ F4 _ hF4 ⟨rfl, rfl⟩
  have hF04 := PH.le_trans hF03 hF4
  cases i3 : isR l e r ⟨#[40]⟩ with
  | true =>
    obtain ⟨g1, g2, g3⟩ := hon (by rw [ht]; exact isR_k i3)
    simp only [push_cast, ↓reduceIte, Nat.reduceEqDiff, Nat.reduceAdd, Nat.reduceMul, Nat.reduceSub, Nat.reduceLT, Nat.reduceLeDiff, reduceCtorEq, Nat.reduceMod, Int.reduceEq, Int.reduceLT, Int.reduceLE, Int.reduceToNat, dite_true, hone]
    refine CallV.own (i := 0) rfl (on F4 b vl l e r (hl.mono hF04) hr) ?_
    rintro _ F5 _ hF5 rfl
    have hF05 := PH.le_trans hF04 hF5
    simp only [push_cast, ↓reduceIte, Nat.reduceEqDiff, Nat.reduceAdd, Nat.reduceMul, Nat.reduceSub, Nat.reduceLT, Nat.reduceLeDiff, reduceCtorEq, Nat.reduceMod, Int.reduceEq, Int.reduceLT, Int.reduceLE, Int.reduceToNat, dite_true, hone, e3]
    refine CallV.own (i := 0) rfl (hE F5 b vl l e (onR r) (hl.mono hF05) g1.lt) ?_
    rintro _ F6 _ hF6 ⟨s1, x, cs, rfl, rfl, gM, hx, hcM, hxr⟩
    have hxR := hx
    obtain ⟨xa, xb, xe, xl, rfl, hX⟩ := RExp_iff.1 hx
    have hX' := hX
    obtain ⟨_, _, _, _, _, _, _, _, rfl, rfl, rfl, rfl⟩ := hX.slices
    have hF06 := PH.le_trans hF05 hF6
    simp only [push_cast, ↓reduceIte, Nat.reduceEqDiff, Nat.reduceAdd, Nat.reduceMul, Nat.reduceSub, Nat.reduceLT, Nat.reduceLeDiff, reduceCtorEq, Nat.reduceMod, Int.reduceEq, Int.reduceLT, Int.reduceLE, Int.reduceToNat, dite_true, hone]
    refine CallV.own (i := 0) rfl (want F6 b vl l e s1 ⟨#[41]⟩ (hl.mono hF06) gM.lt) ?_
    rintro _ F7 _ hF7 rfl
    have gN := go_want (l := l) (e := e) (r := s1) (s := ⟨#[41]⟩) gM.lt
    simp only [push_cast, ↓reduceIte, Nat.reduceEqDiff, Nat.reduceAdd, Nat.reduceMul, Nat.reduceSub, Nat.reduceLT, Nat.reduceLeDiff, reduceCtorEq, Nat.reduceMod, Int.reduceEq, Int.reduceLT, Int.reduceLE, Int.reduceToNat, dite_true, hone]
    refine hG (wantR l e s1 ⟨#[41]⟩) x _ _ _ _ F7 _ (PH.le_trans hF06 hF7) (g1.trans (gM.trans gN)) (hX'.mono hF7) (fun hb' => ?_) (by unfold StepR; rw [if_neg (by rw [hb]; decide), ← ht, if_neg k4, if_neg (by omega), if_neg (by rw [i1]; decide), if_neg (by rw [i2]; decide), if_pos i3]; exact ⟨s1, hxr, rfl⟩) (by simp [subk, Eng.look]) (List.Sublist.refl _) rfl
    have q1 := hcM (gN.good hb')
    have q2 := gN.le
    have q3 := gM.le
    omega
  | false =>
  simp only [push_cast, ↓reduceIte, Nat.reduceEqDiff, Nat.reduceAdd, Nat.reduceMul, Nat.reduceSub, Nat.reduceLT, Nat.reduceLeDiff, reduceCtorEq, Nat.reduceMod, Int.reduceEq, Int.reduceLT, Int.reduceLE, Int.reduceToNat, dite_true, hone]
  refine CallV.own (i := 0) rfl (fail F4 b vl l e 23 r (hl.mono hF04) hr) ?_
  rintro _ F5 _ hF5 rfl
  simp only [push_cast, ↓reduceIte, Nat.reduceEqDiff, Nat.reduceAdd, Nat.reduceMul, Nat.reduceSub, Nat.reduceLT, Nat.reduceLeDiff, reduceCtorEq, Nat.reduceMod, Int.reduceEq, Int.reduceLT, Int.reduceLE, Int.reduceToNat, dite_true, hone]
  exact hG (failR l e r 23) (.mk 0 t.at_ ⟨#[]⟩ 0 [] [] [] []) _ _ _ _ F5 _ (PH.le_trans hF04 hF5) (go_fail hr) ⟨sl0 _, nil_sle _ _ _, nil_sle _ _ _, nil_sle _ _ _⟩ (fun hb' => by rw [fail_bad] at hb'; cases hb') (by unfold StepR; rw [if_neg (by rw [hb]; decide), ← ht, if_neg k4, if_neg (by omega), if_neg (by rw [i1]; decide), if_neg (by rw [i2]; decide), if_neg (by rw [i3]; decide)]; exact ⟨by unfold NoneR; rw [← ht], rfl⟩) (by simp [subk, Eng.look]) (List.Sublist.refl _) rfl
theorem exp_all (d : Nat) (hd : d < 1000) : ExpG d := by
  by_cases h : 60 < d
  · exact deepE h hd
  · exact stepE (by omega) (exp_all (d + 1) (by omega))
termination_by 1000 - d
end Go.Proofs.YtoepmdbicdoieaaDoor.X
