/- An argument more is free no more: the walk. -/
import Derived.Test.YtlgfajdedmajcaaD1
import Derived.Test.YtlgfajdedmajcaaC3
namespace Go.Proofs.Ytlgfajdedmajcaa.V
open Go Go.Eng Go.Proofs Go.Proofs.Ytlgfajdedmajcaa.T
set_option linter.unusedSimpArgs false
set_option linter.unusedVariables false
set_option maxRecDepth 100000
set_option maxHeartbeats 1000000 in
theorem law_args (F : PH) (f : List ByteArray × Exp) (name : ByteArray) (v va vb ve vl : Value) (hv : Strs F v f.1) (h : ExpAt F f.2 va vb ve vl) (hb : f.2.size ≤ 100000000) (hb1 : f.1.length ≤ 100000000) : PFn Try.prog 7 [.agg (v :: expCells f.2 va vb ve vl).toArray, .string name] F (fun v _ => v = .bool true) := by
  have hv' := hv
  obtain ⟨pv, cv, rfl, hv1, hv2, hv3⟩ := hv
  obtain ⟨_, _, _, _, _, _, _, _, rfl, rfl, rfl, rfl⟩ := h.slices
  have hW := within_all _ f.2 rfl hb
  refine Fn.intro (n := 47) (ts := [4]) Try.func7 rfl rfl rfl rfl (by simp) fun B hB => VC.go 100 ?_
  simp only [push_cast, ↓reduceIte, Nat.reduceEqDiff, Nat.reduceAdd, Nat.reduceMul, Nat.reduceSub, Nat.reduceLT, Nat.reduceLeDiff, reduceCtorEq, Nat.reduceMod, Int.reduceEq, Int.reduceLT, Int.reduceLE, Int.reduceToNat, dite_true]
  intro b
  refine CallV.sl (free F f _ _ _ _ _ hv' h hW hb) ?_
  intro v5 F1 m hF1 hm hv5
  have hs5 := sl_strs hm hv5
  clear hm hv5
  simp only [push_cast, ↓reduceIte, Nat.reduceEqDiff, Nat.reduceAdd, Nat.reduceMul, Nat.reduceSub, Nat.reduceLT, Nat.reduceLeDiff, reduceCtorEq, Nat.reduceMod, Int.reduceEq, Int.reduceLT, Int.reduceLE, Int.reduceToNat, dite_true]
  refine VC.drawT (fun S => ∃ v6, F1.le S.F ∧ Strs S.F v6 (lessL (within f.2) (f.1 ++ [name])) ∧ subk S.L [(6, .v v6), (5, .v v5), (1, .v (.string name))]) (.q 1 (.q 2 (.q 4 (.q 7 (.q 8 (.e2 0 (.e2 3 (.e 5 (.e 6 (.e 9 (.e 10 (.q 11 (.done)))))) 5 (.e 3 (.e 6 (.e 9 (.e 10 (.q 11 (.done))))))) 5 (.e 0 (.e 3 (.e 6 (.e 9 (.e 10 (.q 11 (.done))))))))))))) mixed (by rfl) ?_ ?_
  · simp only [push_cast, ↓reduceIte, Nat.reduceEqDiff, Nat.reduceAdd, Nat.reduceMul, Nat.reduceSub, Nat.reduceLT, Nat.reduceLeDiff, reduceCtorEq, Nat.reduceMod, Int.reduceEq, Int.reduceLT, Int.reduceLE, Int.reduceToNat, dite_true]
    refine ⟨fun b0 => ⟨?_, fun b5 F2 hF2 hb5 => ?_⟩, fun b5 F2 hF2 hb5 b0 => ?_⟩
    case refine_1 =>
      refine Eff.append (xs := []) (ys := f.1.map .string) rfl rfl rfl ty33 rfl ty9 rfl (by decide) rfl rfl (List.Perm.refl _) (Row.begin _ _ _) (hv3.mono hF1) (by simp [Value.oneCell']) (by simpa using by omega) (by decide) ?_
      intro v14 r14 hr14
      simp only [push_cast, ↓reduceIte, Nat.reduceEqDiff, Nat.reduceAdd, Nat.reduceMul, Nat.reduceSub, Nat.reduceLT, Nat.reduceLeDiff, reduceCtorEq, Nat.reduceMod, Int.reduceEq, Int.reduceLT, Int.reduceLE, Int.reduceToNat, dite_true]
      intro b5 F2 hF2 hb5
      refine Eff.append (xs := [] ++ f.1.map .string) (ys := [.string name]) rfl rfl rfl ty33 rfl ty9 rfl (by decide) rfl rfl (List.Perm.refl _) hr14 (Src.blk hb5 rfl) (by simp [Value.oneCell']) (by simpa using by omega) (by decide) ?_
      intro v17 r17 hr17
      obtain ⟨p17, n17, c17, rfl⟩ := hr17.val
      rw [List.nil_append, show f.1.map Value.string ++ [.string name] = (f.1 ++ [name]).map .string from by simp] at hr17
      simp only [push_cast, ↓reduceIte, Nat.reduceEqDiff, Nat.reduceAdd, Nat.reduceMul, Nat.reduceSub, Nat.reduceLT, Nat.reduceLeDiff, reduceCtorEq, Nat.reduceMod, Int.reduceEq, Int.reduceLT, Int.reduceLE, Int.reduceToNat, dite_true]
      refine CallV.lendSl (r := r17) (Rf := []) (List.Perm.refl _) (free F f _ _ _ _ _ hv' h hW hb).1 (fun hd => free _ (f.1 ++ [name], f.2) _ _ _ _ _ (Row.strs hr17 (PH.or_right hd)) (h.mono (PH.le_trans (PH.le_trans hF1 hF2) (PH.or_left _ _))) hW hb) ?_
      intro v21 F4 m4 hF4 hm4 hv21
      simp only [push_cast, ↓reduceIte, Nat.reduceEqDiff, Nat.reduceAdd, Nat.reduceMul, Nat.reduceSub, Nat.reduceLT, Nat.reduceLeDiff, reduceCtorEq, Nat.reduceMod, Int.reduceEq, Int.reduceLT, Int.reduceLE, Int.reduceToNat, dite_true]
      exact ⟨v21, PH.le_trans hF2 hF4, sl_strs hm4 hv21, by simp [subk, Eng.look]⟩
    case refine_2 =>
      refine Eff.append (xs := []) (ys := f.1.map .string) rfl rfl rfl ty33 rfl ty9 rfl (by decide) rfl rfl (List.Perm.refl _) (Row.begin _ _ _) (hv3.mono (PH.le_trans hF1 hF2)) (by simp [Value.oneCell']) (by simpa using by omega) (by decide) ?_
      intro v14 r14 hr14
      simp only [push_cast, ↓reduceIte, Nat.reduceEqDiff, Nat.reduceAdd, Nat.reduceMul, Nat.reduceSub, Nat.reduceLT, Nat.reduceLeDiff, reduceCtorEq, Nat.reduceMod, Int.reduceEq, Int.reduceLT, Int.reduceLE, Int.reduceToNat, dite_true]
      refine Eff.append (xs := [] ++ f.1.map .string) (ys := [.string name]) rfl rfl rfl ty33 rfl ty9 rfl (by decide) rfl rfl (List.Perm.refl _) hr14 (Src.blk hb5 rfl) (by simp [Value.oneCell']) (by simpa using by omega) (by decide) ?_
      intro v17 r17 hr17
      obtain ⟨p17, n17, c17, rfl⟩ := hr17.val
      rw [List.nil_append, show f.1.map Value.string ++ [.string name] = (f.1 ++ [name]).map .string from by simp] at hr17
      simp only [push_cast, ↓reduceIte, Nat.reduceEqDiff, Nat.reduceAdd, Nat.reduceMul, Nat.reduceSub, Nat.reduceLT, Nat.reduceLeDiff, reduceCtorEq, Nat.reduceMod, Int.reduceEq, Int.reduceLT, Int.reduceLE, Int.reduceToNat, dite_true]
      refine CallV.lendSl (r := r17) (Rf := []) (List.Perm.refl _) (free F f _ _ _ _ _ hv' h hW hb).1 (fun hd => free _ (f.1 ++ [name], f.2) _ _ _ _ _ (Row.strs hr17 (PH.or_right hd)) (h.mono (PH.le_trans (PH.le_trans hF1 hF2) (PH.or_left _ _))) hW hb) ?_
      intro v21 F4 m4 hF4 hm4 hv21
      simp only [push_cast, ↓reduceIte, Nat.reduceEqDiff, Nat.reduceAdd, Nat.reduceMul, Nat.reduceSub, Nat.reduceLT, Nat.reduceLeDiff, reduceCtorEq, Nat.reduceMod, Int.reduceEq, Int.reduceLT, Int.reduceLE, Int.reduceToNat, dite_true]
      exact ⟨v21, PH.le_trans hF2 hF4, sl_strs hm4 hv21, by simp [subk, Eng.look]⟩
    case refine_3 =>
      refine Eff.append (xs := []) (ys := f.1.map .string) rfl rfl rfl ty33 rfl ty9 rfl (by decide) rfl rfl (List.Perm.refl _) (Row.begin _ _ _) (hv3.mono (PH.le_trans hF1 hF2)) (by simp [Value.oneCell']) (by simpa using by omega) (by decide) ?_
      intro v14 r14 hr14
      simp only [push_cast, ↓reduceIte, Nat.reduceEqDiff, Nat.reduceAdd, Nat.reduceMul, Nat.reduceSub, Nat.reduceLT, Nat.reduceLeDiff, reduceCtorEq, Nat.reduceMod, Int.reduceEq, Int.reduceLT, Int.reduceLE, Int.reduceToNat, dite_true]
      refine Eff.append (xs := [] ++ f.1.map .string) (ys := [.string name]) rfl rfl rfl ty33 rfl ty9 rfl (by decide) rfl rfl (List.Perm.refl _) hr14 (Src.blk hb5 rfl) (by simp [Value.oneCell']) (by simpa using by omega) (by decide) ?_
      intro v17 r17 hr17
      obtain ⟨p17, n17, c17, rfl⟩ := hr17.val
      rw [List.nil_append, show f.1.map Value.string ++ [.string name] = (f.1 ++ [name]).map .string from by simp] at hr17
      simp only [push_cast, ↓reduceIte, Nat.reduceEqDiff, Nat.reduceAdd, Nat.reduceMul, Nat.reduceSub, Nat.reduceLT, Nat.reduceLeDiff, reduceCtorEq, Nat.reduceMod, Int.reduceEq, Int.reduceLT, Int.reduceLE, Int.reduceToNat, dite_true]
      refine CallV.lendSl (r := r17) (Rf := []) (List.Perm.refl _) (free F f _ _ _ _ _ hv' h hW hb).1 (fun hd => free _ (f.1 ++ [name], f.2) _ _ _ _ _ (Row.strs hr17 (PH.or_right hd)) (h.mono (PH.le_trans (PH.le_trans hF1 hF2) (PH.or_left _ _))) hW hb) ?_
      intro v21 F4 m4 hF4 hm4 hv21
      simp only [push_cast, ↓reduceIte, Nat.reduceEqDiff, Nat.reduceAdd, Nat.reduceMul, Nat.reduceSub, Nat.reduceLT, Nat.reduceLeDiff, reduceCtorEq, Nat.reduceMod, Int.reduceEq, Int.reduceLT, Int.reduceLE, Int.reduceToNat, dite_true]
      exact ⟨v21, PH.le_trans hF2 hF4, sl_strs hm4 hv21, by simp [subk, Eng.look]⟩
  rintro S ⟨v6, hF2, hs6, hL⟩
  obtain ⟨L, M, F2, R, nx⟩ := S
  dsimp only at hF2 hs6 hL
  refine VC.weaken (S' := ⟨_, [], F2, [], 0⟩) ⟨subk_le hL, List.nil_sublist _, rfl, List.nil_sublist _⟩ (VC.emp ?_)
  have hs5' := hs5.mono hF2
  have hA : (lessL (within f.2) f.1).length ≤ 100000000 := Nat.le_trans (lessL_length _ _) (Nat.le_trans (within_len _) hb)
  rw [lessL_more] at hs6
  generalize lessL (within f.2) f.1 = A at *
  obtain ⟨p5, c5, rfl, k1, k2, k3⟩ := hs5'
  obtain ⟨p6, n6, c6, e6⟩ : ∃ p n c, v6 = .slice p n c := by obtain ⟨p, c, e, _⟩ := hs6; exact ⟨p, _, c, e⟩
  refine VC.go 100 ?_
  simp only [push_cast, ↓reduceIte, Nat.reduceEqDiff, Nat.reduceAdd, Nat.reduceMul, Nat.reduceSub, Nat.reduceLT, Nat.reduceLeDiff, reduceCtorEq, Nat.reduceMod, Int.reduceEq, Int.reduceLT, Int.reduceLE, Int.reduceToNat, dite_true]
  refine VC.loopP (ι := Nat × Value × PH × PH) (fun i => [(8, .v (.int .i64 i.1)), (7, .v i.2.1), (5, .v (.slice p5 A.length c5)), (6, .v v6), (1, .v (.string name))]) (fun i => i.2.2.1) (fun i => [i.2.2.2]) (fun i => i.1 ≤ A.length ∧ F2.le i.2.2.1 ∧ Row i.2.2.2 9 1 i.2.1 (((A.take i.1).filter (fun s => !decide (s = name))).map .string)) (fun i => A.length - i.1) (0, .slice none 0 0, F2, PH.emp) ⟨Nat.zero_le _, PH.le_refl _, Row.nil _ _⟩ (by simp [subk, Eng.look]) rfl (subR_refl _) ?_
  rintro ⟨k, v, F3, r⟩ ⟨hk, hF3, hrow⟩ G hG
  dsimp only at hk hF3 hrow hG ⊢
  refine VC.go 100 ?_
  by_cases h : k < A.length
  case neg =>
    have h' : ¬ (k : Int) < (A.length : Int) := by omega
    simp only [push_cast, ↓reduceIte, Nat.reduceEqDiff, Nat.reduceAdd, Nat.reduceMul, Nat.reduceSub, Nat.reduceLT, Nat.reduceLeDiff, reduceCtorEq, Nat.reduceMod, Int.reduceEq, Int.reduceLT, Int.reduceLE, Int.reduceToNat, dite_true, h']
    rw [List.take_of_length_le (by omega)] at hrow
    refine CallV.pure (awake10 F3) ?_
    rintro _ F4 hF4 rfl
    simp only [push_cast, ↓reduceIte, Nat.reduceEqDiff, Nat.reduceAdd, Nat.reduceMul, Nat.reduceSub, Nat.reduceLT, Nat.reduceLeDiff, reduceCtorEq, Nat.reduceMod, Int.reduceEq, Int.reduceLT, Int.reduceLE, Int.reduceToNat, dite_true]
    refine CallV.lendPure (r := r) (Rf := []) (List.Perm.refl _) (same F4 _ _ [] [] (nil_strs _) (nil_strs _)).1 (fun hd => same _ _ _ _ _ (hs6.mono (PH.le_trans hF3 (PH.le_trans hF4 (PH.or_left _ _)))) (Row.strs hrow (PH.or_right hd))) ?_
    rintro _ F5 hF5 rfl
    simp only [push_cast, ↓reduceIte, Nat.reduceEqDiff, Nat.reduceAdd, Nat.reduceMul, Nat.reduceSub, Nat.reduceLT, Nat.reduceLeDiff, reduceCtorEq, Nat.reduceMod, Int.reduceEq, Int.reduceLT, Int.reduceLE, Int.reduceToNat, dite_true]
    exact RetOk.p rfl rfl
  have h' : (k : Int) < (A.length : Int) := by omega
  have h0 : (0 : Int) ≤ (k : Int) := by omega
  obtain ⟨a, rfl, ha⟩ := (k3.mono hF3).elem1 (i := k) (v := .string A[k]) (by simp [h])
  have e2 : IntKind.i64.wrap ((k : Int) + 1) = ((k + 1 : Nat) : Int) := wrap_add k h (Nat.le_trans k1 k2)
  have ht : (A.take (k + 1)).filter (fun s => !decide (s = name)) = (A.take k).filter (fun s => !decide (s = name)) ++ [A[k]].filter (fun s => !decide (s = name)) := by rw [List.take_succ_eq_append_getElem h, List.filter_append]
  have hlen := List.length_filter_le (fun s => !decide (s = name)) (A.take k)
  by_cases g : A[k] = name
  · simp only [push_cast, ↓reduceIte, Nat.reduceEqDiff, Nat.reduceAdd, Nat.reduceMul, Nat.reduceSub, Nat.reduceLT, Nat.reduceLeDiff, reduceCtorEq, Nat.reduceMod, Int.reduceEq, Int.reduceLT, Int.reduceLE, Int.reduceToNat, dite_true, h', h0, ha, eq_true g, e2]
    rw [show [A[k]].filter (fun s => !decide (s = name)) = [] from by simp [g], List.append_nil] at ht
    exact hG (k + 1, v, F3, r) _ ⟨by omega, hF3, by rw [ht]; exact hrow⟩ (by simp; omega) (by simp [subk, Eng.look]) (List.Sublist.refl _) rfl (subR_refl _)
  · simp only [push_cast, ↓reduceIte, Nat.reduceEqDiff, Nat.reduceAdd, Nat.reduceMul, Nat.reduceSub, Nat.reduceLT, Nat.reduceLeDiff, reduceCtorEq, Nat.reduceMod, Int.reduceEq, Int.reduceLT, Int.reduceLE, Int.reduceToNat, dite_true, h', h0, ha, g]
    rw [show [A[k]].filter (fun s => !decide (s = name)) = [A[k]] from by simp [g]] at ht
    intro b4 F4 hF4 hb4
    refine Eff.append (xs := ((A.take k).filter (fun s => !decide (s = name))).map .string) (ys := [.string A[k]]) rfl rfl rfl ty33 rfl ty9 rfl (by decide) rfl rfl (List.Perm.refl _) hrow (Src.blk hb4 rfl) (by simp [Value.oneCell']) (by
      simp only [List.length_map, List.length_take, List.length_cons, List.length_nil] at hlen ⊢
      omega) (by decide) ?_
    intro v' r' hrow'
    simp only [push_cast, ↓reduceIte, Nat.reduceEqDiff, Nat.reduceAdd, Nat.reduceMul, Nat.reduceSub, Nat.reduceLT, Nat.reduceLeDiff, reduceCtorEq, Nat.reduceMod, Int.reduceEq, Int.reduceLT, Int.reduceLE, Int.reduceToNat, dite_true, e2]
    exact hG (k + 1, v', F4, r') _ ⟨by omega, PH.le_trans hF3 hF4, by rw [ht, List.map_append]; exact hrow'⟩ (by simp; omega) (by simp [subk, Eng.look]) (List.Sublist.refl _) rfl (subR_refl _)
end Go.Proofs.Ytlgfajdedmajcaa.V
