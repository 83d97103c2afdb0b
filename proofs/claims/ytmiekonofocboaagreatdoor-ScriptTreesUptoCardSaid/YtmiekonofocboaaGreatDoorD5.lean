/- The definition's texts of trees (middenref24.Tree). -/
import Derived.Test.YtmiekonofocboaaGreatDoorD3
import Derived.Test.YtmiekonofocboaaGreatDoorD4
namespace Go.Proofs.YtmiekonofocboaaGreatDoor.Q
open Go Go.Eng Go.Lib Go.Proofs Go.Proofs.YtmiekonofocboaaGreatDoor.T
set_option linter.unusedSimpArgs false
set_option linter.unusedVariables false
set_option linter.unusedSectionVars false
set_option maxRecDepth 100000
set_option maxHeartbeats 4000000
theorem kidsT_take (l : List Tree) {j : Nat} (h : j < l.length) : kidsT (l.take (j + 1)) = kidsT (l.take j) ++ ⟨#[32]⟩ ++ treeT l[j] := by
  rw [List.take_succ_eq_append_getElem h, kidsT_snoc]
theorem okTs_take {l : List Tree} (h : okTs l) (j : Nat) : okTs (l.take j) := okTs_iff.2 fun e he => okTs_iff.1 h e (List.mem_of_mem_take he)
theorem sizeTs_append : ∀ (l m : List Tree), sizeTs (l ++ m) = sizeTs l + sizeTs m
  | [], m => by simp [sizeTs]
  | t :: l, m => by simp only [List.cons_append, sizeTs, sizeTs_append l m]; omega
theorem sizeTs_take (l : List Tree) (j : Nat) : sizeTs (l.take j) ≤ sizeTs l := by
  have := sizeTs_append (l.take j) (l.drop j)
  rw [List.take_append_drop] at this
  omega
theorem ref_kids (l : List Tree) (hok : okTs l) (hbig : sizeTs l ≤ 1000000000) (F : PH) (v : Value) (hl : SlE F 4 (RTree F) v l)
    (ih : ∀ t ∈ l, ∀ (G : PH) (cs : List Value), RTree G t cs → PFn Tryz.prog 12 [.agg cs.toArray] G (fun v _ => v = .string (treeT t))) :
    PFn Tryz.prog 25 [v] F (fun v _ => v = .string (kidsT l)) := by
  obtain ⟨xs, ⟨p, c, rfl, hnc, hcm, hsrc⟩, he⟩ := hl
  refine Fn.intro (n := 20) (ts := [2]) Tryz.func25 rfl rfl rfl rfl (by simp) fun B hB => VC.go 100 ?_
  simp only [push_cast, ↓reduceIte, Nat.reduceEqDiff, Nat.reduceAdd, Nat.reduceMul, Nat.reduceSub, Nat.reduceLT, Nat.reduceLeDiff, reduceCtorEq, Nat.reduceMod, Int.reduceEq, Int.reduceLT, Int.reduceLE, Int.reduceToNat, dite_true]
  refine VC.loopF (ι := Nat × PH) (fun i => [(4, .v (.int .i64 (i.1 : Int))), (3, .v (.string (kidsT (l.take i.1)))), (0, .v (.slice p l.length c))]) (fun i => i.2) (fun i => i.1 ≤ l.length ∧ F.le i.2) (fun i => l.length - i.1) (0, F) ⟨Nat.zero_le _, PH.le_refl _⟩ (by simp [subk, Eng.look, kidsT]) rfl ?_
  rintro ⟨j, F1⟩ ⟨hj, hF1⟩ G hG
  dsimp only at hj hF1 hG ⊢
  refine VC.go 100 ?_
  rcases Nat.lt_or_ge j l.length with hlt | hge
  · obtain ⟨a, rfl, hc⟩ := (hsrc.mono hF1).elem hlt (by omega)
    have hel := Each.at (sz := 4) (fun a c h => RTree.len h) he (List.getElem?_eq_getElem hlt)
    have hsz1 := kidsT_size (l.take j) (okTs_take hok j)
    have hsz2 := treeT_size l[j] (okTs_iff.1 hok _ (List.getElem_mem hlt))
    have hsz3 := sizeTs_take l j
    have hsz4 := sizeTs_mem (List.getElem_mem hlt)
    have e1 : ByteArray.size { data := #[32] } = 1 := rfl
    have hA : (kidsT (l.take j)).size + ByteArray.size { data := #[32] } ≤ 9223372036854775807 := by omega
    have hA' : (kidsT (l.take j) ++ ⟨#[32]⟩ : ByteArray).size + (treeT l[j]).size ≤ 9223372036854775807 := by
      rw [ByteArray.size_append]; omega
    simp only [push_cast, ↓reduceIte, Nat.reduceEqDiff, Nat.reduceAdd, Nat.reduceMul, Nat.reduceSub, Nat.reduceLT, Nat.reduceLeDiff, reduceCtorEq, Nat.reduceMod, Int.reduceEq, Int.reduceLT, Int.reduceLE, Int.reduceToNat, dite_true, eq_true (show (j : Int) < (l.length : Int) by omega), hc, eq_true hlt, eq_true hA]
    refine CallV.pure (ih _ (List.getElem_mem hlt) F1 _ (RTree.mono hF1 hel)) ?_
    rintro _ F2 hF2 rfl
    have hw : IntKind.i64.wrap ((j : Int) + 1) = (j : Int) + 1 := IntWalk.i64_in _ (by unfold maxLen at hcm; omega)
    simp only [push_cast, ↓reduceIte, Nat.reduceEqDiff, Nat.reduceAdd, Nat.reduceMul, Nat.reduceSub, Nat.reduceLT, Nat.reduceLeDiff, reduceCtorEq, Nat.reduceMod, Int.reduceEq, Int.reduceLT, Int.reduceLE, Int.reduceToNat, dite_true, eq_true hA', hw]
    exact hG (j + 1, F2) _ ⟨by dsimp only; omega, PH.le_trans hF1 hF2⟩ (by dsimp only; omega) (by simp [subk, Eng.look]; exact (kidsT_take l hlt).symm) (List.Sublist.refl _) rfl rfl
  · obtain rfl : j = l.length := by omega
    simp only [push_cast, ↓reduceIte, Nat.reduceEqDiff, Nat.reduceAdd, Nat.reduceMul, Nat.reduceSub, Nat.reduceLT, Nat.reduceLeDiff, reduceCtorEq, Nat.reduceMod, Int.reduceEq, Int.reduceLT, Int.reduceLE, Int.reduceToNat, dite_true, eq_false (show ¬ (l.length : Int) < (l.length : Int) by omega)]
    rw [List.take_length]
    exact RetOk.p rfl rfl
theorem ref_tree : ∀ (N : Nat) (t : Tree), t.size ≤ N → t.ok → t.size ≤ 1000000000 → ∀ (F : PH) (cs : List Value), RTree F t cs → PFn Tryz.prog 12 [.agg cs.toArray] F (fun v _ => v = .string (treeT t)) := by
  intro N
  induction N with
  | zero => intro t h; cases t; simp [Tree.size] at h
  | succ N ih =>
    intro t hN hok hbig F cs hcs
    obtain ⟨v, rfl, hk⟩ := RTree_iff.1 hcs
    have hT := treeT_size t hok
    obtain ⟨k, s, n, l⟩ := t
    simp only [Tree.kind, Tree.name, Tree.n, Tree.kids] at hk ⊢
    simp only [Tree.ok] at hok
    simp only [Tree.size] at hN hbig
    obtain ⟨o1, o2, o3, o4⟩ := hok
    have hks := kidsT_size l o4
    have hkids : ∀ (G : PH), F.le G → PFn Tryz.prog 25 [v] G (fun v _ => v = .string (kidsT l)) := fun G hG => by
      obtain ⟨xs, h1, h2⟩ := hk
      refine ref_kids l o4 (by omega) G v ⟨xs, h1.mono hG, h2.mono fun t _ c hc => RTree.mono hG hc⟩ fun t ht G' cs' h => ih t ?_ (okTs_iff.1 o4 t ht) ?_ G' cs' h
      · have := sizeTs_mem ht; omega
      · have := sizeTs_mem ht; omega
    obtain ⟨xs, ⟨p, c, rfl, hnc, hcm, hsrc⟩, he⟩ := hk
    refine Fn.intro (n := 42) (ts := [2]) Tryz.func12 rfl rfl rfl rfl (by simp) fun B hB => VC.go 100 ?_
    have e1 : ByteArray.size { data := #[40] } = 1 := rfl
    have e2 : ByteArray.size { data := #[41] } = 1 := rfl
    have e4 : ByteArray.size { data := #[60, 114, 101, 102] } = 4 := rfl
    have e5 : ByteArray.size { data := #[60, 97, 114, 114] } = 4 := rfl
    have e6 : ByteArray.size { data := #[62] } = 1 := rfl
    have hs : s.size ≤ 1000000000 := by omega
    by_cases h1 : k = 1
    · simp only [push_cast, ↓reduceIte, Nat.reduceEqDiff, Nat.reduceAdd, Nat.reduceMul, Nat.reduceSub, Nat.reduceLT, Nat.reduceLeDiff, reduceCtorEq, Nat.reduceMod, Int.reduceEq, Int.reduceLT, Int.reduceLE, Int.reduceToNat, dite_true, eq_true h1]
      intro b
      refine CallV.pure (digits n o2 F) ?_
      rintro _ F1 hF1 rfl
      simp only [push_cast, ↓reduceIte, Nat.reduceEqDiff, Nat.reduceAdd, Nat.reduceMul, Nat.reduceSub, Nat.reduceLT, Nat.reduceLeDiff, reduceCtorEq, Nat.reduceMod, Int.reduceEq, Int.reduceLT, Int.reduceLE, Int.reduceToNat, dite_true]
      exact RetOk.p rfl (by rw [treeT, if_pos h1]; rfl)
    by_cases h2 : k = 2
    · by_cases h0 : l.length = 0
      · simp only [push_cast, ↓reduceIte, Nat.reduceEqDiff, Nat.reduceAdd, Nat.reduceMul, Nat.reduceSub, Nat.reduceLT, Nat.reduceLeDiff, reduceCtorEq, Nat.reduceMod, Int.reduceEq, Int.reduceLT, Int.reduceLE, Int.reduceToNat, dite_true, h1, eq_true h2, eq_true (show (l.length : Int) = 0 by omega)]
        intro b
        exact RetOk.p rfl (by rw [treeT, if_neg h1, if_pos h2, if_pos h0]; rfl)
      · simp only [push_cast, ↓reduceIte, Nat.reduceEqDiff, Nat.reduceAdd, Nat.reduceMul, Nat.reduceSub, Nat.reduceLT, Nat.reduceLeDiff, reduceCtorEq, Nat.reduceMod, Int.reduceEq, Int.reduceLT, Int.reduceLE, Int.reduceToNat, dite_true, h1, eq_true h2, eq_false (show ¬ (l.length : Int) = 0 by omega)]
        intro b
        refine VC.draw (.q 0 (.q 1 (.q 2 (.q 3 (.q 4 (.e 5 (.q 6 (.q 7 (.q 8 (.done)))))))))) mixed (by rfl) ?_
        have hA : ByteArray.size { data := #[40] } + s.size ≤ 9223372036854775807 := by omega
        have hB : (⟨#[40]⟩ ++ s : ByteArray).size + (kidsT l).size ≤ 9223372036854775807 := by rw [ByteArray.size_append]; omega
        have hC : (⟨#[40]⟩ ++ s ++ kidsT l : ByteArray).size + ByteArray.size { data := #[41] } ≤ 9223372036854775807 := by rw [ByteArray.size_append, ByteArray.size_append]; omega
        simp only [push_cast, ↓reduceIte, Nat.reduceEqDiff, Nat.reduceAdd, Nat.reduceMul, Nat.reduceSub, Nat.reduceLT, Nat.reduceLeDiff, reduceCtorEq, Nat.reduceMod, Int.reduceEq, Int.reduceLT, Int.reduceLE, Int.reduceToNat, dite_true, eq_true hA]
        refine CallV.pure (hkids F (PH.le_refl _)) ?_
        rintro _ F1 hF1 rfl
        simp only [push_cast, ↓reduceIte, Nat.reduceEqDiff, Nat.reduceAdd, Nat.reduceMul, Nat.reduceSub, Nat.reduceLT, Nat.reduceLeDiff, reduceCtorEq, Nat.reduceMod, Int.reduceEq, Int.reduceLT, Int.reduceLE, Int.reduceToNat, dite_true, eq_true hB, eq_true hC]
        refine VC.go 100 ?_
        simp only [push_cast, ↓reduceIte, Nat.reduceEqDiff, Nat.reduceAdd, Nat.reduceMul, Nat.reduceSub, Nat.reduceLT, Nat.reduceLeDiff, reduceCtorEq, Nat.reduceMod, Int.reduceEq, Int.reduceLT, Int.reduceLE, Int.reduceToNat, dite_true]
        exact RetOk.p rfl (by rw [treeT, if_neg h1, if_pos h2, if_neg h0]; rfl)
    by_cases h3 : k = 3
    · simp only [push_cast, ↓reduceIte, Nat.reduceEqDiff, Nat.reduceAdd, Nat.reduceMul, Nat.reduceSub, Nat.reduceLT, Nat.reduceLeDiff, reduceCtorEq, Nat.reduceMod, Int.reduceEq, Int.reduceLT, Int.reduceLE, Int.reduceToNat, dite_true, h1, h2, eq_true h3]
      intro b
      exact RetOk.p rfl (by rw [treeT, if_neg h1, if_neg h2, if_pos h3]; rfl)
    by_cases h4 : k = 4
    · simp only [push_cast, ↓reduceIte, Nat.reduceEqDiff, Nat.reduceAdd, Nat.reduceMul, Nat.reduceSub, Nat.reduceLT, Nat.reduceLeDiff, reduceCtorEq, Nat.reduceMod, Int.reduceEq, Int.reduceLT, Int.reduceLE, Int.reduceToNat, dite_true, h1, h2, h3, eq_true h4]
      intro b
      refine CallV.pure (hkids F (PH.le_refl _)) ?_
      rintro _ F1 hF1 rfl
      have hA : ByteArray.size { data := #[60, 114, 101, 102] } + (kidsT l).size ≤ 9223372036854775807 := by omega
      have hB : (⟨#[60, 114, 101, 102]⟩ ++ kidsT l : ByteArray).size + ByteArray.size { data := #[62] } ≤ 9223372036854775807 := by rw [ByteArray.size_append]; omega
      simp only [push_cast, ↓reduceIte, Nat.reduceEqDiff, Nat.reduceAdd, Nat.reduceMul, Nat.reduceSub, Nat.reduceLT, Nat.reduceLeDiff, reduceCtorEq, Nat.reduceMod, Int.reduceEq, Int.reduceLT, Int.reduceLE, Int.reduceToNat, dite_true, eq_true hA, eq_true hB]
      exact RetOk.p rfl (by rw [treeT, if_neg h1, if_neg h2, if_neg h3, if_pos h4]; rfl)
    by_cases h5 : k = 5
    · simp only [push_cast, ↓reduceIte, Nat.reduceEqDiff, Nat.reduceAdd, Nat.reduceMul, Nat.reduceSub, Nat.reduceLT, Nat.reduceLeDiff, reduceCtorEq, Nat.reduceMod, Int.reduceEq, Int.reduceLT, Int.reduceLE, Int.reduceToNat, dite_true, h1, h2, h3, h4, eq_true h5]
      intro b
      refine CallV.pure (hkids F (PH.le_refl _)) ?_
      rintro _ F1 hF1 rfl
      have hA : ByteArray.size { data := #[60, 97, 114, 114] } + (kidsT l).size ≤ 9223372036854775807 := by omega
      have hB : (⟨#[60, 97, 114, 114]⟩ ++ kidsT l : ByteArray).size + ByteArray.size { data := #[62] } ≤ 9223372036854775807 := by rw [ByteArray.size_append]; omega
      simp only [push_cast, ↓reduceIte, Nat.reduceEqDiff, Nat.reduceAdd, Nat.reduceMul, Nat.reduceSub, Nat.reduceLT, Nat.reduceLeDiff, reduceCtorEq, Nat.reduceMod, Int.reduceEq, Int.reduceLT, Int.reduceLE, Int.reduceToNat, dite_true, eq_true hA, eq_true hB]
      exact RetOk.p rfl (by rw [treeT, if_neg h1, if_neg h2, if_neg h3, if_neg h4, if_pos h5]; rfl)
    · simp only [push_cast, ↓reduceIte, Nat.reduceEqDiff, Nat.reduceAdd, Nat.reduceMul, Nat.reduceSub, Nat.reduceLT, Nat.reduceLeDiff, reduceCtorEq, Nat.reduceMod, Int.reduceEq, Int.reduceLT, Int.reduceLE, Int.reduceToNat, dite_true, h1, h2, h3, h4, h5]
      intro b
      exact RetOk.p rfl (by rw [treeT, if_neg h1, if_neg h2, if_neg h3, if_neg h4, if_neg h5]; rfl)
end Go.Proofs.YtmiekonofocboaaGreatDoor.Q
