/- The program's texts of trees (script.Tree). (Written by gen/d6.py.) -/
import Derived.Test.YtmiekonofocboaaGreatDoorD5
namespace Go.Proofs.YtmiekonofocboaaGreatDoor.Q
open Go Go.Eng Go.Lib Go.Proofs Go.Proofs.YtmiekonofocboaaGreatDoor.T
set_option linter.unusedSimpArgs false
set_option linter.unusedVariables false
set_option linter.unusedSectionVars false
set_option maxRecDepth 100000
set_option maxHeartbeats 4000000
theorem strCells_append (s t : ByteArray) : strCells (s ++ t) = strCells s ++ strCells t := by simp [strCells]
theorem sp_cells (s : ByteArray) : strCells s ++ [Value.int .u8 32] = strCells (s ++ ⟨#[32]⟩) := by simp [strCells]
theorem tree : ∀ (N : Nat) (t : Tree), t.size ≤ N → t.ok → t.size ≤ 1000000000 → ∀ (F : PH) (cs : List Value), RTree F t cs → PFn Tryz.prog 11 [.agg cs.toArray] F (fun v _ => v = .string (treeT t)) := by
  intro N
  induction N with
  | zero => intro t h; cases t; simp [Tree.size] at h
  | succ N ih =>
    intro t hN hok hbig F cs hcs
    obtain ⟨v, rfl, hk⟩ := RTree_iff.1 hcs
    have hT := treeT_size t hok
    obtain ⟨k, s, n, l⟩ := t
    simp only [Tree.kind, Tree.name, Tree.n, Tree.kids] at hk ⊢
    simp only [Tree.ok] at hok
    simp only [Tree.size] at hN hbig
    obtain ⟨o1, o2, o3, o4⟩ := hok
    have hks := kidsT_size l o4
    obtain ⟨xs, ⟨p, c, rfl, hnc, hcm, hsrc⟩, he⟩ := hk
    have hcall : ∀ (j : Nat) (hj : j < l.length) (G : PH), F.le G → PFn Tryz.prog 11 [.agg ((xs.drop (j * 4)).take 4).toArray] G (fun v _ => v = .string (treeT l[j])) := fun j hj G hG => by
      have hm := sizeTs_mem (List.getElem_mem hj)
      have hel := Each.at (sz := 4) (fun a c h => RTree.len h) he (List.getElem?_eq_getElem hj)
      exact ih l[j] (by omega) (okTs_iff.1 o4 _ (List.getElem_mem hj)) (by omega) G _ (RTree.mono hG hel)
    refine Fn.intro (n := 52) (ts := [2]) Tryz.func11 rfl rfl rfl rfl (by simp) fun B hB => ?_
    have e1 : ByteArray.size { data := #[40] } = 1 := rfl
    have e2 : ByteArray.size { data := #[41] } = 1 := rfl
    have e4 : ByteArray.size { data := #[60, 114, 101, 102] } = 4 := rfl
    have e5 : ByteArray.size { data := #[60, 97, 114, 114] } = 4 := rfl
    have e6 : ByteArray.size { data := #[62] } = 1 := rfl
    have e7 : ByteArray.size { data := #[32] } = 1 := rfl
    have hs : s.size ≤ 1000000000 := by omega
    by_cases h1 : k = 1
    · refine VC.go 100 ?_
      simp only [push_cast, ↓reduceIte, Nat.reduceEqDiff, Nat.reduceAdd, Nat.reduceMul, Nat.reduceSub, Nat.reduceLT, Nat.reduceLeDiff, reduceCtorEq, Nat.reduceMod, Int.reduceEq, Int.reduceLT, Int.reduceLE, Int.reduceToNat, dite_true, eq_true h1]
      intro b
      refine CallV.pure (digits_script n o2 F) ?_
      rintro _ F1 hF1 rfl
      simp only [push_cast, ↓reduceIte, Nat.reduceEqDiff, Nat.reduceAdd, Nat.reduceMul, Nat.reduceSub, Nat.reduceLT, Nat.reduceLeDiff, reduceCtorEq, Nat.reduceMod, Int.reduceEq, Int.reduceLT, Int.reduceLE, Int.reduceToNat, dite_true]
      exact RetOk.p rfl (by rw [treeT, if_pos h1]; rfl)
    by_cases h2 : k = 2
    · by_cases h0 : l.length = 0
      · refine VC.go 100 ?_
        simp only [push_cast, ↓reduceIte, Nat.reduceEqDiff, Nat.reduceAdd, Nat.reduceMul, Nat.reduceSub, Nat.reduceLT, Nat.reduceLeDiff, reduceCtorEq, Nat.reduceMod, Int.reduceEq, Int.reduceLT, Int.reduceLE, Int.reduceToNat, dite_true, h1, eq_true h2, eq_true (show (l.length : Int) = 0 by omega)]
        intro b
        exact RetOk.p rfl (by rw [treeT, if_neg h1, if_pos h2, if_pos h0]; rfl)
      · have hA : ByteArray.size { data := #[40] } + s.size ≤ 9223372036854775807 := by omega
        refine VC.go 22 ?_
        simp only [push_cast, ↓reduceIte, Nat.reduceEqDiff, Nat.reduceAdd, Nat.reduceMul, Nat.reduceSub, Nat.reduceLT, Nat.reduceLeDiff, reduceCtorEq, Nat.reduceMod, Int.reduceEq, Int.reduceLT, Int.reduceLE, Int.reduceToNat, dite_true, h1, eq_true h2, eq_false (show ¬ (l.length : Int) = 0 by omega), eq_true hA]
        intro b
        have hTT : treeT (.mk k s n l) = ⟨#[40]⟩ ++ s ++ kidsT l ++ ⟨#[41]⟩ := by rw [treeT, if_neg h1, if_pos h2, if_neg h0]
        have hnm : (⟨#[40]⟩ ++ s : ByteArray).size ≤ 1000000001 := by rw [ByteArray.size_append]; omega
        refine VC.region (VC.eff (st := false) rfl rfl (Eff.quiet (y := .v (.string (⟨#[40]⟩ ++ s))) rfl (VC.eff (st := false) rfl rfl ?_)))
        refine Eff.toBytes (tx := (⟨#[40]⟩ ++ s)) rfl ty9 rfl ty44 rfl ty5 rfl rfl (by omega) ?_
        intro v1 r1 hr1
        refine VC.eff (st := false) rfl rfl (Eff.quiet (y := .v v1) rfl (VC.opsnil (VC.go 100 ?_)))
        simp only [push_cast, ↓reduceIte, Nat.reduceEqDiff, Nat.reduceAdd, Nat.reduceMul, Nat.reduceSub, Nat.reduceLT, Nat.reduceLeDiff, reduceCtorEq, Nat.reduceMod, Int.reduceEq, Int.reduceLT, Int.reduceLE, Int.reduceToNat, dite_true]
        refine VC.loopR (ι := Nat × Value × PH × PH) (fun i => [(37, .v (.int .i64 (i.1 : Int))), (36, .v (.int .i64 (l.length : Int))), (35, .v (.slice p l.length c)), (5, .v i.2.1), (4, .v (.string ⟨#[41]⟩))]) (fun i => i.2.2.2) (fun i => i.2.2.1) [] (fun i => i.1 ≤ l.length ∧ F.le i.2.2.2 ∧ BRow i.2.2.1 5 i.2.1 (strCells ((⟨#[40]⟩ ++ s) ++ kidsT (l.take i.1)))) (fun i => l.length - i.1) (0, v1, r1, F) ⟨Nat.zero_le _, PH.le_refl _, by dsimp only; rw [List.take_zero, kidsT, app_nil]; exact hr1⟩ (by simp [subk, Eng.look]) rfl rfl ?_
        rintro ⟨j, v2, r2, F1⟩ ⟨hj, hF1, hr2⟩ G hG
        dsimp only at hj hF1 hr2 hG ⊢
        refine VC.go 100 ?_
        have hsz1 := kidsT_size (l.take j) (okTs_take o4 j)
        have hsz3 := sizeTs_take l j
        obtain ⟨p2, c2, e2', _, _⟩ := hr2.val
        subst e2'
        have hlen2 : (strCells ((⟨#[40]⟩ ++ s) ++ kidsT (l.take j))).length ≤ 7000000001 := by rw [strCells_length, ByteArray.size_append]; omega
        rcases Nat.lt_or_ge j l.length with hlt | hge
        · obtain ⟨a, rfl, hc⟩ := (hsrc.mono hF1).elem hlt (by omega)
          have hel := Each.at (sz := 4) (fun a c h => RTree.len h) he (List.getElem?_eq_getElem hlt)
          have hsz2 := treeT_size l[j] (okTs_iff.1 o4 _ (List.getElem_mem hlt))
          have hsz4 := sizeTs_mem (List.getElem_mem hlt)
          have hcj := fun G (hG : F.le G) => hcall j hlt G hG
          obtain ⟨vj, hcs, xs', ⟨pj, cj, rfl, _, _, _⟩, _⟩ := RTree_iff.1 hel
          rw [hcs] at hc hcj
          simp only [push_cast, ↓reduceIte, Nat.reduceEqDiff, Nat.reduceAdd, Nat.reduceMul, Nat.reduceSub, Nat.reduceLT, Nat.reduceLeDiff, reduceCtorEq, Nat.reduceMod, Int.reduceEq, Int.reduceLT, Int.reduceLE, Int.reduceToNat, dite_true, eq_true (show (j : Int) < (l.length : Int) by omega), hc, eq_true hlt]
          intro b7
          refine VC.draw (.q 0 (.q 3 (.e 1 (.e 2 (.e 4 (.e 5 (.e 6 (.done)))))))) mixed (by rfl) ?_
          simp only [push_cast, ↓reduceIte, Nat.reduceEqDiff, Nat.reduceAdd, Nat.reduceMul, Nat.reduceSub, Nat.reduceLT, Nat.reduceLeDiff, reduceCtorEq, Nat.reduceMod, Int.reduceEq, Int.reduceLT, Int.reduceLE, Int.reduceToNat, dite_true]
          intro b8 F2 hF2 hb8
          refine Eff.appendBL (ys := [.int .u8 32]) rfl rfl rfl ty44 rfl ty5 rfl rfl rfl rfl rfl (Src.blk hb8 rfl) (by simp [Value.oneCell']) (List.Perm.refl _) hr2 (by omega) ?_
          intro v3 r3 hr3
          rw [sp_cells] at hr3
          simp only [push_cast, ↓reduceIte, Nat.reduceEqDiff, Nat.reduceAdd, Nat.reduceMul, Nat.reduceSub, Nat.reduceLT, Nat.reduceLeDiff, reduceCtorEq, Nat.reduceMod, Int.reduceEq, Int.reduceLT, Int.reduceLE, Int.reduceToNat, dite_true]
          refine CallV.pure (hcj F2 (PH.le_trans hF1 hF2)) ?_
          rintro _ F3 hF3 rfl
          simp only [push_cast, ↓reduceIte, Nat.reduceEqDiff, Nat.reduceAdd, Nat.reduceMul, Nat.reduceSub, Nat.reduceLT, Nat.reduceLeDiff, reduceCtorEq, Nat.reduceMod, Int.reduceEq, Int.reduceLT, Int.reduceLE, Int.reduceToNat, dite_true]
          refine Eff.appendBS (tx := treeT l[j]) rfl rfl rfl ty44 rfl ty9 rfl ty5 rfl rfl rfl rfl rfl (List.Perm.refl _) hr3 (by rw [strCells_length, ByteArray.size_append, ← strCells_length]; omega) ?_
          intro v4 r4 hr4
          rw [← strCells_append, show (((⟨#[40]⟩ ++ s) ++ kidsT (l.take j) ++ ⟨#[32]⟩ ++ treeT l[j] : ByteArray)) = (⟨#[40]⟩ ++ s) ++ kidsT (l.take (j + 1)) by rw [kidsT_take l hlt]; simp only [ByteArray.append_assoc]] at hr4
          simp only [push_cast, ↓reduceIte, Nat.reduceEqDiff, Nat.reduceAdd, Nat.reduceMul, Nat.reduceSub, Nat.reduceLT, Nat.reduceLeDiff, reduceCtorEq, Nat.reduceMod, Int.reduceEq, Int.reduceLT, Int.reduceLE, Int.reduceToNat, dite_true]
          refine VC.go 100 ?_
          have hw : IntKind.i64.wrap ((j : Int) + 1) = (j : Int) + 1 := IntWalk.i64_in _ (by unfold maxLen at hcm; omega)
          simp only [push_cast, ↓reduceIte, Nat.reduceEqDiff, Nat.reduceAdd, Nat.reduceMul, Nat.reduceSub, Nat.reduceLT, Nat.reduceLeDiff, reduceCtorEq, Nat.reduceMod, Int.reduceEq, Int.reduceLT, Int.reduceLE, Int.reduceToNat, dite_true, hw]
          exact hG (j + 1, v4, r4, F3) _ ⟨by dsimp only; omega, PH.le_trans (PH.le_trans hF1 hF2) hF3, hr4⟩ (by dsimp only; omega) (by simp [subk, Eng.look]) (by simp) rfl rfl
        · obtain rfl : j = l.length := by omega
          simp only [push_cast, ↓reduceIte, Nat.reduceEqDiff, Nat.reduceAdd, Nat.reduceMul, Nat.reduceSub, Nat.reduceLT, Nat.reduceLeDiff, reduceCtorEq, Nat.reduceMod, Int.reduceEq, Int.reduceLT, Int.reduceLE, Int.reduceToNat, dite_true, eq_false (show ¬ (l.length : Int) < (l.length : Int) by omega)]
          refine Eff.fz (Eff.appendBS (tx := ⟨#[41]⟩) rfl rfl rfl ty44 rfl ty9 rfl ty5 rfl rfl rfl rfl rfl (List.Perm.refl _) hr2 (by omega) ?_)
          intro v3 r3 hr3
          refine ⟨r3, [], List.Perm.refl _, fun F3 hF3 hl3 => ?_⟩
          rw [List.take_length, ← strCells_append, ← hTT] at hr3
          have hs3 := hr3.sl hl3
          have hpos : 0 < (strCells (treeT (.mk k s n l))).length := by
            rw [strCells_length, hTT, ByteArray.size_append]
            omega
          obtain ⟨p3, c3, rfl, _, _, hs3⟩ := hs3
          obtain ⟨a3, rfl, hc3⟩ := hs3.2 (by omega)
          rw [Nat.mul_one] at hc3
          simp only [push_cast, ↓reduceIte, Nat.reduceEqDiff, Nat.reduceAdd, Nat.reduceMul, Nat.reduceSub, Nat.reduceLT, Nat.reduceLeDiff, reduceCtorEq, Nat.reduceMod, Int.reduceEq, Int.reduceLT, Int.reduceLE, Int.reduceToNat, dite_true, hc3, bytesV_str, bstr_str']
          exact RetOk.p rfl rfl
    by_cases h3 : k = 3
    · refine VC.go 100 ?_
      simp only [push_cast, ↓reduceIte, Nat.reduceEqDiff, Nat.reduceAdd, Nat.reduceMul, Nat.reduceSub, Nat.reduceLT, Nat.reduceLeDiff, reduceCtorEq, Nat.reduceMod, Int.reduceEq, Int.reduceLT, Int.reduceLE, Int.reduceToNat, dite_true, h1, h2, eq_true h3]
      intro b
      exact RetOk.p rfl (by rw [treeT, if_neg h1, if_neg h2, if_pos h3]; rfl)
    by_cases h4 : k = 4
    · refine VC.go 23 ?_
      simp only [push_cast, ↓reduceIte, Nat.reduceEqDiff, Nat.reduceAdd, Nat.reduceMul, Nat.reduceSub, Nat.reduceLT, Nat.reduceLeDiff, reduceCtorEq, Nat.reduceMod, Int.reduceEq, Int.reduceLT, Int.reduceLE, Int.reduceToNat, dite_true, h1, h2, h3, eq_true h4]
      intro b
      have hTT : treeT (.mk k s n l) = ⟨#[60, 114, 101, 102]⟩ ++ kidsT l ++ ⟨#[62]⟩ := by rw [treeT, if_neg h1, if_neg h2, if_neg h3, if_pos h4]
      have hnm : (⟨#[60, 114, 101, 102]⟩ : ByteArray).size ≤ 1000000001 := by omega
      refine VC.region (VC.eff (st := false) rfl rfl (Eff.quiet (y := .v (.string ⟨#[60, 114, 101, 102]⟩)) rfl (VC.eff (st := false) rfl rfl ?_)))
      refine Eff.toBytes (tx := ⟨#[60, 114, 101, 102]⟩) rfl ty9 rfl ty44 rfl ty5 rfl rfl (by omega) ?_
      intro v1 r1 hr1
      refine VC.eff (st := false) rfl rfl (Eff.quiet (y := .v v1) rfl (VC.opsnil (VC.go 100 ?_)))
      simp only [push_cast, ↓reduceIte, Nat.reduceEqDiff, Nat.reduceAdd, Nat.reduceMul, Nat.reduceSub, Nat.reduceLT, Nat.reduceLeDiff, reduceCtorEq, Nat.reduceMod, Int.reduceEq, Int.reduceLT, Int.reduceLE, Int.reduceToNat, dite_true]
      refine VC.loopR (ι := Nat × Value × PH × PH) (fun i => [(37, .v (.int .i64 (i.1 : Int))), (36, .v (.int .i64 (l.length : Int))), (35, .v (.slice p l.length c)), (5, .v i.2.1), (4, .v (.string ⟨#[62]⟩))]) (fun i => i.2.2.2) (fun i => i.2.2.1) [] (fun i => i.1 ≤ l.length ∧ F.le i.2.2.2 ∧ BRow i.2.2.1 5 i.2.1 (strCells (⟨#[60, 114, 101, 102]⟩ ++ kidsT (l.take i.1)))) (fun i => l.length - i.1) (0, v1, r1, F) ⟨Nat.zero_le _, PH.le_refl _, by dsimp only; rw [List.take_zero, kidsT, app_nil]; exact hr1⟩ (by simp [subk, Eng.look]) rfl rfl ?_
      rintro ⟨j, v2, r2, F1⟩ ⟨hj, hF1, hr2⟩ G hG
      dsimp only at hj hF1 hr2 hG ⊢
      refine VC.go 100 ?_
      have hsz1 := kidsT_size (l.take j) (okTs_take o4 j)
      have hsz3 := sizeTs_take l j
      obtain ⟨p2, c2, e2', _, _⟩ := hr2.val
      subst e2'
      have hlen2 : (strCells (⟨#[60, 114, 101, 102]⟩ ++ kidsT (l.take j))).length ≤ 7000000001 := by rw [strCells_length, ByteArray.size_append]; omega
      rcases Nat.lt_or_ge j l.length with hlt | hge
      · obtain ⟨a, rfl, hc⟩ := (hsrc.mono hF1).elem hlt (by omega)
        have hel := Each.at (sz := 4) (fun a c h => RTree.len h) he (List.getElem?_eq_getElem hlt)
        have hsz2 := treeT_size l[j] (okTs_iff.1 o4 _ (List.getElem_mem hlt))
        have hsz4 := sizeTs_mem (List.getElem_mem hlt)
        have hcj := fun G (hG : F.le G) => hcall j hlt G hG
        obtain ⟨vj, hcs, xs', ⟨pj, cj, rfl, _, _, _⟩, _⟩ := RTree_iff.1 hel
        rw [hcs] at hc hcj
        simp only [push_cast, ↓reduceIte, Nat.reduceEqDiff, Nat.reduceAdd, Nat.reduceMul, Nat.reduceSub, Nat.reduceLT, Nat.reduceLeDiff, reduceCtorEq, Nat.reduceMod, Int.reduceEq, Int.reduceLT, Int.reduceLE, Int.reduceToNat, dite_true, eq_true (show (j : Int) < (l.length : Int) by omega), hc, eq_true hlt]
        intro b7
        refine VC.draw (.q 0 (.q 3 (.e 1 (.e 2 (.e 4 (.e 5 (.e 6 (.done)))))))) mixed (by rfl) ?_
        simp only [push_cast, ↓reduceIte, Nat.reduceEqDiff, Nat.reduceAdd, Nat.reduceMul, Nat.reduceSub, Nat.reduceLT, Nat.reduceLeDiff, reduceCtorEq, Nat.reduceMod, Int.reduceEq, Int.reduceLT, Int.reduceLE, Int.reduceToNat, dite_true]
        intro b8 F2 hF2 hb8
        refine Eff.appendBL (ys := [.int .u8 32]) rfl rfl rfl ty44 rfl ty5 rfl rfl rfl rfl rfl (Src.blk hb8 rfl) (by simp [Value.oneCell']) (List.Perm.refl _) hr2 (by omega) ?_
        intro v3 r3 hr3
        rw [sp_cells] at hr3
        simp only [push_cast, ↓reduceIte, Nat.reduceEqDiff, Nat.reduceAdd, Nat.reduceMul, Nat.reduceSub, Nat.reduceLT, Nat.reduceLeDiff, reduceCtorEq, Nat.reduceMod, Int.reduceEq, Int.reduceLT, Int.reduceLE, Int.reduceToNat, dite_true]
        refine CallV.pure (hcj F2 (PH.le_trans hF1 hF2)) ?_
        rintro _ F3 hF3 rfl
        simp only [push_cast, ↓reduceIte, Nat.reduceEqDiff, Nat.reduceAdd, Nat.reduceMul, Nat.reduceSub, Nat.reduceLT, Nat.reduceLeDiff, reduceCtorEq, Nat.reduceMod, Int.reduceEq, Int.reduceLT, Int.reduceLE, Int.reduceToNat, dite_true]
        refine Eff.appendBS (tx := treeT l[j]) rfl rfl rfl ty44 rfl ty9 rfl ty5 rfl rfl rfl rfl rfl (List.Perm.refl _) hr3 (by rw [strCells_length, ByteArray.size_append, ← strCells_length]; omega) ?_
        intro v4 r4 hr4
        rw [← strCells_append, show ((⟨#[60, 114, 101, 102]⟩ ++ kidsT (l.take j) ++ ⟨#[32]⟩ ++ treeT l[j] : ByteArray)) = ⟨#[60, 114, 101, 102]⟩ ++ kidsT (l.take (j + 1)) by rw [kidsT_take l hlt]; simp only [ByteArray.append_assoc]] at hr4
        simp only [push_cast, ↓reduceIte, Nat.reduceEqDiff, Nat.reduceAdd, Nat.reduceMul, Nat.reduceSub, Nat.reduceLT, Nat.reduceLeDiff, reduceCtorEq, Nat.reduceMod, Int.reduceEq, Int.reduceLT, Int.reduceLE, Int.reduceToNat, dite_true]
        refine VC.go 100 ?_
        have hw : IntKind.i64.wrap ((j : Int) + 1) = (j : Int) + 1 := IntWalk.i64_in _ (by unfold maxLen at hcm; omega)
        simp only [push_cast, ↓reduceIte, Nat.reduceEqDiff, Nat.reduceAdd, Nat.reduceMul, Nat.reduceSub, Nat.reduceLT, Nat.reduceLeDiff, reduceCtorEq, Nat.reduceMod, Int.reduceEq, Int.reduceLT, Int.reduceLE, Int.reduceToNat, dite_true, hw]
        exact hG (j + 1, v4, r4, F3) _ ⟨by dsimp only; omega, PH.le_trans (PH.le_trans hF1 hF2) hF3, hr4⟩ (by dsimp only; omega) (by simp [subk, Eng.look]) (by simp) rfl rfl
      · obtain rfl : j = l.length := by omega
        simp only [push_cast, ↓reduceIte, Nat.reduceEqDiff, Nat.reduceAdd, Nat.reduceMul, Nat.reduceSub, Nat.reduceLT, Nat.reduceLeDiff, reduceCtorEq, Nat.reduceMod, Int.reduceEq, Int.reduceLT, Int.reduceLE, Int.reduceToNat, dite_true, eq_false (show ¬ (l.length : Int) < (l.length : Int) by omega)]
        refine Eff.fz (Eff.appendBS (tx := ⟨#[62]⟩) rfl rfl rfl ty44 rfl ty9 rfl ty5 rfl rfl rfl rfl rfl (List.Perm.refl _) hr2 (by omega) ?_)
        intro v3 r3 hr3
        refine ⟨r3, [], List.Perm.refl _, fun F3 hF3 hl3 => ?_⟩
        rw [List.take_length, ← strCells_append, ← hTT] at hr3
        have hs3 := hr3.sl hl3
        have hpos : 0 < (strCells (treeT (.mk k s n l))).length := by
          rw [strCells_length, hTT, ByteArray.size_append]
          omega
        obtain ⟨p3, c3, rfl, _, _, hs3⟩ := hs3
        obtain ⟨a3, rfl, hc3⟩ := hs3.2 (by omega)
        rw [Nat.mul_one] at hc3
        simp only [push_cast, ↓reduceIte, Nat.reduceEqDiff, Nat.reduceAdd, Nat.reduceMul, Nat.reduceSub, Nat.reduceLT, Nat.reduceLeDiff, reduceCtorEq, Nat.reduceMod, Int.reduceEq, Int.reduceLT, Int.reduceLE, Int.reduceToNat, dite_true, hc3, bytesV_str, bstr_str']
        exact RetOk.p rfl rfl
    by_cases h5 : k = 5
    · refine VC.go 26 ?_
      simp only [push_cast, ↓reduceIte, Nat.reduceEqDiff, Nat.reduceAdd, Nat.reduceMul, Nat.reduceSub, Nat.reduceLT, Nat.reduceLeDiff, reduceCtorEq, Nat.reduceMod, Int.reduceEq, Int.reduceLT, Int.reduceLE, Int.reduceToNat, dite_true, h1, h2, h3, h4, eq_true h5]
      intro b
      have hTT : treeT (.mk k s n l) = ⟨#[60, 97, 114, 114]⟩ ++ kidsT l ++ ⟨#[62]⟩ := by rw [treeT, if_neg h1, if_neg h2, if_neg h3, if_neg h4, if_pos h5]
      have hnm : (⟨#[60, 97, 114, 114]⟩ : ByteArray).size ≤ 1000000001 := by omega
      refine VC.region (VC.eff (st := false) rfl rfl (Eff.quiet (y := .v (.string ⟨#[60, 97, 114, 114]⟩)) rfl (VC.eff (st := false) rfl rfl ?_)))
      refine Eff.toBytes (tx := ⟨#[60, 97, 114, 114]⟩) rfl ty9 rfl ty44 rfl ty5 rfl rfl (by omega) ?_
      intro v1 r1 hr1
      refine VC.eff (st := false) rfl rfl (Eff.quiet (y := .v v1) rfl (VC.opsnil (VC.go 100 ?_)))
      simp only [push_cast, ↓reduceIte, Nat.reduceEqDiff, Nat.reduceAdd, Nat.reduceMul, Nat.reduceSub, Nat.reduceLT, Nat.reduceLeDiff, reduceCtorEq, Nat.reduceMod, Int.reduceEq, Int.reduceLT, Int.reduceLE, Int.reduceToNat, dite_true]
      refine VC.loopR (ι := Nat × Value × PH × PH) (fun i => [(37, .v (.int .i64 (i.1 : Int))), (36, .v (.int .i64 (l.length : Int))), (35, .v (.slice p l.length c)), (5, .v i.2.1), (4, .v (.string ⟨#[62]⟩))]) (fun i => i.2.2.2) (fun i => i.2.2.1) [] (fun i => i.1 ≤ l.length ∧ F.le i.2.2.2 ∧ BRow i.2.2.1 5 i.2.1 (strCells (⟨#[60, 97, 114, 114]⟩ ++ kidsT (l.take i.1)))) (fun i => l.length - i.1) (0, v1, r1, F) ⟨Nat.zero_le _, PH.le_refl _, by dsimp only; rw [List.take_zero, kidsT, app_nil]; exact hr1⟩ (by simp [subk, Eng.look]) rfl rfl ?_
      rintro ⟨j, v2, r2, F1⟩ ⟨hj, hF1, hr2⟩ G hG
      dsimp only at hj hF1 hr2 hG ⊢
      refine VC.go 100 ?_
      have hsz1 := kidsT_size (l.take j) (okTs_take o4 j)
      have hsz3 := sizeTs_take l j
      obtain ⟨p2, c2, e2', _, _⟩ := hr2.val
      subst e2'
      have hlen2 : (strCells (⟨#[60, 97, 114, 114]⟩ ++ kidsT (l.take j))).length ≤ 7000000001 := by rw [strCells_length, ByteArray.size_append]; omega
      rcases Nat.lt_or_ge j l.length with hlt | hge
      · obtain ⟨a, rfl, hc⟩ := (hsrc.mono hF1).elem hlt (by omega)
        have hel := Each.at (sz := 4) (fun a c h => RTree.len h) he (List.getElem?_eq_getElem hlt)
        have hsz2 := treeT_size l[j] (okTs_iff.1 o4 _ (List.getElem_mem hlt))
        have hsz4 := sizeTs_mem (List.getElem_mem hlt)
        have hcj := fun G (hG : F.le G) => hcall j hlt G hG
        obtain ⟨vj, hcs, xs', ⟨pj, cj, rfl, _, _, _⟩, _⟩ := RTree_iff.1 hel
        rw [hcs] at hc hcj
        simp only [push_cast, ↓reduceIte, Nat.reduceEqDiff, Nat.reduceAdd, Nat.reduceMul, Nat.reduceSub, Nat.reduceLT, Nat.reduceLeDiff, reduceCtorEq, Nat.reduceMod, Int.reduceEq, Int.reduceLT, Int.reduceLE, Int.reduceToNat, dite_true, eq_true (show (j : Int) < (l.length : Int) by omega), hc, eq_true hlt]
        intro b7
        refine VC.draw (.q 0 (.q 3 (.e 1 (.e 2 (.e 4 (.e 5 (.e 6 (.done)))))))) mixed (by rfl) ?_
        simp only [push_cast, ↓reduceIte, Nat.reduceEqDiff, Nat.reduceAdd, Nat.reduceMul, Nat.reduceSub, Nat.reduceLT, Nat.reduceLeDiff, reduceCtorEq, Nat.reduceMod, Int.reduceEq, Int.reduceLT, Int.reduceLE, Int.reduceToNat, dite_true]
        intro b8 F2 hF2 hb8
        refine Eff.appendBL (ys := [.int .u8 32]) rfl rfl rfl ty44 rfl ty5 rfl rfl rfl rfl rfl (Src.blk hb8 rfl) (by simp [Value.oneCell']) (List.Perm.refl _) hr2 (by omega) ?_
        intro v3 r3 hr3
        rw [sp_cells] at hr3
        simp only [push_cast, ↓reduceIte, Nat.reduceEqDiff, Nat.reduceAdd, Nat.reduceMul, Nat.reduceSub, Nat.reduceLT, Nat.reduceLeDiff, reduceCtorEq, Nat.reduceMod, Int.reduceEq, Int.reduceLT, Int.reduceLE, Int.reduceToNat, dite_true]
        refine CallV.pure (hcj F2 (PH.le_trans hF1 hF2)) ?_
        rintro _ F3 hF3 rfl
        simp only [push_cast, ↓reduceIte, Nat.reduceEqDiff, Nat.reduceAdd, Nat.reduceMul, Nat.reduceSub, Nat.reduceLT, Nat.reduceLeDiff, reduceCtorEq, Nat.reduceMod, Int.reduceEq, Int.reduceLT, Int.reduceLE, Int.reduceToNat, dite_true]
        refine Eff.appendBS (tx := treeT l[j]) rfl rfl rfl ty44 rfl ty9 rfl ty5 rfl rfl rfl rfl rfl (List.Perm.refl _) hr3 (by rw [strCells_length, ByteArray.size_append, ← strCells_length]; omega) ?_
        intro v4 r4 hr4
        rw [← strCells_append, show ((⟨#[60, 97, 114, 114]⟩ ++ kidsT (l.take j) ++ ⟨#[32]⟩ ++ treeT l[j] : ByteArray)) = ⟨#[60, 97, 114, 114]⟩ ++ kidsT (l.take (j + 1)) by rw [kidsT_take l hlt]; simp only [ByteArray.append_assoc]] at hr4
        simp only [push_cast, ↓reduceIte, Nat.reduceEqDiff, Nat.reduceAdd, Nat.reduceMul, Nat.reduceSub, Nat.reduceLT, Nat.reduceLeDiff, reduceCtorEq, Nat.reduceMod, Int.reduceEq, Int.reduceLT, Int.reduceLE, Int.reduceToNat, dite_true]
        refine VC.go 100 ?_
        have hw : IntKind.i64.wrap ((j : Int) + 1) = (j : Int) + 1 := IntWalk.i64_in _ (by unfold maxLen at hcm; omega)
        simp only [push_cast, ↓reduceIte, Nat.reduceEqDiff, Nat.reduceAdd, Nat.reduceMul, Nat.reduceSub, Nat.reduceLT, Nat.reduceLeDiff, reduceCtorEq, Nat.reduceMod, Int.reduceEq, Int.reduceLT, Int.reduceLE, Int.reduceToNat, dite_true, hw]
        exact hG (j + 1, v4, r4, F3) _ ⟨by dsimp only; omega, PH.le_trans (PH.le_trans hF1 hF2) hF3, hr4⟩ (by dsimp only; omega) (by simp [subk, Eng.look]) (by simp) rfl rfl
      · obtain rfl : j = l.length := by omega
        simp only [push_cast, ↓reduceIte, Nat.reduceEqDiff, Nat.reduceAdd, Nat.reduceMul, Nat.reduceSub, Nat.reduceLT, Nat.reduceLeDiff, reduceCtorEq, Nat.reduceMod, Int.reduceEq, Int.reduceLT, Int.reduceLE, Int.reduceToNat, dite_true, eq_false (show ¬ (l.length : Int) < (l.length : Int) by omega)]
        refine Eff.fz (Eff.appendBS (tx := ⟨#[62]⟩) rfl rfl rfl ty44 rfl ty9 rfl ty5 rfl rfl rfl rfl rfl (List.Perm.refl _) hr2 (by omega) ?_)
        intro v3 r3 hr3
        refine ⟨r3, [], List.Perm.refl _, fun F3 hF3 hl3 => ?_⟩
        rw [List.take_length, ← strCells_append, ← hTT] at hr3
        have hs3 := hr3.sl hl3
        have hpos : 0 < (strCells (treeT (.mk k s n l))).length := by
          rw [strCells_length, hTT, ByteArray.size_append]
          omega
        obtain ⟨p3, c3, rfl, _, _, hs3⟩ := hs3
        obtain ⟨a3, rfl, hc3⟩ := hs3.2 (by omega)
        rw [Nat.mul_one] at hc3
        simp only [push_cast, ↓reduceIte, Nat.reduceEqDiff, Nat.reduceAdd, Nat.reduceMul, Nat.reduceSub, Nat.reduceLT, Nat.reduceLeDiff, reduceCtorEq, Nat.reduceMod, Int.reduceEq, Int.reduceLT, Int.reduceLE, Int.reduceToNat, dite_true, hc3, bytesV_str, bstr_str']
        exact RetOk.p rfl rfl
    · refine VC.go 100 ?_
      simp only [push_cast, ↓reduceIte, Nat.reduceEqDiff, Nat.reduceAdd, Nat.reduceMul, Nat.reduceSub, Nat.reduceLT, Nat.reduceLeDiff, reduceCtorEq, Nat.reduceMod, Int.reduceEq, Int.reduceLT, Int.reduceLE, Int.reduceToNat, dite_true, h1, h2, h3, h4, h5]
      intro b
      exact RetOk.p rfl (by rw [treeT, if_neg h1, if_neg h2, if_neg h3, if_neg h4, if_neg h5]; rfl)
end Go.Proofs.YtmiekonofocboaaGreatDoor.Q
