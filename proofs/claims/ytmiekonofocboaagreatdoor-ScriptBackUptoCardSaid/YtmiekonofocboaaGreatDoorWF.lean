/- What the definition writes a script as (middenref24.Write). -/
import Derived.Test.YtmiekonofocboaaGreatDoorWD
namespace Go.Proofs.YtmiekonofocboaaGreatDoor.Q
open Go Go.Eng Go.Lib Go.Proofs Go.Proofs.YtmiekonofocboaaGreatDoor.T Go.Proofs.YtmiekonofocboaaGreatDoor.K Go.Proofs.YtmiekonofocboaaGreatDoor.X
set_option linter.unusedSimpArgs false
set_option linter.unusedVariables false
set_option linter.unusedSectionVars false
set_option maxRecDepth 100000
set_option maxHeartbeats 4000000
theorem ref_writeS (s : ScrD) (hok : ScrOk s) (F : PH) (cs : List Value) (hcs : RScr F s cs) : PFn Tryz.prog 14 [.agg cs.toArray] F (fun v _ => v = .tuple #[.string (writeT s).1, .int .i64 (writeT s).2]) := by
  obtain ⟨v, rfl, xs, ⟨p, c, rfl, hnc, hcm, hsrc⟩, he⟩ := hcs
  have hts := hok.text
  have hwr : IntKind.i64.wrap ((s.text.size : Int) - 1) = (s.text.size : Int) - 1 := IntWalk.i64_in _ (by omega)
  have hc : ((s.text.data.getD (s.text.size - 1) 0).toNat : Int) = ch s.text (s.text.size - 1) := rfl
  have hpos : ¬ s.text = ⟨#[]⟩ → 0 < s.text.size := fun h => by
    rcases Nat.eq_zero_or_pos s.text.size with e | e
    · exact absurd (ByteArray.size_eq_zero_iff.1 e) h
    · exact e
  refine Fn.intro (n := 99) (ts := [2, 3]) Tryz.func14 rfl rfl rfl rfl (by simp) fun B hB => VC.go 5 ?_
  simp only [push_cast, ↓reduceIte, Nat.reduceEqDiff, Nat.reduceAdd, Nat.reduceMul, Nat.reduceSub, Nat.reduceLT, Nat.reduceLeDiff, reduceCtorEq, Nat.reduceMod, Int.reduceEq, Int.reduceLT, Int.reduceLE, Int.reduceToNat, dite_true]
  intro b
  refine VC.cutM (ι := Unit) (fun _ => [(1, .o 0 b 0)]) (fun _ => [⟨0, b, 26, scrC s (.slice p s.lines.length c)⟩]) (fun _ => F) (fun _ => ¬ (¬ s.text = ⟨#[]⟩ ∧ ¬ ch s.text (s.text.size - 1) = 10)) ?_ ?_
  · intro G hG
    refine VC.go 100 ?_
    by_cases h0 : s.text = ⟨#[]⟩
    · have hz : s.text.size = 0 := by rw [h0]; rfl
      simp only [push_cast, ↓reduceIte, Nat.reduceEqDiff, Nat.reduceAdd, Nat.reduceMul, Nat.reduceSub, Nat.reduceLT, Nat.reduceLeDiff, reduceCtorEq, Nat.reduceMod, Int.reduceEq, Int.reduceLT, Int.reduceLE, Int.reduceToNat, dite_true, eq_false (show ¬ (0 : Int) < (s.text.size : Int) by omega)]
      exact hG () _ (fun k => k.1 h0) (by simp [subk, Eng.look]) (List.Sublist.refl _) rfl rfl
    · have hp := hpos h0
      have htn : ((s.text.size : Int) - 1).toNat = s.text.size - 1 := by omega
      by_cases h1 : ch s.text (s.text.size - 1) = 10
      · simp only [push_cast, ↓reduceIte, Nat.reduceEqDiff, Nat.reduceAdd, Nat.reduceMul, Nat.reduceSub, Nat.reduceLT, Nat.reduceLeDiff, reduceCtorEq, Nat.reduceMod, Int.reduceEq, Int.reduceLT, Int.reduceLE, Int.reduceToNat, dite_true, eq_true (show (0 : Int) < (s.text.size : Int) by omega), hwr, eq_true (show (0 : Int) ≤ (s.text.size : Int) - 1 by omega), eq_true (show (s.text.size : Int) - 1 < (s.text.size : Int) by omega), htn, hc, eq_true h1]
        exact hG () _ (fun k => k.2 h1) (by simp [subk, Eng.look]) (List.Sublist.refl _) rfl rfl
      · simp only [push_cast, ↓reduceIte, Nat.reduceEqDiff, Nat.reduceAdd, Nat.reduceMul, Nat.reduceSub, Nat.reduceLT, Nat.reduceLeDiff, reduceCtorEq, Nat.reduceMod, Int.reduceEq, Int.reduceLT, Int.reduceLE, Int.reduceToNat, dite_true, eq_true (show (0 : Int) < (s.text.size : Int) by omega), hwr, eq_true (show (0 : Int) ≤ (s.text.size : Int) - 1 by omega), eq_true (show (s.text.size : Int) - 1 < (s.text.size : Int) by omega), htn, hc, h1]
        exact RetOk.p rfl (by rw [writeT, if_pos ⟨h0, h1⟩]; rfl)
  rintro _ hgood
  have hhs := headT_size s hok
  have hpl := progP_len s hok
  have hsum := hok.sum
  have hll := sum_len s.lines
  refine VC.go 7 ?_
  simp only [push_cast, ↓reduceIte, Nat.reduceEqDiff, Nat.reduceAdd, Nat.reduceMul, Nat.reduceSub, Nat.reduceLT, Nat.reduceLeDiff, reduceCtorEq, Nat.reduceMod, Int.reduceEq, Int.reduceLT, Int.reduceLE, Int.reduceToNat, dite_true]
  intro b2 F2 hF2 hb2
  have hcw := ref_words heapW [s.gens, s.steps, s.blocks, s.nursery, s.hops, s.words] (by simp; exact ⟨hok.gens, hok.steps, hok.blocks, hok.nursery, hok.hops, hok.words⟩) (by decide) (by simp) F2 _ (ints_blk (l := [s.gens, s.steps, s.blocks, s.nursery, s.hops, s.words]) hb2 (by simp [maxLen]))
  refine CallV.pure hcw ?_
  rintro _ F3 hF3 rfl
  simp only [push_cast, ↓reduceIte, Nat.reduceEqDiff, Nat.reduceAdd, Nat.reduceMul, Nat.reduceSub, Nat.reduceLT, Nat.reduceLeDiff, reduceCtorEq, Nat.reduceMod, Int.reduceEq, Int.reduceLT, Int.reduceLE, Int.reduceToNat, dite_true]
  have hsp := ref_split s.text 10 (by omega) F3
  rw [split_prog s hgood] at hsp
  refine CallV.pure hsp ?_
  rintro _ F4 hF4 ⟨p4, c4, rfl, _, hc4, hs4⟩
  have hw3 : IntKind.i64.wrap (((progP s).length : Int) + 1 + (s.lines.length : Int)) = ((progP s).length : Int) + 1 + (s.lines.length : Int) := IntWalk.i64_in _ (by omega)
  have hw4 : IntKind.i64.wrap (((progP s).length : Int) + 1 + (s.lines.length : Int) + 1) = ((progP s).length : Int) + 1 + (s.lines.length : Int) + 1 := IntWalk.i64_in _ (by omega)
  simp only [push_cast, ↓reduceIte, Nat.reduceEqDiff, Nat.reduceAdd, Nat.reduceMul, Nat.reduceSub, Nat.reduceLT, Nat.reduceLeDiff, reduceCtorEq, Nat.reduceMod, Int.reduceEq, Int.reduceLT, Int.reduceLE, Int.reduceToNat, dite_true, List.length_append, List.length_cons, List.length_nil, Nat.zero_add, hw3, hw4]
  obtain ⟨m, hm⟩ : ∃ m : Int, m = ((progP s).length : Int) + 1 + (s.lines.length : Int) + 1 := ⟨_, rfl⟩
  rw [← hm]
  have hF14 : F.le F4 := PH.le_trans (PH.le_trans hF2 hF3) hF4
  have e124 : ByteArray.size { data := #[124] } = 1 := rfl
  have e10 : ByteArray.size { data := #[10] } = 1 := rfl
  refine VC.cutG (ι := PH) (fun _ => [(7, .v (.int .i64 m)), (5, .v (.string (if m ≤ 2048 then headT s ++ partsT (progP s) else headT s))), (1, .o 0 b 0)]) (fun G => G) (fun _ => []) (fun G => F.le G) ?_ ?_
  · intro G hG
    refine VC.go 100 ?_
    simp only [push_cast, ↓reduceIte, Nat.reduceEqDiff, Nat.reduceAdd, Nat.reduceMul, Nat.reduceSub, Nat.reduceLT, Nat.reduceLeDiff, reduceCtorEq, Nat.reduceMod, Int.reduceEq, Int.reduceLT, Int.reduceLE, Int.reduceToNat, dite_true]
    refine VC.loopL (fun i : Nat => [(8, .v (.int .i64 (i : Int))), (7, .v (.int .i64 m)), (6, .v (.slice p4 ((progP s).length + 1) c4)), (5, .v (.string (if m ≤ 2048 then headT s ++ partsT ((progP s).take i) else headT s))), (1, .o 0 b 0)]) (fun i => i ≤ (progP s).length) (fun i => (progP s).length - i) 0 (Nat.zero_le _) (by simp [subk, Eng.look, partsT, bapp_nil]; rfl) ?_
    intro i hi G2 hG2
    have hpz := partsT_size ((progP s).take i)
    have hpz1 := sumB_take (progP s) i
    have hpz2 : ((progP s).take i).length ≤ (progP s).length := by simp; omega
    have hw1 : IntKind.i64.wrap ((i : Int) + 1) = (i : Int) + 1 := IntWalk.i64_in _ (by omega)
    refine VC.go 100 ?_
    by_cases hmm : m ≤ 2048
    · rw [if_pos hmm] at hG ⊢
      rcases Nat.lt_or_ge i (progP s).length with hlt | hge
      · have hget : ((progP s ++ [(⟨#[]⟩ : ByteArray)]).map Value.string)[i]? = some (.string (progP s)[i]) := by
          rw [List.getElem?_map, List.getElem?_append_left hlt, List.getElem?_eq_getElem hlt]; rfl
        obtain ⟨a, rfl, hca⟩ := hs4.elem1 hget
        have hpj : ((progP s)[i]).size ≤ 1200000 := by
          have hpz3 := partsT_size ((progP s).take (i + 1))
          have hpz4 := sumB_take (progP s) (i + 1)
          rw [partsT_take _ hlt] at hpz3
          simp only [ByteArray.size_append] at hpz3
          have : ((progP s).take (i + 1)).length = ((progP s).take i).length + 1 := by simp; omega
          rw [e124, e10] at hpz3
          omega
        have hA1 : (headT s ++ partsT ((progP s).take i) : ByteArray).size + ByteArray.size { data := #[124] } ≤ 9223372036854775807 := by rw [ByteArray.size_append]; omega
        have hA2 : (headT s ++ partsT ((progP s).take i) ++ ⟨#[124]⟩ : ByteArray).size + ((progP s)[i]).size ≤ 9223372036854775807 := by rw [ByteArray.size_append, ByteArray.size_append]; omega
        have hA3 : (headT s ++ partsT ((progP s).take i) ++ ⟨#[124]⟩ ++ (progP s)[i] : ByteArray).size + ByteArray.size { data := #[10] } ≤ 9223372036854775807 := by rw [ByteArray.size_append, ByteArray.size_append, ByteArray.size_append]; omega
        simp only [push_cast, ↓reduceIte, Nat.reduceEqDiff, Nat.reduceAdd, Nat.reduceMul, Nat.reduceSub, Nat.reduceLT, Nat.reduceLeDiff, reduceCtorEq, Nat.reduceMod, Int.reduceEq, Int.reduceLT, Int.reduceLE, Int.reduceToNat, dite_true, hw1, eq_true (show (i : Int) + 1 < ((progP s).length : Int) + 1 by omega), eq_true hmm, eq_true (show (i : Int) < ((progP s).length : Int) + 1 by omega), hca, Nat.mul_one, eq_true hA1, eq_true hA2, eq_true hA3]
        exact hG2 (i + 1) _ (by omega) (by omega) (by simp [subk, Eng.look, if_pos hmm]; rw [partsT_take _ hlt]; simp only [ByteArray.append_assoc]) (List.Sublist.refl _) rfl rfl
      · obtain rfl : i = (progP s).length := by omega
        simp only [push_cast, ↓reduceIte, Nat.reduceEqDiff, Nat.reduceAdd, Nat.reduceMul, Nat.reduceSub, Nat.reduceLT, Nat.reduceLeDiff, reduceCtorEq, Nat.reduceMod, Int.reduceEq, Int.reduceLT, Int.reduceLE, Int.reduceToNat, dite_true, hw1, eq_false (show ¬ ((progP s).length : Int) + 1 < ((progP s).length : Int) + 1 by omega)]
        exact hG F4 _ hF14 (by simp [subk, Eng.look]) (List.Sublist.refl _) rfl (List.Sublist.refl _)
    · rw [if_neg hmm] at hG ⊢
      rcases Nat.lt_or_ge i (progP s).length with hlt | hge
      · simp only [push_cast, ↓reduceIte, Nat.reduceEqDiff, Nat.reduceAdd, Nat.reduceMul, Nat.reduceSub, Nat.reduceLT, Nat.reduceLeDiff, reduceCtorEq, Nat.reduceMod, Int.reduceEq, Int.reduceLT, Int.reduceLE, Int.reduceToNat, dite_true, hw1, eq_true (show (i : Int) + 1 < ((progP s).length : Int) + 1 by omega), hmm]
        exact hG F4 _ hF14 (by simp [subk, Eng.look]) (List.Sublist.refl _) rfl (List.Sublist.refl _)
      · obtain rfl : i = (progP s).length := by omega
        simp only [push_cast, ↓reduceIte, Nat.reduceEqDiff, Nat.reduceAdd, Nat.reduceMul, Nat.reduceSub, Nat.reduceLT, Nat.reduceLeDiff, reduceCtorEq, Nat.reduceMod, Int.reduceEq, Int.reduceLT, Int.reduceLE, Int.reduceToNat, dite_true, hw1, eq_false (show ¬ ((progP s).length : Int) + 1 < ((progP s).length : Int) + 1 by omega)]
        exact hG F4 _ hF14 (by simp [subk, Eng.look]) (List.Sublist.refl _) rfl (List.Sublist.refl _)
  intro F5 hF5
  refine VC.go 100 ?_
  simp only [push_cast, ↓reduceIte, Nat.reduceEqDiff, Nat.reduceAdd, Nat.reduceMul, Nat.reduceSub, Nat.reduceLT, Nat.reduceLeDiff, reduceCtorEq, Nat.reduceMod, Int.reduceEq, Int.reduceLT, Int.reduceLE, Int.reduceToNat, dite_true]
  refine VC.loopF (ι := Nat × PH) (fun i => [(9, .v (.int .i64 (i.1 : Int))), (7, .v (.int .i64 m)), (5, .v (.string (if m ≤ 2048 then headT s ++ partsT (progP s) ++ linesT (s.lines.take i.1) else headT s))), (1, .o 0 b 0)]) (fun i => i.2) (fun i => i.1 ≤ s.lines.length ∧ F.le i.2 ∧ ((s.lines.take i.1).all fun l => (lineT l).2) = true) (fun i => s.lines.length - i.1) (0, F5) ⟨Nat.zero_le _, hF5, rfl⟩ (by simp [subk, Eng.look, linesT, bapp_nil]) rfl ?_
  rintro ⟨j, F6⟩ ⟨hj, hF6, hall⟩ G hG
  dsimp only at hj hF6 hall hG ⊢
  have hpz := partsT_size (progP s)
  have hlz := linesT_size (s.lines.take j) fun x hx => hok.lines x (List.mem_of_mem_take hx)
  have hlz2 := sum_take s.lines j
  refine VC.go 100 ?_
  rcases Nat.lt_or_ge j s.lines.length with hlt | hge
  · obtain ⟨a, rfl, hca⟩ := (hsrc.mono hF6).elem hlt (by omega)
    have hel := Each.at (sz := 8) (fun a c h => RLine.len h) he (List.getElem?_eq_getElem hlt)
    have hlo := hok.lines _ (List.getElem_mem hlt)
    have hel5 := RLine.mono hel hF6
    have hwc := ref_write s.lines[j] hlo F6 _ hel5
    obtain ⟨vj, hcsj, hints⟩ := hel
    rw [hcsj] at hca hwc
    obtain ⟨pj, cj, rfl, _, _, _⟩ := hints
    have hw1 : IntKind.i64.wrap ((j : Int) + 1) = (j : Int) + 1 := IntWalk.i64_in _ (by omega)
    have hls := lineT_size _ hlo
    have hsj : (s.lines[j]).size ≤ 1200000 := by
      have k1 := sum_take s.lines (j + 1)
      rw [List.take_succ_eq_append_getElem hlt, sumOf_append] at k1
      simp only [sumOf] at k1
      omega
    simp only [push_cast, ↓reduceIte, Nat.reduceEqDiff, Nat.reduceAdd, Nat.reduceMul, Nat.reduceSub, Nat.reduceLT, Nat.reduceLeDiff, reduceCtorEq, Nat.reduceMod, Int.reduceEq, Int.reduceLT, Int.reduceLE, Int.reduceToNat, dite_true, eq_true (show (j : Int) < (s.lines.length : Int) by omega), hca, eq_true hlt]
    refine CallV.pure hwc ?_
    rintro _ F7 hF7 rfl
    have htk : (s.lines.take (j + 1)).all (fun l => (lineT l).2) = ((s.lines.take j).all (fun l => (lineT l).2) && (lineT s.lines[j]).2) := by
      rw [List.take_succ_eq_append_getElem hlt, List.all_append]; simp
    cases hb : (lineT s.lines[j]).2 with
    | false =>
      simp only [push_cast, ↓reduceIte, Nat.reduceEqDiff, Nat.reduceAdd, Nat.reduceMul, Nat.reduceSub, Nat.reduceLT, Nat.reduceLeDiff, reduceCtorEq, Nat.reduceMod, Int.reduceEq, Int.reduceLT, Int.reduceLE, Int.reduceToNat, dite_true]
      refine RetOk.p rfl ?_
      have hno : (s.lines.all fun l => (lineT l).2) = false := by
        rw [Bool.eq_false_iff]
        intro h
        rw [List.all_eq_true.1 h _ (List.getElem_mem hlt)] at hb
        cases hb
      rw [writeT, if_neg hgood, if_pos hno]; rfl
    | true =>
      by_cases hmm : m ≤ 2048
      · rw [if_pos hmm]
        have hA1 : (headT s ++ partsT (progP s) ++ linesT (s.lines.take j) : ByteArray).size + (lineT s.lines[j]).1.size ≤ 9223372036854775807 := by rw [ByteArray.size_append, ByteArray.size_append]; omega
        simp only [push_cast, ↓reduceIte, Nat.reduceEqDiff, Nat.reduceAdd, Nat.reduceMul, Nat.reduceSub, Nat.reduceLT, Nat.reduceLeDiff, reduceCtorEq, Nat.reduceMod, Int.reduceEq, Int.reduceLT, Int.reduceLE, Int.reduceToNat, dite_true, eq_true hmm, eq_true hA1, hw1]
        exact hG (j + 1, F7) _ ⟨by dsimp only; omega, PH.le_trans hF6 hF7, by dsimp only; rw [htk, hall, hb]; rfl⟩ (by dsimp only; omega) (by simp [subk, Eng.look, if_pos hmm]; rw [linesT_take _ hlt]; simp only [ByteArray.append_assoc]) (List.Sublist.refl _) rfl rfl
      · rw [if_neg hmm]
        simp only [push_cast, ↓reduceIte, Nat.reduceEqDiff, Nat.reduceAdd, Nat.reduceMul, Nat.reduceSub, Nat.reduceLT, Nat.reduceLeDiff, reduceCtorEq, Nat.reduceMod, Int.reduceEq, Int.reduceLT, Int.reduceLE, Int.reduceToNat, dite_true, hmm, hw1]
        exact hG (j + 1, F7) _ ⟨by dsimp only; omega, PH.le_trans hF6 hF7, by dsimp only; rw [htk, hall, hb]; rfl⟩ (by dsimp only; omega) (by simp [subk, Eng.look, if_neg hmm]) (List.Sublist.refl _) rfl rfl
  · obtain rfl : j = s.lines.length := by omega
    rw [List.take_length] at hall ⊢
    by_cases hbig : 2048 < 2 + (progP s).length + s.lines.length
    · simp only [push_cast, ↓reduceIte, Nat.reduceEqDiff, Nat.reduceAdd, Nat.reduceMul, Nat.reduceSub, Nat.reduceLT, Nat.reduceLeDiff, reduceCtorEq, Nat.reduceMod, Int.reduceEq, Int.reduceLT, Int.reduceLE, Int.reduceToNat, dite_true, eq_false (show ¬ (s.lines.length : Int) < (s.lines.length : Int) by omega), eq_true (show (2048 : Int) < m by omega)]
      refine RetOk.p rfl ?_
      rw [writeT, if_neg hgood, if_neg (by rw [hall]; decide), if_pos hbig]; rfl
    · rw [if_pos (show m ≤ 2048 by omega)]
      simp only [push_cast, ↓reduceIte, Nat.reduceEqDiff, Nat.reduceAdd, Nat.reduceMul, Nat.reduceSub, Nat.reduceLT, Nat.reduceLeDiff, reduceCtorEq, Nat.reduceMod, Int.reduceEq, Int.reduceLT, Int.reduceLE, Int.reduceToNat, dite_true, eq_false (show ¬ (s.lines.length : Int) < (s.lines.length : Int) by omega), eq_false (show ¬ (2048 : Int) < m by omega)]
      refine RetOk.p rfl ?_
      rw [writeT, if_neg hgood, if_neg (by rw [hall]; decide), if_neg hbig]; rfl
end Go.Proofs.YtmiekonofocboaaGreatDoor.Q
