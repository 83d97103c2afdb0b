/- What the program writes a script as (script.Write). -/
import Derived.Test.YtmiekonofocboaaGreatDoorWD
namespace Go.Eng
open Go Go.RowKit
section
variable {P : Program} {n : Nat} {C : Cx} {k : List KItem} {S : St} {all : Array Oper}
/-- The first operations of a region, the others left. -/
theorem seqn_app {l2 : List Oper} : ∀ {l1 : List Oper} {S : St}, seqn P n C.B (fun S => VC P n C (.ops all l2 :: k) S) all l1 S → VC P n C (.ops all (l1 ++ l2) :: k) S
  | [], _, h => h
  | o :: l, S, h => by
    simp only [seqn] at h
    split at h
    · rename_i hg; exact VC.eff hg h.1 ((opn_sound h.2).mono fun S h => seqn_app h)
    · rename_i hg
      split at h
      · rename_i hb
        refine VC.guard hg h.1 hb (fun e => ?_) (fun e => seqn_app (h.2.2 e))
        exact VC.eff rfl h.1 ((opn_sound (h.2.1 e)).mono fun S h => seqn_app h)
      · exact h.elim
theorem VC.opsAt {l : List Oper} (m : Nat) (h : seqn P n C.B (fun S => VC P n C (.ops all (l.drop m) :: k) S) all (l.take m) S) : VC P n C (.ops all l :: k) S := by
  have := seqn_app h
  rw [List.take_append_drop] at this
  exact this
end
end Go.Eng
namespace Go.Proofs.YtmiekonofocboaaGreatDoor.Q
open Go Go.Eng Go.Lib Go.Proofs Go.Proofs.YtmiekonofocboaaGreatDoor.T Go.Proofs.YtmiekonofocboaaGreatDoor.K Go.Proofs.YtmiekonofocboaaGreatDoor.X
set_option linter.unusedSimpArgs false
set_option linter.unusedVariables false
set_option linter.unusedSectionVars false
set_option maxRecDepth 100000
set_option maxHeartbeats 4000000
theorem writeS (s : ScrD) (hok : ScrOk s) (F : PH) (cs : List Value) (hcs : RScr F s cs) : PFn Tryz.prog 13 [.agg cs.toArray] F (fun v _ => v = .tuple #[.string (writeT s).1, .int .i64 (writeT s).2]) := by
  obtain ⟨v, rfl, xs, ⟨p, c, rfl, hnc, hcm, hsrc⟩, he⟩ := hcs
  have hts := hok.text
  have hwr : IntKind.i64.wrap ((s.text.size : Int) - 1) = (s.text.size : Int) - 1 := IntWalk.i64_in _ (by omega)
  have hc : ((s.text.data.getD (s.text.size - 1) 0).toNat : Int) = ch s.text (s.text.size - 1) := rfl
  have hpos : ¬ s.text = ⟨#[]⟩ → 0 < s.text.size := fun h => by
    rcases Nat.eq_zero_or_pos s.text.size with e | e
    · exact absurd (ByteArray.size_eq_zero_iff.1 e) h
    · exact e
  refine Fn.intro (n := 95) (ts := [2, 3]) Tryz.func13 rfl rfl rfl rfl (by simp) fun B hB => VC.go 3 ?_
  simp only [push_cast, ↓reduceIte, Nat.reduceEqDiff, Nat.reduceAdd, Nat.reduceMul, Nat.reduceSub, Nat.reduceLT, Nat.reduceLeDiff, reduceCtorEq, Nat.reduceMod, Int.reduceEq, Int.reduceLT, Int.reduceLE, Int.reduceToNat, dite_true]
  intro b
  refine VC.cutM (ι := Unit) (fun _ => [(1, .o 0 b 0)]) (fun _ => [⟨0, b, 26, scrC s (.slice p s.lines.length c)⟩]) (fun _ => F) (fun _ => ¬ (¬ s.text = ⟨#[]⟩ ∧ ¬ ch s.text (s.text.size - 1) = 10)) ?_ ?_
  · intro G hG
    refine VC.go 100 ?_
    by_cases h0 : s.text = ⟨#[]⟩
    · simp only [push_cast, ↓reduceIte, Nat.reduceEqDiff, Nat.reduceAdd, Nat.reduceMul, Nat.reduceSub, Nat.reduceLT, Nat.reduceLeDiff, reduceCtorEq, Nat.reduceMod, Int.reduceEq, Int.reduceLT, Int.reduceLE, Int.reduceToNat, dite_true, eq_true h0]
      exact hG () _ (fun k => k.1 h0) (by simp [subk, Eng.look]) (List.Sublist.refl _) rfl rfl
    · have hp := hpos h0
      have htn : ((s.text.size : Int) - 1).toNat = s.text.size - 1 := by omega
      by_cases h1 : ch s.text (s.text.size - 1) = 10
      · simp only [push_cast, ↓reduceIte, Nat.reduceEqDiff, Nat.reduceAdd, Nat.reduceMul, Nat.reduceSub, Nat.reduceLT, Nat.reduceLeDiff, reduceCtorEq, Nat.reduceMod, Int.reduceEq, Int.reduceLT, Int.reduceLE, Int.reduceToNat, dite_true, h0, hwr, eq_true (show (0 : Int) ≤ (s.text.size : Int) - 1 by omega), eq_true (show (s.text.size : Int) - 1 < (s.text.size : Int) by omega), htn, hc, eq_true h1]
        exact hG () _ (fun k => k.2 h1) (by simp [subk, Eng.look]) (List.Sublist.refl _) rfl rfl
      · simp only [push_cast, ↓reduceIte, Nat.reduceEqDiff, Nat.reduceAdd, Nat.reduceMul, Nat.reduceSub, Nat.reduceLT, Nat.reduceLeDiff, reduceCtorEq, Nat.reduceMod, Int.reduceEq, Int.reduceLT, Int.reduceLE, Int.reduceToNat, dite_true, h0, hwr, eq_true (show (0 : Int) ≤ (s.text.size : Int) - 1 by omega), eq_true (show (s.text.size : Int) - 1 < (s.text.size : Int) by omega), htn, hc, h1]
        exact RetOk.p rfl (by rw [writeT, if_pos ⟨h0, h1⟩]; rfl)
  rintro _ hgood
  refine VC.go 1 ?_
  simp only [push_cast, ↓reduceIte, Nat.reduceEqDiff, Nat.reduceAdd, Nat.reduceMul, Nat.reduceSub, Nat.reduceLT, Nat.reduceLeDiff, reduceCtorEq, Nat.reduceMod, Int.reduceEq, Int.reduceLT, Int.reduceLE, Int.reduceToNat, dite_true]
  refine VC.region (VC.opsAt 19 ?_)
  simp only [push_cast, ↓reduceIte, Nat.reduceEqDiff, Nat.reduceAdd, Nat.reduceMul, Nat.reduceSub, Nat.reduceLT, Nat.reduceLeDiff, reduceCtorEq, Nat.reduceMod, Int.reduceEq, Int.reduceLT, Int.reduceLE, Int.reduceToNat, dite_true, List.take_succ_cons, List.take_zero]
  intro b2 F2 hF2 hb2
  have hcw := words heapW [s.gens, s.steps, s.blocks, s.nursery, s.hops, s.words] (by simp; exact ⟨hok.gens, hok.steps, hok.blocks, hok.nursery, hok.hops, hok.words⟩) (by decide) (by decide) (by simp) F2 _ (ints_blk (l := [s.gens, s.steps, s.blocks, s.nursery, s.hops, s.words]) hb2 (by simp [maxLen]))
  refine CallV.pure hcw ?_
  rintro _ F3 hF3 rfl
  simp only [push_cast, ↓reduceIte, Nat.reduceEqDiff, Nat.reduceAdd, Nat.reduceMul, Nat.reduceSub, Nat.reduceLT, Nat.reduceLeDiff, reduceCtorEq, Nat.reduceMod, Int.reduceEq, Int.reduceLT, Int.reduceLE, Int.reduceToNat, dite_true]
  have hhs := headT_size s hok
  refine VC.eff (st := false) rfl rfl ?_
  refine Eff.toBytes (tx := headT s) rfl ty9 rfl ty44 rfl ty5 rfl rfl (by omega) ?_
  intro v1 r1 hr1
  refine VC.eff (st := false) rfl rfl (Eff.quiet (y := .v v1) rfl (VC.opsnil (VC.go 3 ?_)))
  simp only [push_cast, ↓reduceIte, Nat.reduceEqDiff, Nat.reduceAdd, Nat.reduceMul, Nat.reduceSub, Nat.reduceLT, Nat.reduceLeDiff, reduceCtorEq, Nat.reduceMod, Int.reduceEq, Int.reduceLT, Int.reduceLE, Int.reduceToNat, dite_true]
  have hpl := progP_len s hok
  have hF13 : F.le F3 := PH.le_trans hF2 hF3
  refine VC.cutW (ι := Value × PH × PH) (fun i => [(5, .v (.int .i64 ((2 + (progP s).length : Nat) : Int))), (4, .v i.1), (1, .o 0 b 0)]) (fun _ => [⟨0, b, 26, scrC s (.slice p s.lines.length c)⟩]) (fun i => i.2.2) (fun i => [i.2.1]) (fun i => F.le i.2.2 ∧ BRow i.2.1 5 i.1 (strCells (headT s ++ partsT (progP s)))) ?_ ?_
  · intro G hG
    refine VC.go 100 ?_
    by_cases h0 : s.text = ⟨#[]⟩
    · have hp0 : progP s = [] := by rw [progP, if_pos h0]
      simp only [push_cast, ↓reduceIte, Nat.reduceEqDiff, Nat.reduceAdd, Nat.reduceMul, Nat.reduceSub, Nat.reduceLT, Nat.reduceLeDiff, reduceCtorEq, Nat.reduceMod, Int.reduceEq, Int.reduceLT, Int.reduceLE, Int.reduceToNat, dite_true, eq_true h0]
      exact hG (v1, r1, F3) _ ⟨hF13, by rw [hp0, partsT, bapp_nil]; exact hr1⟩ (by simp [subk, Eng.look, hp0]) (List.Sublist.refl _) rfl ⟨[r1], List.Sublist.refl _, List.Perm.refl _⟩
    · have hp := hpos h0
      have htn : ((s.text.size : Int) - 1).toNat = s.text.size - 1 := by omega
      have hpe : splitP (s.text.extract 0 (s.text.size - 1)) 10 = progP s := by rw [progP, if_neg h0]
      simp only [push_cast, ↓reduceIte, Nat.reduceEqDiff, Nat.reduceAdd, Nat.reduceMul, Nat.reduceSub, Nat.reduceLT, Nat.reduceLeDiff, reduceCtorEq, Nat.reduceMod, Int.reduceEq, Int.reduceLT, Int.reduceLE, Int.reduceToNat, dite_true, h0, hwr, eq_true (show (0 : Int) ≤ (s.text.size : Int) - 1 by omega), eq_true (show (s.text.size : Int) - 1 ≤ (s.text.size : Int) by omega), htn]
      have hsp := split (s.text.extract 0 (s.text.size - 1)) 10 (by rw [ByteArray.size_extract]; omega) F3
      rw [hpe] at hsp
      refine CallV.pure hsp ?_
      rintro _ F4 hF4 ⟨p4, c4, rfl, _, hc4, hs4⟩
      simp only [push_cast, ↓reduceIte, Nat.reduceEqDiff, Nat.reduceAdd, Nat.reduceMul, Nat.reduceSub, Nat.reduceLT, Nat.reduceLeDiff, reduceCtorEq, Nat.reduceMod, Int.reduceEq, Int.reduceLT, Int.reduceLE, Int.reduceToNat, dite_true]
      refine VC.loopR (ι := Nat × Value × PH × PH) (fun i => [(57, .v (.int .i64 (i.1 : Int))), (56, .v (.int .i64 ((progP s).length : Int))), (55, .v (.slice p4 (progP s).length c4)), (5, .v (.int .i64 ((2 + i.1 : Nat) : Int))), (4, .v i.2.1), (1, .o 0 b 0)]) (fun i => i.2.2.2) (fun i => i.2.2.1) [] (fun i => i.1 ≤ (progP s).length ∧ F4.le i.2.2.2 ∧ BRow i.2.2.1 5 i.2.1 (strCells (headT s ++ partsT ((progP s).take i.1)))) (fun i => (progP s).length - i.1) (0, v1, r1, F4) ⟨Nat.zero_le _, PH.le_refl _, by dsimp only; rw [List.take_zero, partsT, bapp_nil]; exact hr1⟩ (by simp [subk, Eng.look]) rfl rfl ?_
      rintro ⟨j, v2, r2, F5⟩ ⟨hj, hF5, hr2⟩ G2 hG2
      dsimp only at hj hF5 hr2 hG2 ⊢
      have hpz := partsT_size ((progP s).take j)
      have hpz1 := sumB_take (progP s) j
      have hpz2 : ((progP s).take j).length ≤ (progP s).length := by simp; omega
      obtain ⟨p2, c2, e2', _, _⟩ := hr2.val
      subst e2'
      have hl2 : (strCells (headT s ++ partsT ((progP s).take j))).length ≤ 4000000 := by rw [strCells_length, ByteArray.size_append]; omega
      refine VC.go 100 ?_
      rcases Nat.lt_or_ge j (progP s).length with hlt | hge
      · obtain ⟨a, rfl, hca⟩ := (hs4.mono hF5).elem1 (i := j) (v := .string (progP s)[j]) (by simp [hlt])
        have hw1 : IntKind.i64.wrap ((j : Int) + 1) = (j : Int) + 1 := IntWalk.i64_in _ (by omega)
        have hw2 : IntKind.i64.wrap (2 + (j : Int) + 1) = 2 + (j : Int) + 1 := IntWalk.i64_in _ (by omega)
        have hpj : ((progP s)[j]).size ≤ 1200000 := by
          have hpz3 := partsT_size ((progP s).take (j + 1))
          have hpz4 := sumB_take (progP s) (j + 1)
          rw [partsT_take _ hlt] at hpz3
          simp only [ByteArray.size_append] at hpz3
          have : ((progP s).take (j + 1)).length = ((progP s).take j).length + 1 := by simp; omega
          have k1 : ByteArray.size { data := #[124] } = 1 := rfl
          have k2 : ByteArray.size { data := #[10] } = 1 := rfl
          rw [k1, k2] at hpz3
          omega
        simp only [push_cast, ↓reduceIte, Nat.reduceEqDiff, Nat.reduceAdd, Nat.reduceMul, Nat.reduceSub, Nat.reduceLT, Nat.reduceLeDiff, reduceCtorEq, Nat.reduceMod, Int.reduceEq, Int.reduceLT, Int.reduceLE, Int.reduceToNat, dite_true, eq_true (show (j : Int) < ((progP s).length : Int) by omega), hca, eq_true hlt, Nat.mul_one]
        intro b6 F6 hF6 hb6
        refine Eff.appendBL (ys := [.int .u8 124]) rfl rfl rfl ty44 rfl ty5 rfl rfl rfl rfl rfl (Src.blk hb6 rfl) (by simp [Value.oneCell']) (List.Perm.refl _) hr2 (by omega) ?_
        intro v3 r3 hr3
        simp only [push_cast, ↓reduceIte, Nat.reduceEqDiff, Nat.reduceAdd, Nat.reduceMul, Nat.reduceSub, Nat.reduceLT, Nat.reduceLeDiff, reduceCtorEq, Nat.reduceMod, Int.reduceEq, Int.reduceLT, Int.reduceLE, Int.reduceToNat, dite_true]
        refine Eff.appendBS (tx := (progP s)[j]) rfl rfl rfl ty44 rfl ty9 rfl ty5 rfl rfl rfl rfl rfl (List.Perm.refl _) hr3 (by simp only [List.length_append, List.length_cons, List.length_nil]; omega) ?_
        intro v7 r7 hr7
        simp only [push_cast, ↓reduceIte, Nat.reduceEqDiff, Nat.reduceAdd, Nat.reduceMul, Nat.reduceSub, Nat.reduceLT, Nat.reduceLeDiff, reduceCtorEq, Nat.reduceMod, Int.reduceEq, Int.reduceLT, Int.reduceLE, Int.reduceToNat, dite_true]
        intro b8 F8 hF8 hb8
        obtain ⟨p7, c7, e7', _, _⟩ := hr7.val
        subst e7'
        refine Eff.appendBL (ys := [.int .u8 10]) rfl rfl rfl ty44 rfl ty5 rfl rfl rfl rfl rfl (Src.blk hb8 rfl) (by simp [Value.oneCell']) (List.Perm.refl _) hr7 (by simp only [List.length_append, List.length_cons, List.length_nil, strCells_length]; rw [strCells_length] at hl2; omega) ?_
        intro v9 r9 hr9
        rw [show strCells (headT s ++ partsT ((progP s).take j)) ++ [Value.int .u8 124] ++ strCells (progP s)[j] ++ [Value.int .u8 10] = strCells (headT s ++ partsT ((progP s).take (j + 1))) by rw [partsT_take _ hlt]; simp [strCells]] at hr9
        simp only [push_cast, ↓reduceIte, Nat.reduceEqDiff, Nat.reduceAdd, Nat.reduceMul, Nat.reduceSub, Nat.reduceLT, Nat.reduceLeDiff, reduceCtorEq, Nat.reduceMod, Int.reduceEq, Int.reduceLT, Int.reduceLE, Int.reduceToNat, dite_true, hw1, hw2]
        exact hG2 (j + 1, v9, r9, F8) _ ⟨by dsimp only; omega, PH.le_trans (PH.le_trans hF5 hF6) hF8, hr9⟩ (by dsimp only; omega) (by simp [subk, Eng.look]; omega) (List.Sublist.refl _) rfl rfl
      · obtain rfl : j = (progP s).length := by omega
        rw [List.take_length] at hr2
        simp only [push_cast, ↓reduceIte, Nat.reduceEqDiff, Nat.reduceAdd, Nat.reduceMul, Nat.reduceSub, Nat.reduceLT, Nat.reduceLeDiff, reduceCtorEq, Nat.reduceMod, Int.reduceEq, Int.reduceLT, Int.reduceLE, Int.reduceToNat, dite_true, eq_false (show ¬ ((progP s).length : Int) < ((progP s).length : Int) by omega)]
        exact hG (_, r2, F5) _ ⟨PH.le_trans (PH.le_trans hF13 hF4) hF5, hr2⟩ (by simp [subk, Eng.look]) (List.Sublist.refl _) rfl ⟨[r2], List.Sublist.refl _, List.Perm.refl _⟩
  rintro ⟨v2, r2, F4⟩ ⟨hF4, hr2⟩
  dsimp only at hF4 hr2 ⊢
  refine VC.go 100 ?_
  simp only [push_cast, ↓reduceIte, Nat.reduceEqDiff, Nat.reduceAdd, Nat.reduceMul, Nat.reduceSub, Nat.reduceLT, Nat.reduceLeDiff, reduceCtorEq, Nat.reduceMod, Int.reduceEq, Int.reduceLT, Int.reduceLE, Int.reduceToNat, dite_true]
  have hsum := hok.sum
  have hll := sum_len s.lines
  refine VC.loopR (ι := Nat × Value × PH × PH) (fun i => [(74, .v (.int .i64 (i.1 : Int))), (73, .v (.int .i64 (s.lines.length : Int))), (72, .v (.slice p s.lines.length c)), (5, .v (.int .i64 ((2 + (progP s).length + i.1 : Nat) : Int))), (4, .v i.2.1)]) (fun i => i.2.2.2) (fun i => i.2.2.1) [] (fun i => i.1 ≤ s.lines.length ∧ F.le i.2.2.2 ∧ BRow i.2.2.1 5 i.2.1 (strCells (headT s ++ partsT (progP s) ++ linesT (s.lines.take i.1))) ∧ ((s.lines.take i.1).all fun l => (lineT l).2) = true) (fun i => s.lines.length - i.1) (0, v2, r2, F4) ⟨Nat.zero_le _, hF4, by dsimp only; rw [List.take_zero, linesT, bapp_nil]; exact hr2, rfl⟩ (by simp [subk, Eng.look]) rfl rfl ?_
  rintro ⟨j, v3, r3, F5⟩ ⟨hj, hF5, hr3, hall⟩ G hG
  dsimp only at hj hF5 hr3 hall hG ⊢
  have hpz := partsT_size (progP s)
  have hlz := linesT_size (s.lines.take j) fun x hx => hok.lines x (List.mem_of_mem_take hx)
  have hlz2 := sum_take s.lines j
  have hl3 : (strCells (headT s ++ partsT (progP s) ++ linesT (s.lines.take j))).length ≤ 60000000 := by rw [strCells_length, ByteArray.size_append, ByteArray.size_append]; omega
  rcases Nat.lt_or_ge j s.lines.length with hlt | hge
  · obtain ⟨p3, c3, e3', _, _⟩ := hr3.val
    subst e3'
    refine VC.go 100 ?_
    obtain ⟨a, rfl, hca⟩ := (hsrc.mono hF5).elem hlt (by omega)
    have hel := Each.at (sz := 8) (fun a c h => RLine.len h) he (List.getElem?_eq_getElem hlt)
    have hlo := hok.lines _ (List.getElem_mem hlt)
    have hel5 := RLine.mono hel hF5
    have hwc := write s.lines[j] hlo F5 _ hel5
    obtain ⟨vj, hcsj, hints⟩ := hel
    rw [hcsj] at hca hwc
    obtain ⟨pj, cj, rfl, _, _, _⟩ := hints
    have hw1 : IntKind.i64.wrap ((j : Int) + 1) = (j : Int) + 1 := IntWalk.i64_in _ (by omega)
    have hw2 : IntKind.i64.wrap (2 + ((progP s).length : Int) + (j : Int) + 1) = 2 + ((progP s).length : Int) + (j : Int) + 1 := IntWalk.i64_in _ (by omega)
    have hls := lineT_size _ hlo
    have hsj : (s.lines[j]).size ≤ 1200000 := by
      have k1 := sum_take s.lines (j + 1)
      rw [List.take_succ_eq_append_getElem hlt, sumOf_append] at k1
      simp only [sumOf] at k1
      omega
    simp only [push_cast, ↓reduceIte, Nat.reduceEqDiff, Nat.reduceAdd, Nat.reduceMul, Nat.reduceSub, Nat.reduceLT, Nat.reduceLeDiff, reduceCtorEq, Nat.reduceMod, Int.reduceEq, Int.reduceLT, Int.reduceLE, Int.reduceToNat, dite_true, eq_true (show (j : Int) < (s.lines.length : Int) by omega), hca, eq_true hlt]
    intro b7
    refine CallV.pure hwc ?_
    rintro _ F6 hF6 rfl
    have htk : (s.lines.take (j + 1)).all (fun l => (lineT l).2) = ((s.lines.take j).all (fun l => (lineT l).2) && (lineT s.lines[j]).2) := by
      rw [List.take_succ_eq_append_getElem hlt, List.all_append]; simp
    cases hb : (lineT s.lines[j]).2 with
    | false =>
      simp only [push_cast, ↓reduceIte, Nat.reduceEqDiff, Nat.reduceAdd, Nat.reduceMul, Nat.reduceSub, Nat.reduceLT, Nat.reduceLeDiff, reduceCtorEq, Nat.reduceMod, Int.reduceEq, Int.reduceLT, Int.reduceLE, Int.reduceToNat, dite_true]
      refine RetOk.p rfl ?_
      have hno : (s.lines.all fun l => (lineT l).2) = false := by
        rw [Bool.eq_false_iff]
        intro h
        rw [List.all_eq_true.1 h _ (List.getElem_mem hlt)] at hb
        cases hb
      rw [writeT, if_neg hgood, if_pos hno]; rfl
    | true =>
      simp only [push_cast, ↓reduceIte, Nat.reduceEqDiff, Nat.reduceAdd, Nat.reduceMul, Nat.reduceSub, Nat.reduceLT, Nat.reduceLeDiff, reduceCtorEq, Nat.reduceMod, Int.reduceEq, Int.reduceLT, Int.reduceLE, Int.reduceToNat, dite_true]
      refine Eff.appendBS (tx := (lineT s.lines[j]).1) rfl rfl rfl ty44 rfl ty9 rfl ty5 rfl rfl rfl rfl rfl (List.Perm.refl _) hr3 (by omega) ?_
      intro v7 r7 hr7
      rw [← strs_append, ByteArray.append_assoc, ← linesT_take _ hlt] at hr7
      simp only [push_cast, ↓reduceIte, Nat.reduceEqDiff, Nat.reduceAdd, Nat.reduceMul, Nat.reduceSub, Nat.reduceLT, Nat.reduceLeDiff, reduceCtorEq, Nat.reduceMod, Int.reduceEq, Int.reduceLT, Int.reduceLE, Int.reduceToNat, dite_true, hw1, hw2]
      exact hG (j + 1, v7, r7, F6) _ ⟨by dsimp only; omega, PH.le_trans hF5 hF6, hr7, by dsimp only; rw [htk, hall, hb]; rfl⟩ (by dsimp only; omega) (by simp [subk, Eng.look]; omega) (by simp) rfl rfl
  · obtain rfl : j = s.lines.length := by omega
    rw [List.take_length] at hr3 hall hl3
    refine VC.freezeR (List.Perm.refl _) fun F6 hF6 hl6 => VC.go 100 ?_
    have hs6 := hr3.sl hl6
    have hhp : 0 < (headT s).size := by
      have e : headT s = heapW ++ numsT _ ++ ⟨#[10]⟩ := rfl
      rw [e, ByteArray.size_append, ByteArray.size_append]
      have : heapW.size = 4 := rfl
      omega
    have hps : 0 < (strCells (headT s ++ partsT (progP s) ++ linesT s.lines)).length := by rw [strCells_length, ByteArray.size_append, ByteArray.size_append]; omega
    obtain ⟨p6, c6, e6, _, _, hs6⟩ := hs6
    subst e6
    obtain ⟨a6, rfl, hc6⟩ := hs6.2 (by omega)
    rw [Nat.mul_one] at hc6
    by_cases hbig : 2048 < 2 + (progP s).length + s.lines.length
    · simp only [push_cast, ↓reduceIte, Nat.reduceEqDiff, Nat.reduceAdd, Nat.reduceMul, Nat.reduceSub, Nat.reduceLT, Nat.reduceLeDiff, reduceCtorEq, Nat.reduceMod, Int.reduceEq, Int.reduceLT, Int.reduceLE, Int.reduceToNat, dite_true, eq_false (show ¬ (s.lines.length : Int) < (s.lines.length : Int) by omega), eq_true (show (2048 : Int) < 0 + 1 + 1 + ((progP s).length : Int) + (s.lines.length : Int) by omega)]
      refine RetOk.p rfl ?_
      rw [writeT, if_neg hgood, if_neg (by rw [hall]; decide), if_pos hbig]; rfl
    · simp only [push_cast, ↓reduceIte, Nat.reduceEqDiff, Nat.reduceAdd, Nat.reduceMul, Nat.reduceSub, Nat.reduceLT, Nat.reduceLeDiff, reduceCtorEq, Nat.reduceMod, Int.reduceEq, Int.reduceLT, Int.reduceLE, Int.reduceToNat, dite_true, eq_false (show ¬ (s.lines.length : Int) < (s.lines.length : Int) by omega), eq_false (show ¬ (2048 : Int) < 0 + 1 + 1 + ((progP s).length : Int) + (s.lines.length : Int) by omega), hc6, bytesV_str, bstr_str']
      refine RetOk.p rfl ?_
      rw [writeT, if_neg hgood, if_neg (by rw [hall]; decide), if_neg hbig]; rfl
end Go.Proofs.YtmiekonofocboaaGreatDoor.Q
