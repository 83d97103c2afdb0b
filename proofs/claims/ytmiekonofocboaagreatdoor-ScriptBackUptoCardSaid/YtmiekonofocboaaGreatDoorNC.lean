/- 'middenlaw24.ScriptBack', what it answers. -/
import Derived.Test.YtmiekonofocboaaGreatDoorLY
import Derived.Test.YtmiekonofocboaaGreatDoorWE
namespace Go.Proofs.YtmiekonofocboaaGreatDoor.Q
open Go Go.Eng Go.Lib Go.Proofs Go.Proofs.YtmiekonofocboaaGreatDoor.T Go.Proofs.YtmiekonofocboaaGreatDoor.K Go.Proofs.YtmiekonofocboaaGreatDoor.X
set_option linter.unusedSimpArgs false
set_option linter.unusedVariables false
set_option linter.unusedSectionVars false
set_option maxRecDepth 100000
set_option maxHeartbeats 4000000
theorem norm_ok {s : ScrD} (h : ScrOk s) (hw : ∀ l ∈ s.lines, (lineT l).2 = true) : ∀ l ∈ s.lines, (normL l).kind = l.kind ∧ lineT (normL l) = lineT l ∧ LineOk (normL l) := fun l hl => by
  have hlo := h.lines l hl
  obtain ⟨h1, h2⟩ := normL_same l (hw l hl)
  refine ⟨h1, h2, ?_⟩
  have e0 : (ByteArray.size { data := #[] }) ≤ 900000000 := by decide
  unfold normL
  split
  · exact ⟨z64, z64, z64, z64, z64, hlo.nums, hlo.name, hlo.len⟩
  split
  · exact ⟨hlo.n, hlo.depth, hlo.fuel, z64, z64, (fun _ h => nomatch h), e0, Nat.zero_le _⟩
  split
  · exact ⟨z64, z64, z64, hlo.at_, hlo.gen, (fun _ h => nomatch h), e0, Nat.zero_le _⟩
  split
  · exact ⟨hlo.n, z64, z64, z64, z64, (fun _ h => nomatch h), e0, Nat.zero_le _⟩
  split
  · exact ⟨hlo.n, z64, z64, z64, z64, (fun _ h => nomatch h), e0, Nat.zero_le _⟩
  · exact ⟨z64, z64, z64, z64, z64, (fun _ h => nomatch h), e0, Nat.zero_le _⟩
theorem law_back (s : ScrD) (hok : ScrOk s) (text : ByteArray) (ht : text.size ≤ 1048576) (F : PH) (cs : List Value) (hcs : RScr F s cs) (aw : ∀ G : PH, F.le G → PFn Tryz.prog 9 [] G (fun v F' => v = .bool true ∧ F' = G)) :
    PFn Tryz.prog 6 [.agg cs.toArray, .string text] F (fun v _ => v = .bool true) := by
  have hcs0 := hcs
  obtain ⟨v, rfl, xs, ⟨p, c, rfl, hnc, hcm, hsrc⟩, he⟩ := hcs0
  have hmono : ∀ G, F.le G → RScr G s (scrC s (.slice p s.lines.length c)) := fun G hG => ⟨_, rfl, xs, ⟨p, c, rfl, hnc, hcm, hsrc.mono hG⟩, he.mono fun l _ c h => h.mono hG⟩
  refine Fn.intro (n := 94) (ts := [4]) Tryz.func6 rfl rfl rfl rfl (by simp) fun B hB => VC.go 5 ?_
  simp only [push_cast, ↓reduceIte, Nat.reduceEqDiff, Nat.reduceAdd, Nat.reduceMul, Nat.reduceSub, Nat.reduceLT, Nat.reduceLeDiff, reduceCtorEq, Nat.reduceMod, Int.reduceEq, Int.reduceLT, Int.reduceLE, Int.reduceToNat, dite_true]
  intro b2
  have h1 := writeS s hok F _ (hmono F (PH.le_refl _))
  refine CallV.pure h1 ?_
  rintro _ F1 hF1 rfl
  have hlen : s.lines.length ≤ 100000000 := by have := sum_len s.lines; have := hok.sum; omega
  simp only [push_cast, ↓reduceIte, Nat.reduceEqDiff, Nat.reduceAdd, Nat.reduceMul, Nat.reduceSub, Nat.reduceLT, Nat.reduceLeDiff, reduceCtorEq, Nat.reduceMod, Int.reduceEq, Int.reduceLT, Int.reduceLE, Int.reduceToNat, dite_true]
  refine VC.cutW (ι := PH) (fun _ => [(1, .v (.string text))]) (fun _ => []) (fun j => j) (fun _ => []) (fun j => F.le j) (fun G hG => ?_) ?_
  · refine VC.go 100 ?_
    by_cases he : (writeT s).2 = 0
    · obtain ⟨_, hwl, _, _⟩ := write_ok he
      have hbk := back hok he
      have hpt := parse (writeT s).1 (writeT_size hok) F1
      rw [hbk] at hpt
      simp only [push_cast, ↓reduceIte, Nat.reduceEqDiff, Nat.reduceAdd, Nat.reduceMul, Nat.reduceSub, Nat.reduceLT, Nat.reduceLeDiff, reduceCtorEq, Nat.reduceMod, Int.reduceEq, Int.reduceLT, Int.reduceLE, Int.reduceToNat, dite_true, eq_true he]
      refine CallV.pure hpt ?_
      rintro _ F2 hF2 ⟨cs2, rfl, hr2⟩
      have hr2' := hr2
      obtain ⟨v2, rfl, _, ⟨p2, c2, rfl, _, _, _⟩, _⟩ := hr2'
      simp only [push_cast, ↓reduceIte, Nat.reduceEqDiff, Nat.reduceAdd, Nat.reduceMul, Nat.reduceSub, Nat.reduceLT, Nat.reduceLeDiff, reduceCtorEq, Nat.reduceMod, Int.reduceEq, Int.reduceLT, Int.reduceLE, Int.reduceToNat, dite_true]
      intro b7
      have hsm := same_map s normL (norm_ok hok hwl) hok.lines hlen F2 _ _ (hmono F2 (PH.le_trans hF1 hF2)) hr2
      refine CallV.pure hsm ?_
      rintro _ F3 hF3 rfl
      simp only [push_cast, ↓reduceIte, Nat.reduceEqDiff, Nat.reduceAdd, Nat.reduceMul, Nat.reduceSub, Nat.reduceLT, Nat.reduceLeDiff, reduceCtorEq, Nat.reduceMod, Int.reduceEq, Int.reduceLT, Int.reduceLE, Int.reduceToNat, dite_true]
      exact hG F3 _ (PH.le_trans (PH.le_trans hF1 hF2) hF3) (by simp [subk, Eng.look]) (List.nil_sublist _) rfl (subR_refl _)
    · simp only [push_cast, ↓reduceIte, Nat.reduceEqDiff, Nat.reduceAdd, Nat.reduceMul, Nat.reduceSub, Nat.reduceLT, Nat.reduceLeDiff, reduceCtorEq, Nat.reduceMod, Int.reduceEq, Int.reduceLT, Int.reduceLE, Int.reduceToNat, dite_true, he]
      exact hG F1 _ hF1 (by simp [subk, Eng.look]) (List.nil_sublist _) rfl (subR_refl _)
  · intro F2 hF2
    dsimp only
    refine VC.go 100 ?_
    simp only [push_cast, ↓reduceIte, Nat.reduceEqDiff, Nat.reduceAdd, Nat.reduceMul, Nat.reduceSub, Nat.reduceLT, Nat.reduceLeDiff, reduceCtorEq, Nat.reduceMod, Int.reduceEq, Int.reduceLT, Int.reduceLE, Int.reduceToNat, dite_true]
    have hyok := parse_scr ht
    obtain ⟨hrd, _, _⟩ := parse_read text
    have hpt := parse text (by omega) F2
    generalize parseP text = r at hyok hrd hpt
    obtain ⟨y, at_, e⟩ := r
    dsimp only at hyok hrd
    refine CallV.pure hpt ?_
    rintro _ F3 hF3 ⟨cs1, rfl, hr1⟩
    have hr1' := hr1
    obtain ⟨v1, rfl, _, ⟨p1, c1, rfl, _, _, _⟩, _⟩ := hr1'
    simp only [push_cast, ↓reduceIte, Nat.reduceEqDiff, Nat.reduceAdd, Nat.reduceMul, Nat.reduceSub, Nat.reduceLT, Nat.reduceLeDiff, reduceCtorEq, Nat.reduceMod, Int.reduceEq, Int.reduceLT, Int.reduceLE, Int.reduceToNat, dite_true]
    intro b10
    have hl3 := PH.le_trans hF2 hF3
    refine CallV.pure (aw F3 hl3) ?_
    rintro _ F4 hF4 ⟨rfl, e4⟩
    have e4 := e4.symm
    subst e4
    by_cases he : e = 0
    case neg =>
      simp only [push_cast, ↓reduceIte, Nat.reduceEqDiff, Nat.reduceAdd, Nat.reduceMul, Nat.reduceSub, Nat.reduceLT, Nat.reduceLeDiff, reduceCtorEq, Nat.reduceMod, Int.reduceEq, Int.reduceLT, Int.reduceLE, Int.reduceToNat, dite_true, he]
      refine CallV.pure (aw F3 hl3) ?_
      rintro _ F5 hF5 ⟨rfl, e5⟩
      have e5 := e5.symm
      subst e5
      simp only [push_cast, ↓reduceIte, Nat.reduceEqDiff, Nat.reduceAdd, Nat.reduceMul, Nat.reduceSub, Nat.reduceLT, Nat.reduceLeDiff, reduceCtorEq, Nat.reduceMod, Int.reduceEq, Int.reduceLT, Int.reduceLE, Int.reduceToNat, dite_true]
      exact RetOk.p rfl rfl
    subst he
    simp only [push_cast, ↓reduceIte, Nat.reduceEqDiff, Nat.reduceAdd, Nat.reduceMul, Nat.reduceSub, Nat.reduceLT, Nat.reduceLeDiff, reduceCtorEq, Nat.reduceMod, Int.reduceEq, Int.reduceLT, Int.reduceLE, Int.reduceToNat, dite_true]
    refine CallV.pure (writeS y hyok F3 _ hr1) ?_
    rintro _ F5 hF5 rfl
    simp only [push_cast, ↓reduceIte, Nat.reduceEqDiff, Nat.reduceAdd, Nat.reduceMul, Nat.reduceSub, Nat.reduceLT, Nat.reduceLeDiff, reduceCtorEq, Nat.reduceMod, Int.reduceEq, Int.reduceLT, Int.reduceLE, Int.reduceToNat, dite_true]
    have hwr := hrd.writes
    by_cases hg : (writeT y).2 = 0
    case neg =>
      have h3 : (writeT y).2 = 3 := by rcases hwr with h | h; exact absurd h hg; exact h
      simp only [push_cast, ↓reduceIte, Nat.reduceEqDiff, Nat.reduceAdd, Nat.reduceMul, Nat.reduceSub, Nat.reduceLT, Nat.reduceLeDiff, reduceCtorEq, Nat.reduceMod, Int.reduceEq, Int.reduceLT, Int.reduceLE, Int.reduceToNat, dite_true, h3]
      exact RetOk.p rfl rfl
    have hbk := back hyok hg
    rw [hrd.norm] at hbk
    have hpt := parse (writeT y).1 (writeT_size hyok) F5
    rw [hbk] at hpt
    simp only [push_cast, ↓reduceIte, Nat.reduceEqDiff, Nat.reduceAdd, Nat.reduceMul, Nat.reduceSub, Nat.reduceLT, Nat.reduceLeDiff, reduceCtorEq, Nat.reduceMod, Int.reduceEq, Int.reduceLT, Int.reduceLE, Int.reduceToNat, dite_true, eq_true hg]
    refine CallV.pure hpt ?_
    rintro _ F6 hF6 ⟨cs2, rfl, hr2⟩
    have hr2' := hr2
    obtain ⟨v2, rfl, _, ⟨p2, c2, rfl, _, _, _⟩, _⟩ := hr2'
    simp only [push_cast, ↓reduceIte, Nat.reduceEqDiff, Nat.reduceAdd, Nat.reduceMul, Nat.reduceSub, Nat.reduceLT, Nat.reduceLeDiff, reduceCtorEq, Nat.reduceMod, Int.reduceEq, Int.reduceLT, Int.reduceLE, Int.reduceToNat, dite_true]
    intro b15
    refine CallV.pure (writeS y hyok F6 _ hr2) ?_
    rintro _ F7 hF7 rfl
    simp only [push_cast, ↓reduceIte, Nat.reduceEqDiff, Nat.reduceAdd, Nat.reduceMul, Nat.reduceSub, Nat.reduceLT, Nat.reduceLeDiff, reduceCtorEq, Nat.reduceMod, Int.reduceEq, Int.reduceLT, Int.reduceLE, Int.reduceToNat, dite_true, eq_true hg]
    have hlen : y.lines.length ≤ 100000000 := by have := sum_len y.lines; have := hyok.sum; omega
    refine CallV.pure (same y hyok.lines hlen F7 _ _ (RScr.mono hr1 (PH.le_trans hF5 (PH.le_trans hF6 hF7))) (RScr.mono hr2 hF7)) ?_
    rintro _ F8 hF8 rfl
    simp only [push_cast, ↓reduceIte, Nat.reduceEqDiff, Nat.reduceAdd, Nat.reduceMul, Nat.reduceSub, Nat.reduceLT, Nat.reduceLeDiff, reduceCtorEq, Nat.reduceMod, Int.reduceEq, Int.reduceLT, Int.reduceLE, Int.reduceToNat, dite_true, eq_self, decide_true]
    exact RetOk.p rfl rfl
end Go.Proofs.YtmiekonofocboaaGreatDoor.Q
