/- My texts LO LP LQ LR, in one. -/
import Derived.Test.YtmiekonofocboaaGreatDoorLX
/- Scripts: what a text is read as. -/
namespace Go.Proofs.YtmiekonofocboaaGreatDoor.Q
open Go Go.Eng Go.Lib Go.Proofs Go.Proofs.YtmiekonofocboaaGreatDoor.T Go.Proofs.YtmiekonofocboaaGreatDoor.K Go.Proofs.YtmiekonofocboaaGreatDoor.X
set_option linter.unusedSimpArgs false
set_option linter.unusedVariables false
set_option linter.unusedSectionVars false
abbrev K6 := Int × Int × Int × Int × Int × Int
def scr0 : ScrD := ⟨0, 0, 0, 0, 0, 0, ⟨#[]⟩, []⟩
def mkScr (k : K6) (t : ByteArray) (ls : List LineD) : ScrD := ⟨k.1, k.2.1, k.2.2.1, k.2.2.2.1, k.2.2.2.2.1, k.2.2.2.2.2, t, ls⟩
noncomputable def parseL : List ByteArray → Nat → Option K6 → ByteArray → List LineD → ScrD × Int × Int
  | [], _, none, _, _ => (scr0, 0, 70)
  | [], _, some k, t, ls => (mkScr k t ls, 0, 0)
  | s :: r, i, none, t, ls => if s = ⟨#[]⟩ then parseL r (i + 1) none t ls else (match heapP s with
      | none => (scr0, (i : Int), 70)
      | some k' => parseL r (i + 1) (some k') t ls)
  | s :: r, i, some k, t, ls => if s = ⟨#[]⟩ then parseL r (i + 1) (some k) t ls else if ch s 0 = 124 then parseL r (i + 1) (some k) (t ++ s.extract 1 s.size ++ ⟨#[10]⟩) ls else (match lineOf s with
      | none => (scr0, (i : Int), 70)
      | some l => parseL r (i + 1) (some k) t (ls ++ [l]))
noncomputable def parseP (text : ByteArray) : ScrD × Int × Int := if 2048 < (splitP text 10).length then (scr0, 0, 3) else parseL (splitP text 10) 0 none ⟨#[]⟩ []
/-- What came of a text. -/
def ParseV (F : PH) (v : Value) (r : ScrD × Int × Int) : Prop := ∃ cs, v = .tuple #[.agg cs.toArray, .int .i64 r.2.1, .int .i64 r.2.2] ∧ RScr F r.1 cs
theorem scr0_at (F : PH) : RScr F scr0 (scrC scr0 (.slice none 0 0)) := ⟨_, rfl, [], ⟨none, 0, rfl, Nat.le_refl _, Nat.zero_le _, by simp [scr0], fun h => absurd h (by simp [scr0])⟩, rfl⟩
theorem parse_empty {r : List ByteArray} {i : Nat} {k : Option K6} {t : ByteArray} {ls : List LineD} {s : ByteArray} (h : s = ⟨#[]⟩) : parseL (s :: r) i k t ls = parseL r (i + 1) k t ls := by
  cases k <;> simp only [parseL, if_pos h]
theorem parse_heap {r : List ByteArray} {i : Nat} {t : ByteArray} {ls : List LineD} {s : ByteArray} (h : ¬ s = ⟨#[]⟩) : (∀ k, heapP s = some k → parseL (s :: r) i none t ls = parseL r (i + 1) (some k) t ls) ∧ (heapP s = none → parseL (s :: r) i none t ls = (scr0, (i : Int), 70)) := by
  constructor
  · intro k hk; simp only [parseL, if_neg h, hk]
  · intro hk; simp only [parseL, if_neg h, hk]
theorem parse_bar {r : List ByteArray} {i : Nat} {k : K6} {t : ByteArray} {ls : List LineD} {s : ByteArray} (h : ¬ s = ⟨#[]⟩) (hb : ch s 0 = 124) : parseL (s :: r) i (some k) t ls = parseL r (i + 1) (some k) (t ++ s.extract 1 s.size ++ ⟨#[10]⟩) ls := by
  simp only [parseL, if_neg h, if_pos hb]
theorem parse_line {r : List ByteArray} {i : Nat} {k : K6} {t : ByteArray} {ls : List LineD} {s : ByteArray} (h : ¬ s = ⟨#[]⟩) (hb : ¬ ch s 0 = 124) : (∀ l, lineOf s = some l → parseL (s :: r) i (some k) t ls = parseL r (i + 1) (some k) t (ls ++ [l])) ∧ (lineOf s = none → parseL (s :: r) i (some k) t ls = (scr0, (i : Int), 70)) := by
  constructor
  · intro l hl; simp only [parseL, if_neg h, if_neg hb, hl]
  · intro hl; simp only [parseL, if_neg h, if_neg hb, hl]
theorem sumB_step {l : List ByteArray} {j : Nat} (h : j < l.length) : sumOf ByteArray.size (l.take (j + 1)) = sumOf ByteArray.size (l.take j) + (l[j]).size := by
  rw [List.take_succ_eq_append_getElem h, sumOf_append]
  simp [sumOf]
theorem bpos {s : ByteArray} (h : ¬ s = ⟨#[]⟩) : 0 < s.size := by
  rcases Nat.eq_zero_or_pos s.size with e | e
  · exact absurd (ByteArray.size_eq_zero_iff.1 e) h
  · exact e
end Go.Proofs.YtmiekonofocboaaGreatDoor.Q

/- Scripts: what the program reads (script.Parse). -/
namespace Go.Proofs.YtmiekonofocboaaGreatDoor.Q
open Go Go.Eng Go.Lib Go.Proofs Go.Proofs.YtmiekonofocboaaGreatDoor.T Go.Proofs.YtmiekonofocboaaGreatDoor.K Go.Proofs.YtmiekonofocboaaGreatDoor.X
set_option linter.unusedSimpArgs false
set_option linter.unusedVariables false
set_option linter.unusedSectionVars false
set_option maxRecDepth 100000
set_option maxHeartbeats 4000000
theorem parse (text : ByteArray) (hs : text.size ≤ 1048576) (F : PH) : PFn Tryz.prog 7 [.string text] F (fun v F' => ParseV F' v (parseP text)) := by
  refine Fn.intro (n := 82) (ts := [.cell 2 26, 3, 4]) Tryz.func7 rfl rfl rfl rfl (by simp) fun B hB => VC.go 100 ?_
  simp only [push_cast, ↓reduceIte, Nat.reduceEqDiff, Nat.reduceAdd, Nat.reduceMul, Nat.reduceSub, Nat.reduceLT, Nat.reduceLeDiff, reduceCtorEq, Nat.reduceMod, Int.reduceEq, Int.reduceLT, Int.reduceLE, Int.reduceToNat, dite_true]
  intro b2
  refine VC.scope (VC.go 100 ?_)
  simp only [push_cast, ↓reduceIte, Nat.reduceEqDiff, Nat.reduceAdd, Nat.reduceMul, Nat.reduceSub, Nat.reduceLT, Nat.reduceLeDiff, reduceCtorEq, Nat.reduceMod, Int.reduceEq, Int.reduceLT, Int.reduceLE, Int.reduceToNat, dite_true]
  have hsp := split text 10 (by omega) F
  have hsum := splitP_sum text 10
  have hlen := splitP_len text 10
  have hpp : parseP text = if 2048 < (splitP text 10).length then (scr0, 0, 3) else parseL (splitP text 10) 0 none ⟨#[]⟩ [] := rfl
  generalize splitP text 10 = ps at hsp hsum hlen hpp
  refine CallV.pure hsp ?_
  rintro _ F1 hF1 ⟨p, c, rfl, hnc, hcm, hsrc⟩
  by_cases hbig : 2048 < ps.length
  · rw [if_pos hbig] at hpp
    simp only [push_cast, ↓reduceIte, Nat.reduceEqDiff, Nat.reduceAdd, Nat.reduceMul, Nat.reduceSub, Nat.reduceLT, Nat.reduceLeDiff, reduceCtorEq, Nat.reduceMod, Int.reduceEq, Int.reduceLT, Int.reduceLE, Int.reduceToNat, dite_true, eq_true (show (2048 : Int) < (ps.length : Int) by omega)]
    rw [hpp]
    refine ⟨[_, _, _], [], (by simp only [push_cast, ↓reduceIte, Nat.reduceEqDiff, Nat.reduceAdd, Nat.reduceMul, Nat.reduceSub, Nat.reduceLT, Nat.reduceLeDiff, reduceCtorEq, Nat.reduceMod, Int.reduceEq, Int.reduceLT, Int.reduceLE, Int.reduceToNat, dite_true, rvals, rval1]; rfl), .sub (List.nil_sublist _), rfl, ?_⟩
    exact ⟨_, rfl, scr0_at _⟩
  rw [if_neg hbig] at hpp
  simp only [push_cast, ↓reduceIte, Nat.reduceEqDiff, Nat.reduceAdd, Nat.reduceMul, Nat.reduceSub, Nat.reduceLT, Nat.reduceLeDiff, reduceCtorEq, Nat.reduceMod, Int.reduceEq, Int.reduceLT, Int.reduceLE, Int.reduceToNat, dite_true, eq_false (show ¬ (2048 : Int) < (ps.length : Int) by omega)]
  intro b6
  refine VC.label (VC.go 100 ?_)
  simp only [push_cast, ↓reduceIte, Nat.reduceEqDiff, Nat.reduceAdd, Nat.reduceMul, Nat.reduceSub, Nat.reduceLT, Nat.reduceLeDiff, reduceCtorEq, Nat.reduceMod, Int.reduceEq, Int.reduceLT, Int.reduceLE, Int.reduceToNat, dite_true]
  refine VC.emp (VC.emp ?_)
  refine VC.loopW (ι := Nat × Option K6 × ByteArray × List LineD × Value × Value × PH × PH × PH) (fun i => [(24, .v (.int .i64 (i.1 : Int))), (23, .v (.int .i64 (ps.length : Int))), (22, .v (.slice p ps.length c)), (7, .v (.bool i.2.1.isSome)), (8, .v i.2.2.2.2.1), (6, .o 1 b6 0), (2, .o 0 b2 0)])
    (fun i => [⟨0, b2, 26, scrC scr0 (.slice none 0 0)⟩, ⟨1, b6, 26, scrC (mkScr (i.2.1.getD (0, 0, 0, 0, 0, 0)) ⟨#[]⟩ []) i.2.2.2.2.2.1⟩]) (fun i => i.2.2.2.2.2.2.2.2) (fun i => [i.2.2.2.2.2.2.1, i.2.2.2.2.2.2.2.1])
    (fun i => i.1 ≤ ps.length ∧ F1.le i.2.2.2.2.2.2.2.2 ∧ parseL (ps.drop i.1) i.1 i.2.1 i.2.2.1 i.2.2.2.1 = parseP text ∧ i.2.2.1.size ≤ sumOf ByteArray.size (ps.take i.1) ∧ i.2.2.2.1.length ≤ i.1 ∧ (∃ xs, Row i.2.2.2.2.2.2.1 51 8 i.2.2.2.2.2.1 xs ∧ Each (RLine i.2.2.2.2.2.2.2.2) i.2.2.2.1 xs) ∧ BRow i.2.2.2.2.2.2.2.1 5 i.2.2.2.2.1 (strCells i.2.2.1))
    (fun i => ps.length - i.1) (0, none, ⟨#[]⟩, [], .slice none 0 0, .slice none 0 0, PH.emp, PH.emp, F1) ⟨Nat.zero_le _, PH.le_refl _, hpp.symm, by simp [ByteArray.size], Nat.zero_le _, ⟨[], Row.nil _ _, rfl⟩, BRow.nil _⟩ (by simp [subk, Eng.look]) (List.Sublist.refl _) rfl (subR_refl _) ?_
  rintro ⟨j, k, t, ls, v8, vl, rl, rt, F2⟩ ⟨hj, hF2, hpl, htz, hll, ⟨xs, hrl, hea⟩, hrt⟩ G hG
  dsimp only at hj hF2 hpl htz hll hrl hea hrt hG ⊢
  obtain ⟨p8, c8, e8, _, _⟩ := hrt.val
  obtain ⟨pl, nl, cl, rfl⟩ := hrl.val
  have hxl := Each.len (sz := 8) (fun a c h => RLine.len h) hea
  have hsj := sumB_take ps j
  rcases Nat.lt_or_ge j ps.length with hlt | hge
  case inr =>
    obtain rfl : j = ps.length := by omega
    rw [List.drop_length] at hpl
    refine VC.freezeR (List.Perm.refl _) fun F3 hF3 hl3 => ?_
    dsimp only at hF3 hl3 ⊢
    refine VC.freezeR (List.Perm.refl _) fun F4 hF4 hl4 => ?_
    dsimp only at hF4 hl4 ⊢
    refine VC.go 100 ?_
    have hF24 : F2.le F4 := PH.le_trans hF3 hF4
    have hsl := row_sle (R := RLine F4) (by decide) (fun a c h => RLine.len h) hrl (hea.mono fun l _ c h => h.mono hF24) (fun b o h => hF4 b o (hl3 b o h))
    cases k with
    | none =>
      have hpl : (scr0, 0, 70) = parseP text := hpl
      simp only [push_cast, ↓reduceIte, Nat.reduceEqDiff, Nat.reduceAdd, Nat.reduceMul, Nat.reduceSub, Nat.reduceLT, Nat.reduceLeDiff, reduceCtorEq, Nat.reduceMod, Int.reduceEq, Int.reduceLT, Int.reduceLE, Int.reduceToNat, dite_true, eq_false (show ¬ (ps.length : Int) < (ps.length : Int) by omega), Option.isSome_none]
      rw [← hpl]
      refine ⟨[_, _, _], [], (by simp only [push_cast, ↓reduceIte, Nat.reduceEqDiff, Nat.reduceAdd, Nat.reduceMul, Nat.reduceSub, Nat.reduceLT, Nat.reduceLeDiff, reduceCtorEq, Nat.reduceMod, Int.reduceEq, Int.reduceLT, Int.reduceLE, Int.reduceToNat, dite_true, rvals, rval1]; rfl), .sub (List.nil_sublist _), rfl, ?_⟩
      exact ⟨_, rfl, scr0_at _⟩
    | some kk =>
      have hpl : (mkScr kk t ls, 0, 0) = parseP text := hpl
      rcases hrt with ⟨e0, ht0, _⟩ | ⟨g8, n8, cap8, cur8, fz8, e0, hn8, hr8, hz8, h28, h38, h48, h58⟩
      · obtain rfl : t = ⟨#[]⟩ := ByteArray.size_eq_zero_iff.1 (by rw [← strCells_length, ht0]; rfl)
        subst e0
        simp only [push_cast, ↓reduceIte, Nat.reduceEqDiff, Nat.reduceAdd, Nat.reduceMul, Nat.reduceSub, Nat.reduceLT, Nat.reduceLeDiff, reduceCtorEq, Nat.reduceMod, Int.reduceEq, Int.reduceLT, Int.reduceLE, Int.reduceToNat, dite_true, eq_false (show ¬ (ps.length : Int) < (ps.length : Int) by omega), Option.isSome_some]
        rw [← hpl]
        refine ⟨[_, _, _], [], (by simp only [push_cast, ↓reduceIte, Nat.reduceEqDiff, Nat.reduceAdd, Nat.reduceMul, Nat.reduceSub, Nat.reduceLT, Nat.reduceLeDiff, reduceCtorEq, Nat.reduceMod, Int.reduceEq, Int.reduceLT, Int.reduceLE, Int.reduceToNat, dite_true, rvals, rval1]; rfl), .sub (List.nil_sublist _), rfl, ?_⟩
        exact ⟨_, rfl, _, rfl, hsl⟩
      · have hs8 := (show BRow rt 5 v8 (strCells t) from .inr ⟨g8, n8, cap8, cur8, fz8, e0, hn8, hr8, hz8, h28, h38, h48, h58⟩).sl hl4
        subst e0
        obtain ⟨p9, c9, e9, _, _, hs9⟩ := hs8
        cases e9
        have hcc : F4.cells ⟨g8, 0, none⟩ (strCells t).length = some (strCells t) := by
          rcases Nat.eq_zero_or_pos (strCells t).length with hz | hz
          · have : strCells t = [] := List.eq_nil_of_length_eq_zero hz
            rw [this]; rfl
          · obtain ⟨a9, e9, h9⟩ := hs9.2 (by omega)
            cases e9
            rw [Nat.mul_one] at h9
            exact h9
        simp only [push_cast, ↓reduceIte, Nat.reduceEqDiff, Nat.reduceAdd, Nat.reduceMul, Nat.reduceSub, Nat.reduceLT, Nat.reduceLeDiff, reduceCtorEq, Nat.reduceMod, Int.reduceEq, Int.reduceLT, Int.reduceLE, Int.reduceToNat, dite_true, eq_false (show ¬ (ps.length : Int) < (ps.length : Int) by omega), Option.isSome_some, hcc, bytesV_str, bstr_str']
        rw [← hpl]
        refine ⟨[_, _, _], [], (by simp only [push_cast, ↓reduceIte, Nat.reduceEqDiff, Nat.reduceAdd, Nat.reduceMul, Nat.reduceSub, Nat.reduceLT, Nat.reduceLeDiff, reduceCtorEq, Nat.reduceMod, Int.reduceEq, Int.reduceLT, Int.reduceLE, Int.reduceToNat, dite_true, rvals, rval1]; rfl), .sub (List.nil_sublist _), rfl, ?_⟩
        exact ⟨_, rfl, _, rfl, hsl⟩
  subst e8
  refine VC.go 100 ?_
  have hmem : ps[j] ∈ ps := List.getElem_mem hlt
  have hszj : (ps[j]).size ≤ 1048576 := by have := sum_mem hmem; omega
  have hst := sumB_step hlt
  have hst2 := sumB_take ps (j + 1)
  rw [List.drop_eq_getElem_cons hlt] at hpl
  obtain ⟨a, rfl, hca⟩ := (hsrc.mono hF2).elem1 (i := j) (v := .string ps[j]) (by simp [hlt])
  have hw1 : IntKind.i64.wrap ((j : Int) + 1) = (j : Int) + 1 := IntWalk.i64_in _ (by omega)
  have f1 := eq_true (show (j : Int) < (ps.length : Int) by omega)
  generalize ps[j] = s at hpl hca hszj hst hmem
  by_cases h0 : s = ⟨#[]⟩
  · rw [parse_empty h0] at hpl
    simp only [push_cast, ↓reduceIte, Nat.reduceEqDiff, Nat.reduceAdd, Nat.reduceMul, Nat.reduceSub, Nat.reduceLT, Nat.reduceLeDiff, reduceCtorEq, Nat.reduceMod, Int.reduceEq, Int.reduceLT, Int.reduceLE, Int.reduceToNat, dite_true, f1, hca, eq_true hlt, Nat.mul_one, eq_true h0, hw1]
    exact hG (j + 1, k, t, ls, _, _, rl, rt, F2) _ ⟨by dsimp only; omega, hF2, hpl, by dsimp only; omega, by dsimp only; omega, ⟨xs, hrl, hea⟩, hrt⟩ (by dsimp only; omega) (by simp [subk, Eng.look]) (List.Sublist.refl _) rfl (subR_refl _)
  have hp0 := bpos h0
  cases k with
  | none =>
    obtain ⟨q1, q2⟩ := parse_heap (r := ps.drop (j + 1)) (i := j) (t := t) (ls := ls) h0
    simp only [push_cast, ↓reduceIte, Nat.reduceEqDiff, Nat.reduceAdd, Nat.reduceMul, Nat.reduceSub, Nat.reduceLT, Nat.reduceLeDiff, reduceCtorEq, Nat.reduceMod, Int.reduceEq, Int.reduceLT, Int.reduceLE, Int.reduceToNat, dite_true, f1, hca, eq_true hlt, Nat.mul_one, h0, Option.isSome_none]
    have hhp := heap s (by omega) F2
    refine CallV.pure hhp ?_
    rintro _ F3 hF3 rfl
    cases hk : heapP s with
    | none =>
      have hv : heapV s = .tuple #[confV (0, 0, 0, 0, 0, 0), .int .i64 0, .bool false] := by unfold heapV; rw [hk]
      rw [hv]
      rw [q2 hk] at hpl
      simp only [push_cast, ↓reduceIte, Nat.reduceEqDiff, Nat.reduceAdd, Nat.reduceMul, Nat.reduceSub, Nat.reduceLT, Nat.reduceLeDiff, reduceCtorEq, Nat.reduceMod, Int.reduceEq, Int.reduceLT, Int.reduceLE, Int.reduceToNat, dite_true, confV]
      intro b11
      rw [← hpl]
      refine ⟨[_, _, _], [], (by simp only [push_cast, ↓reduceIte, Nat.reduceEqDiff, Nat.reduceAdd, Nat.reduceMul, Nat.reduceSub, Nat.reduceLT, Nat.reduceLeDiff, reduceCtorEq, Nat.reduceMod, Int.reduceEq, Int.reduceLT, Int.reduceLE, Int.reduceToNat, dite_true, rvals, rval1]; rfl), .sub (List.nil_sublist _), rfl, ?_⟩
      exact ⟨_, rfl, scr0_at _⟩
    | some kk =>
      have hv : heapV s = .tuple #[confV kk, .int .i64 kk.2.2.2.2.2, .bool true] := by unfold heapV; rw [hk]
      rw [hv]
      rw [q1 kk hk] at hpl
      simp only [push_cast, ↓reduceIte, Nat.reduceEqDiff, Nat.reduceAdd, Nat.reduceMul, Nat.reduceSub, Nat.reduceLT, Nat.reduceLeDiff, reduceCtorEq, Nat.reduceMod, Int.reduceEq, Int.reduceLT, Int.reduceLE, Int.reduceToNat, dite_true, confV]
      intro b11
      simp only [push_cast, ↓reduceIte, Nat.reduceEqDiff, Nat.reduceAdd, Nat.reduceMul, Nat.reduceSub, Nat.reduceLT, Nat.reduceLeDiff, reduceCtorEq, Nat.reduceMod, Int.reduceEq, Int.reduceLT, Int.reduceLE, Int.reduceToNat, dite_true, hw1]
      exact hG (j + 1, some kk, t, ls, _, _, rl, rt, F3) _ ⟨by dsimp only; omega, PH.le_trans hF2 hF3, hpl, by dsimp only; omega, by dsimp only; omega, ⟨xs, hrl, hea.mono fun l _ c h => h.mono hF3⟩, hrt⟩ (by dsimp only; omega) (by simp [subk, Eng.look]) (List.sublist_append_left [_, _] [_]) rfl (subR_refl _)
  | some kk =>
  have hc : ((s.data.getD 0 0).toNat : Int) = ch s 0 := rfl
  have g1 := eq_true (show (0 : Int) < (s.size : Int) by omega)
  by_cases hb : ch s 0 = 124
  · rw [parse_bar h0 hb] at hpl
    have g2 := eq_true (show (1 : Int) ≤ (s.size : Int) by omega)
    have hex : (s.extract 1 s.size).size = s.size - 1 := by rw [ByteArray.size_extract]; omega
    have htl : (strCells t).length ≤ 1048576 := by rw [strCells_length]; omega
    simp only [push_cast, ↓reduceIte, Nat.reduceEqDiff, Nat.reduceAdd, Nat.reduceMul, Nat.reduceSub, Nat.reduceLT, Nat.reduceLeDiff, reduceCtorEq, Nat.reduceMod, Int.reduceEq, Int.reduceLT, Int.reduceLE, Int.reduceToNat, dite_true, f1, hca, eq_true hlt, Nat.mul_one, h0, Option.isSome_some, g1, hc, eq_true hb, g2]
    refine Eff.appendBS (tx := s.extract 1 s.size) rfl rfl rfl ty44 rfl ty9 rfl ty5 rfl rfl rfl rfl rfl (List.Perm.swap _ _ _) hrt (by omega) ?_
    intro v7 r7 hr7
    obtain ⟨p7, c7, e7, _, _⟩ := hr7.val
    subst e7
    simp only [push_cast, ↓reduceIte, Nat.reduceEqDiff, Nat.reduceAdd, Nat.reduceMul, Nat.reduceSub, Nat.reduceLT, Nat.reduceLeDiff, reduceCtorEq, Nat.reduceMod, Int.reduceEq, Int.reduceLT, Int.reduceLE, Int.reduceToNat, dite_true]
    intro b9 F3 hF3 hb9
    refine Eff.appendBL (ys := [.int .u8 10]) rfl rfl rfl ty44 rfl ty5 rfl rfl rfl rfl rfl (Src.blk hb9 rfl) (by simp [Value.oneCell']) (List.Perm.refl _) hr7 (by simp only [List.length_append, strCells_length]; rw [strCells_length] at htl; omega) ?_
    intro v10 r10 hr10
    rw [show strCells t ++ strCells (s.extract 1 s.size) ++ [Value.int .u8 10] = strCells (t ++ s.extract 1 s.size ++ ⟨#[10]⟩) by simp [strCells]] at hr10
    simp only [push_cast, ↓reduceIte, Nat.reduceEqDiff, Nat.reduceAdd, Nat.reduceMul, Nat.reduceSub, Nat.reduceLT, Nat.reduceLeDiff, reduceCtorEq, Nat.reduceMod, Int.reduceEq, Int.reduceLT, Int.reduceLE, Int.reduceToNat, dite_true, hw1]
    exact hG (j + 1, some kk, t ++ s.extract 1 s.size ++ ⟨#[10]⟩, ls, v10, _, rl, r10, F3) _ ⟨by dsimp only; omega, PH.le_trans hF2 hF3, hpl, by dsimp only; rw [ByteArray.size_append, ByteArray.size_append, hex]; have : ByteArray.size { data := #[10] } = 1 := rfl; omega, by dsimp only; omega, ⟨xs, hrl, hea.mono fun l _ c h => h.mono hF3⟩, hr10⟩ (by dsimp only; omega) (by simp [subk, Eng.look]) (List.Sublist.refl _) rfl ⟨_, List.Sublist.refl _, List.Perm.swap _ _ _⟩
  obtain ⟨q1, q2⟩ := parse_line (r := ps.drop (j + 1)) (i := j) (k := kk) (t := t) (ls := ls) h0 hb
  simp only [push_cast, ↓reduceIte, Nat.reduceEqDiff, Nat.reduceAdd, Nat.reduceMul, Nat.reduceSub, Nat.reduceLT, Nat.reduceLeDiff, reduceCtorEq, Nat.reduceMod, Int.reduceEq, Int.reduceLT, Int.reduceLE, Int.reduceToNat, dite_true, f1, hca, eq_true hlt, Nat.mul_one, h0, Option.isSome_some, g1, hc, hb]
  have hln := line s (by omega) F2
  refine CallV.pure hln ?_
  rintro u F3 hF3 hu
  cases hk : lineOf s with
  | none =>
    rw [hk] at hu
    rw [q2 hk] at hpl
    cases (show u = .tuple #[.agg (lineC ⟨0, 0, ⟨#[]⟩, [], 0, 0, 0, 0⟩ (.slice none 0 0)).toArray, .bool false] from hu)
    simp only [push_cast, ↓reduceIte, Nat.reduceEqDiff, Nat.reduceAdd, Nat.reduceMul, Nat.reduceSub, Nat.reduceLT, Nat.reduceLeDiff, reduceCtorEq, Nat.reduceMod, Int.reduceEq, Int.reduceLT, Int.reduceLE, Int.reduceToNat, dite_true]
    intro b14
    rw [← hpl]
    refine ⟨[_, _, _], [], (by simp only [push_cast, ↓reduceIte, Nat.reduceEqDiff, Nat.reduceAdd, Nat.reduceMul, Nat.reduceSub, Nat.reduceLT, Nat.reduceLeDiff, reduceCtorEq, Nat.reduceMod, Int.reduceEq, Int.reduceLT, Int.reduceLE, Int.reduceToNat, dite_true, rvals, rval1]; rfl), .sub (List.nil_sublist _), rfl, ?_⟩
    exact ⟨_, rfl, scr0_at _⟩
  | some l =>
    rw [hk] at hu
    rw [q1 l hk] at hpl
    obtain ⟨cs, rfl, hrl8⟩ := hu
    obtain ⟨vl8, rfl, hin⟩ := hrl8
    have hin0 := hin
    obtain ⟨pv, cv, rfl, _, _, _⟩ := hin0
    simp only [push_cast, ↓reduceIte, Nat.reduceEqDiff, Nat.reduceAdd, Nat.reduceMul, Nat.reduceSub, Nat.reduceLT, Nat.reduceLeDiff, reduceCtorEq, Nat.reduceMod, Int.reduceEq, Int.reduceLT, Int.reduceLE, Int.reduceToNat, dite_true]
    intro b14 b16 F4 hF4 hb16
    refine Eff.append (xs := xs) (ys := lineC l (.slice pv l.nums.length cv)) rfl rfl rfl ty24 rfl ty51 rfl (by decide) rfl rfl (List.Perm.refl _) hrl (Src.blk hb16 rfl) (by simp [Value.oneCell']) (by simp; omega) (by decide) ?_
    intro v' r' hr'
    obtain ⟨p17, n17, c17, rfl⟩ := hr'.val
    simp only [push_cast, ↓reduceIte, Nat.reduceEqDiff, Nat.reduceAdd, Nat.reduceMul, Nat.reduceSub, Nat.reduceLT, Nat.reduceLeDiff, reduceCtorEq, Nat.reduceMod, Int.reduceEq, Int.reduceLT, Int.reduceLE, Int.reduceToNat, dite_true, hw1]
    exact hG (j + 1, some kk, t, ls ++ [l], _, _, r', rt, F4) _ ⟨by dsimp only; omega, PH.le_trans (PH.le_trans hF2 hF3) hF4, hpl, by dsimp only; omega, by simp; omega, ⟨_, hr', each_snoc (hea.mono fun l _ c h => h.mono (PH.le_trans hF3 hF4)) ⟨_, rfl, hin.mono hF4⟩⟩, hrt⟩ (by dsimp only; omega) (by simp [subk, Eng.look]) (List.sublist_append_left [_, _] [_]) rfl (subR_refl _)
end Go.Proofs.YtmiekonofocboaaGreatDoor.Q

/- Scripts: what the definition reads (middenref24.Parse). -/
namespace Go.Proofs.YtmiekonofocboaaGreatDoor.Q
open Go Go.Eng Go.Lib Go.Proofs Go.Proofs.YtmiekonofocboaaGreatDoor.T Go.Proofs.YtmiekonofocboaaGreatDoor.K Go.Proofs.YtmiekonofocboaaGreatDoor.X
set_option linter.unusedSimpArgs false
set_option linter.unusedVariables false
set_option linter.unusedSectionVars false
set_option maxRecDepth 100000
set_option maxHeartbeats 4000000
/-- Its ends of lines, so far. -/
def cntN (s : ByteArray) : Nat → Nat
  | 0 => 0
  | i + 1 => cntN s i + if ch s i = 10 then 1 else 0
theorem cntN_le (s : ByteArray) : ∀ i, cntN s i ≤ i
  | 0 => Nat.le_refl _
  | i + 1 => by have := cntN_le s i; simp only [cntN]; split <;> omega
theorem split_cnt (s : ByteArray) : ∀ n a i, n = s.size - i → i ≤ s.size → (splitE s 10 a i).length + cntN s i = 1 + cntN s s.size
  | n, a, i, hn, hi => by
    rw [splitE_eq]
    by_cases h : i < s.size
    · rw [if_pos h]
      have hc : cntN s (i + 1) = cntN s i + if ch s i = 10 then 1 else 0 := rfl
      by_cases h2 : ch s i = 10
      · rw [if_pos h2] at hc ⊢
        have := split_cnt s (s.size - (i + 1)) (i + 1) (i + 1) rfl (by omega)
        rw [List.length_cons]; omega
      · rw [if_neg h2] at hc ⊢
        have := split_cnt s (s.size - (i + 1)) a (i + 1) rfl (by omega)
        omega
    · rw [if_neg h]
      obtain rfl : i = s.size := by omega
      simp
  termination_by n a i => s.size - i
theorem ref_parse (text : ByteArray) (hs : text.size ≤ 1048576) (F : PH) : PFn Tryz.prog 8 [.string text] F (fun v F' => ParseV F' v (parseP text)) := by
  refine Fn.intro (n := 121) (ts := [.cell 2 26, 3, 4]) Tryz.func8 rfl rfl rfl rfl (by simp) fun B hB => VC.go 5 ?_
  simp only [push_cast, ↓reduceIte, Nat.reduceEqDiff, Nat.reduceAdd, Nat.reduceMul, Nat.reduceSub, Nat.reduceLT, Nat.reduceLeDiff, reduceCtorEq, Nat.reduceMod, Int.reduceEq, Int.reduceLT, Int.reduceLE, Int.reduceToNat, dite_true]
  intro b2
  have hcn : (splitP text 10).length = 1 + cntN text text.size := by have := split_cnt text _ 0 0 rfl (Nat.zero_le _); simpa [splitP, cntN] using this
  refine VC.cutG (ι := Unit) (fun _ => [(5, .v (.int .i64 ((1 + cntN text text.size : Nat) : Int))), (2, .o 0 b2 0), (0, .v (.string text))]) (fun _ => F) (fun _ => []) (fun _ => True) ?_ ?_
  · intro G hG
    refine VC.go 100 ?_
    simp only [push_cast, ↓reduceIte, Nat.reduceEqDiff, Nat.reduceAdd, Nat.reduceMul, Nat.reduceSub, Nat.reduceLT, Nat.reduceLeDiff, reduceCtorEq, Nat.reduceMod, Int.reduceEq, Int.reduceLT, Int.reduceLE, Int.reduceToNat, dite_true]
    refine VC.loopL (fun i : Nat => [(6, .v (.int .i64 (i : Int))), (5, .v (.int .i64 ((1 + cntN text i : Nat) : Int))), (2, .o 0 b2 0), (0, .v (.string text))]) (fun i => i ≤ text.size) (fun i => text.size - i) 0 (Nat.zero_le _) (by simp [subk, Eng.look, cntN]) ?_
    intro i hi G2 hG2
    have hcl := cntN_le text i
    have hc : ((text.data.getD i 0).toNat : Int) = ch text i := rfl
    have hcs : cntN text (i + 1) = cntN text i + if ch text i = 10 then 1 else 0 := rfl
    refine VC.go 100 ?_
    rcases Nat.lt_or_ge i text.size with hlt | hge
    · have hw1 : IntKind.i64.wrap ((i : Int) + 1) = (i : Int) + 1 := IntWalk.i64_in _ (by omega)
      have hw2 : IntKind.i64.wrap (0 + 1 + (cntN text i : Int) + 1) = 0 + 1 + (cntN text i : Int) + 1 := IntWalk.i64_in _ (by omega)
      have f1 := eq_true (show (i : Int) < (text.size : Int) by omega)
      have f2 := eq_true (show (0 : Int) ≤ (i : Int) by omega)
      by_cases h10 : ch text i = 10
      · rw [if_pos h10] at hcs
        simp only [push_cast, ↓reduceIte, Nat.reduceEqDiff, Nat.reduceAdd, Nat.reduceMul, Nat.reduceSub, Nat.reduceLT, Nat.reduceLeDiff, reduceCtorEq, Nat.reduceMod, Int.reduceEq, Int.reduceLT, Int.reduceLE, Int.reduceToNat, dite_true, f1, f2, hc, eq_true h10, hw1, hw2]
        exact hG2 (i + 1) _ (by omega) (by omega) (by simp [subk, Eng.look, hcs]; omega) (List.Sublist.refl _) rfl rfl
      · rw [if_neg h10] at hcs
        simp only [push_cast, ↓reduceIte, Nat.reduceEqDiff, Nat.reduceAdd, Nat.reduceMul, Nat.reduceSub, Nat.reduceLT, Nat.reduceLeDiff, reduceCtorEq, Nat.reduceMod, Int.reduceEq, Int.reduceLT, Int.reduceLE, Int.reduceToNat, dite_true, f1, f2, hc, h10, hw1]
        exact hG2 (i + 1) _ (by omega) (by omega) (by simp [subk, Eng.look, hcs]) (List.Sublist.refl _) rfl rfl
    · obtain rfl : i = text.size := by omega
      simp only [push_cast, ↓reduceIte, Nat.reduceEqDiff, Nat.reduceAdd, Nat.reduceMul, Nat.reduceSub, Nat.reduceLT, Nat.reduceLeDiff, reduceCtorEq, Nat.reduceMod, Int.reduceEq, Int.reduceLT, Int.reduceLE, Int.reduceToNat, dite_true, eq_false (show ¬ (text.size : Int) < (text.size : Int) by omega)]
      exact hG () _ trivial (by simp [subk, Eng.look]) (List.Sublist.refl _) rfl (List.Sublist.refl _)
  intro _ _
  rw [← hcn]
  have hsp := ref_split text 10 (by omega) F
  have hsum := splitP_sum text 10
  have hlen := splitP_len text 10
  have hpp : parseP text = if 2048 < (splitP text 10).length then (scr0, 0, 3) else parseL (splitP text 10) 0 none ⟨#[]⟩ [] := rfl
  generalize splitP text 10 = ps at hsp hsum hlen hpp
  refine VC.go 100 ?_
  by_cases hbig : 2048 < ps.length
  · rw [if_pos hbig] at hpp
    simp only [push_cast, ↓reduceIte, Nat.reduceEqDiff, Nat.reduceAdd, Nat.reduceMul, Nat.reduceSub, Nat.reduceLT, Nat.reduceLeDiff, reduceCtorEq, Nat.reduceMod, Int.reduceEq, Int.reduceLT, Int.reduceLE, Int.reduceToNat, dite_true, eq_true (show (2048 : Int) < (ps.length : Int) by omega)]
    rw [hpp]
    refine ⟨[_, _, _], [], (by simp only [push_cast, ↓reduceIte, Nat.reduceEqDiff, Nat.reduceAdd, Nat.reduceMul, Nat.reduceSub, Nat.reduceLT, Nat.reduceLeDiff, reduceCtorEq, Nat.reduceMod, Int.reduceEq, Int.reduceLT, Int.reduceLE, Int.reduceToNat, dite_true, rvals, rval1]; rfl), .sub (List.nil_sublist _), rfl, ?_⟩
    exact ⟨_, rfl, scr0_at _⟩
  rw [if_neg hbig] at hpp
  simp only [push_cast, ↓reduceIte, Nat.reduceEqDiff, Nat.reduceAdd, Nat.reduceMul, Nat.reduceSub, Nat.reduceLT, Nat.reduceLeDiff, reduceCtorEq, Nat.reduceMod, Int.reduceEq, Int.reduceLT, Int.reduceLE, Int.reduceToNat, dite_true, eq_false (show ¬ (2048 : Int) < (ps.length : Int) by omega)]
  refine CallV.pure hsp ?_
  rintro _ F1 hF1 ⟨p, c, rfl, hnc, hcm, hsrc⟩
  simp only [push_cast, ↓reduceIte, Nat.reduceEqDiff, Nat.reduceAdd, Nat.reduceMul, Nat.reduceSub, Nat.reduceLT, Nat.reduceLeDiff, reduceCtorEq, Nat.reduceMod, Int.reduceEq, Int.reduceLT, Int.reduceLE, Int.reduceToNat, dite_true]
  intro b8
  refine VC.emp ?_
  refine VC.loopW (ι := Nat × Option K6 × ByteArray × List LineD × Value × PH × PH) (fun i => [(10, .v (.int .i64 (i.1 : Int))), (9, .v (.bool i.2.1.isSome)), (8, .o 1 b8 0), (7, .v (.slice p ps.length c)), (2, .o 0 b2 0)])
    (fun i => [⟨0, b2, 26, scrC scr0 (.slice none 0 0)⟩, ⟨1, b8, 26, scrC (mkScr (i.2.1.getD (0, 0, 0, 0, 0, 0)) i.2.2.1 []) i.2.2.2.2.1⟩]) (fun i => i.2.2.2.2.2.2) (fun i => [i.2.2.2.2.2.1])
    (fun i => i.1 ≤ ps.length ∧ F1.le i.2.2.2.2.2.2 ∧ parseL (ps.drop i.1) i.1 i.2.1 i.2.2.1 i.2.2.2.1 = parseP text ∧ i.2.2.1.size ≤ sumOf ByteArray.size (ps.take i.1) ∧ i.2.2.2.1.length ≤ i.1 ∧ (∃ xs, Row i.2.2.2.2.2.1 51 8 i.2.2.2.2.1 xs ∧ Each (RLine i.2.2.2.2.2.2) i.2.2.2.1 xs))
    (fun i => ps.length - i.1) (0, none, ⟨#[]⟩, [], .slice none 0 0, PH.emp, F1) ⟨Nat.zero_le _, PH.le_refl _, hpp.symm, by simp [ByteArray.size], Nat.zero_le _, ⟨[], Row.nil _ _, rfl⟩⟩ (by simp [subk, Eng.look]) (List.Sublist.refl _) rfl (subR_refl _) ?_
  rintro ⟨j, k, t, ls, vl, rl, F2⟩ ⟨hj, hF2, hpl, htz, hll, ⟨xs, hrl, hea⟩⟩ G hG
  dsimp only at hj hF2 hpl htz hll hrl hea hG ⊢
  obtain ⟨pl, nl, cl, rfl⟩ := hrl.val
  have hxl := Each.len (sz := 8) (fun a c h => RLine.len h) hea
  have hsj := sumB_take ps j
  rcases Nat.lt_or_ge j ps.length with hlt | hge
  case inr =>
    obtain rfl : j = ps.length := by omega
    rw [List.drop_length] at hpl
    refine VC.freezeR (List.Perm.refl _) fun F3 hF3 hl3 => ?_
    dsimp only at hF3 hl3 ⊢
    refine VC.go 100 ?_
    have hsl := row_sle (R := RLine F3) (by decide) (fun a c h => RLine.len h) hrl (hea.mono fun l _ c h => h.mono hF3) hl3
    cases k with
    | none =>
      have hpl : (scr0, 0, 70) = parseP text := hpl
      simp only [push_cast, ↓reduceIte, Nat.reduceEqDiff, Nat.reduceAdd, Nat.reduceMul, Nat.reduceSub, Nat.reduceLT, Nat.reduceLeDiff, reduceCtorEq, Nat.reduceMod, Int.reduceEq, Int.reduceLT, Int.reduceLE, Int.reduceToNat, dite_true, eq_false (show ¬ (ps.length : Int) < (ps.length : Int) by omega), Option.isSome_none]
      rw [← hpl]
      refine ⟨[_, _, _], [], (by simp only [push_cast, ↓reduceIte, Nat.reduceEqDiff, Nat.reduceAdd, Nat.reduceMul, Nat.reduceSub, Nat.reduceLT, Nat.reduceLeDiff, reduceCtorEq, Nat.reduceMod, Int.reduceEq, Int.reduceLT, Int.reduceLE, Int.reduceToNat, dite_true, rvals, rval1]; rfl), .sub (List.nil_sublist _), rfl, ?_⟩
      exact ⟨_, rfl, scr0_at _⟩
    | some kk =>
      have hpl : (mkScr kk t ls, 0, 0) = parseP text := hpl
      simp only [push_cast, ↓reduceIte, Nat.reduceEqDiff, Nat.reduceAdd, Nat.reduceMul, Nat.reduceSub, Nat.reduceLT, Nat.reduceLeDiff, reduceCtorEq, Nat.reduceMod, Int.reduceEq, Int.reduceLT, Int.reduceLE, Int.reduceToNat, dite_true, eq_false (show ¬ (ps.length : Int) < (ps.length : Int) by omega), Option.isSome_some]
      rw [← hpl]
      refine ⟨[_, _, _], [], (by simp only [push_cast, ↓reduceIte, Nat.reduceEqDiff, Nat.reduceAdd, Nat.reduceMul, Nat.reduceSub, Nat.reduceLT, Nat.reduceLeDiff, reduceCtorEq, Nat.reduceMod, Int.reduceEq, Int.reduceLT, Int.reduceLE, Int.reduceToNat, dite_true, rvals, rval1]; rfl), .sub (List.nil_sublist _), rfl, ?_⟩
      exact ⟨_, rfl, _, rfl, hsl⟩
  refine VC.go 100 ?_
  have hmem : ps[j] ∈ ps := List.getElem_mem hlt
  have hszj : (ps[j]).size ≤ 1048576 := by have := sum_mem hmem; omega
  have hst := sumB_step hlt
  have hst2 := sumB_take ps (j + 1)
  rw [List.drop_eq_getElem_cons hlt] at hpl
  obtain ⟨a, rfl, hca⟩ := (hsrc.mono hF2).elem1 (i := j) (v := .string ps[j]) (by simp [hlt])
  have hw1 : IntKind.i64.wrap ((j : Int) + 1) = (j : Int) + 1 := IntWalk.i64_in _ (by omega)
  have f1 := eq_true (show (j : Int) < (ps.length : Int) by omega)
  generalize ps[j] = s at hpl hca hszj hst hmem
  by_cases h0 : s = ⟨#[]⟩
  · rw [parse_empty h0] at hpl
    simp only [push_cast, ↓reduceIte, Nat.reduceEqDiff, Nat.reduceAdd, Nat.reduceMul, Nat.reduceSub, Nat.reduceLT, Nat.reduceLeDiff, reduceCtorEq, Nat.reduceMod, Int.reduceEq, Int.reduceLT, Int.reduceLE, Int.reduceToNat, dite_true, f1, hca, eq_true hlt, Nat.mul_one, eq_true h0, hw1]
    exact hG (j + 1, k, t, ls, _, rl, F2) _ ⟨by dsimp only; omega, hF2, hpl, by dsimp only; omega, by dsimp only; omega, ⟨xs, hrl, hea⟩⟩ (by dsimp only; omega) (by simp [subk, Eng.look]) (List.Sublist.refl _) rfl (subR_refl _)
  have hp0 := bpos h0
  cases k with
  | none =>
    obtain ⟨q1, q2⟩ := parse_heap (r := ps.drop (j + 1)) (i := j) (t := t) (ls := ls) h0
    simp only [push_cast, ↓reduceIte, Nat.reduceEqDiff, Nat.reduceAdd, Nat.reduceMul, Nat.reduceSub, Nat.reduceLT, Nat.reduceLeDiff, reduceCtorEq, Nat.reduceMod, Int.reduceEq, Int.reduceLT, Int.reduceLE, Int.reduceToNat, dite_true, f1, hca, eq_true hlt, Nat.mul_one, h0, Option.isSome_none]
    obtain ⟨w0, r, hwr⟩ := split_ne s 32
    have hsp2 := ref_split s 32 (by omega) F2
    have hmem2 : ∀ w ∈ splitP s 32, w.size ≤ s.size := fun w h => split_mem h
    have hlen2 := splitP_len s 32
    have hhp : heapP s = if w0 = heapW then (match numsP r with
        | some [a, b, c, d, e, f] => some (a, b, c, d, e, f)
        | _ => none) else none := by unfold heapP; rw [hwr]; rfl
    rw [hwr] at hsp2 hmem2 hlen2
    refine CallV.pure hsp2 ?_
    rintro _ F3 hF3 ⟨pw, cw, rfl, hnw, hcw, hsw⟩
    simp only [push_cast, ↓reduceIte, Nat.reduceEqDiff, Nat.reduceAdd, Nat.reduceMul, Nat.reduceSub, Nat.reduceLT, Nat.reduceLeDiff, reduceCtorEq, Nat.reduceMod, Int.reduceEq, Int.reduceLT, Int.reduceLE, Int.reduceToNat, dite_true]
    have hnum := ref_numbers (w0 :: r) 1 (by decide) (fun w hw => by have := hmem2 w hw; omega) (by omega) F3 _ ⟨pw, cw, rfl, hnw, hcw, hsw⟩
    refine CallV.pure hnum ?_
    rintro u F4 hF4 hu
    have hu : NumsV F4 u (numsP r) := hu
    obtain ⟨aw, rfl, hw0⟩ := head_cell hsw
    have hw2 := hF4.cell hw0
    have n1 : ((0 : Int) < (r.length : Int) + 1) = True := eq_true (by omega)
    have n2 : ((0 : Nat) < r.length + 1) = True := eq_true (by omega)
    have bad : heapP s = none → ParseV F4 (.tuple #[.agg (scrC scr0 (.slice none 0 0)).toArray, .int .i64 (j : Int), .int .i64 70]) (parseP text) := fun hk => by
      rw [← hpl, q2 hk]
      exact ⟨_, rfl, scr0_at _⟩
    cases hq : numsP r with
    | none =>
      rw [hq] at hu hhp
      have hk : heapP s = none := by rw [hhp]; exact ite_self _
      cases (show u = .tuple #[.slice none 0 0, .bool false] from hu)
      simp only [push_cast, ↓reduceIte, Nat.reduceEqDiff, Nat.reduceAdd, Nat.reduceMul, Nat.reduceSub, Nat.reduceLT, Nat.reduceLeDiff, reduceCtorEq, Nat.reduceMod, Int.reduceEq, Int.reduceLT, Int.reduceLE, Int.reduceToNat, dite_true]
      refine ⟨[_, _, _], [], (by simp only [push_cast, ↓reduceIte, Nat.reduceEqDiff, Nat.reduceAdd, Nat.reduceMul, Nat.reduceSub, Nat.reduceLT, Nat.reduceLeDiff, reduceCtorEq, Nat.reduceMod, Int.reduceEq, Int.reduceLT, Int.reduceLE, Int.reduceToNat, dite_true, rvals, rval1]; rfl), .sub (List.nil_sublist _), rfl, ?_⟩
      exact bad hk
    | some ns =>
      rw [hq] at hu hhp
      obtain ⟨sl, rfl, qn, cn, rfl, hnq, _, hsq⟩ := hu
      by_cases h1 : w0 = heapW
      case neg =>
        have hk : heapP s = none := by rw [hhp]; exact if_neg h1
        have h1' : ¬ w0 = (⟨#[104, 101, 97, 112]⟩ : ByteArray) := h1
        simp only [push_cast, ↓reduceIte, Nat.reduceEqDiff, Nat.reduceAdd, Nat.reduceMul, Nat.reduceSub, Nat.reduceLT, Nat.reduceLeDiff, reduceCtorEq, Nat.reduceMod, Int.reduceEq, Int.reduceLT, Int.reduceLE, Int.reduceToNat, dite_true, n1, n2, Nat.zero_mul, add_zero', hw2, h1']
        refine ⟨[_, _, _], [], (by simp only [push_cast, ↓reduceIte, Nat.reduceEqDiff, Nat.reduceAdd, Nat.reduceMul, Nat.reduceSub, Nat.reduceLT, Nat.reduceLeDiff, reduceCtorEq, Nat.reduceMod, Int.reduceEq, Int.reduceLT, Int.reduceLE, Int.reduceToNat, dite_true, rvals, rval1]; rfl), .sub (List.nil_sublist _), rfl, ?_⟩
        exact bad hk
      have h1' : w0 = (⟨#[104, 101, 97, 112]⟩ : ByteArray) := h1
      rw [if_pos h1] at hhp
      by_cases h6 : ns.length = 6
      case neg =>
        have hk : heapP s = none := by
          rw [hhp]
          clear hhp hsq hnq hq
          match ns, h6 with
          | [], _ => rfl
          | [_], _ => rfl
          | [_, _], _ => rfl
          | [_, _, _], _ => rfl
          | [_, _, _, _], _ => rfl
          | [_, _, _, _, _], _ => rfl
          | [_, _, _, _, _, _], h => exact absurd rfl h
          | _ :: _ :: _ :: _ :: _ :: _ :: _ :: _, _ => rfl
        simp only [push_cast, ↓reduceIte, Nat.reduceEqDiff, Nat.reduceAdd, Nat.reduceMul, Nat.reduceSub, Nat.reduceLT, Nat.reduceLeDiff, reduceCtorEq, Nat.reduceMod, Int.reduceEq, Int.reduceLT, Int.reduceLE, Int.reduceToNat, dite_true, n1, n2, Nat.zero_mul, add_zero', hw2, eq_true h1', eq_false (show ¬ (ns.length : Int) = 6 by omega)]
        refine ⟨[_, _, _], [], (by simp only [push_cast, ↓reduceIte, Nat.reduceEqDiff, Nat.reduceAdd, Nat.reduceMul, Nat.reduceSub, Nat.reduceLT, Nat.reduceLeDiff, reduceCtorEq, Nat.reduceMod, Int.reduceEq, Int.reduceLT, Int.reduceLE, Int.reduceToNat, dite_true, rvals, rval1]; rfl), .sub (List.nil_sublist _), rfl, ?_⟩
        exact bad hk
      obtain ⟨x0, x1, x2, x3, x4, x5, rfl⟩ : ∃ x0 x1 x2 x3 x4 x5, ns = [x0, x1, x2, x3, x4, x5] := by
        clear hhp hsq hnq hq
        match ns, h6 with
        | [x0, x1, x2, x3, x4, x5], _ => exact ⟨_, _, _, _, _, _, rfl⟩
      have hk : heapP s = some (x0, x1, x2, x3, x4, x5) := hhp
      obtain ⟨y, rfl, hcl⟩ := hsq.2 (by simp)
      have hcl' : F4.cells y 6 = some [.int .i64 x0, .int .i64 x1, .int .i64 x2, .int .i64 x3, .int .i64 x4, .int .i64 x5] := by simpa using hcl
      have g0 := cell_at hcl' (o := 0) rfl
      have g1 := cell_at hcl' (o := 1) rfl
      have g2 := cell_at hcl' (o := 2) rfl
      have g3 := cell_at hcl' (o := 3) rfl
      have g4 := cell_at hcl' (o := 4) rfl
      have g5 := cell_at hcl' (o := 5) rfl
      have n6 : ((0 : Int) + 1 + 1 + 1 + 1 + 1 + 1 = 6) = True := eq_true (by decide)
      simp only [push_cast, ↓reduceIte, Nat.reduceEqDiff, Nat.reduceAdd, Nat.reduceMul, Nat.reduceSub, Nat.reduceLT, Nat.reduceLeDiff, reduceCtorEq, Nat.reduceMod, Int.reduceEq, Int.reduceLT, Int.reduceLE, Int.reduceToNat, dite_true, n1, n2, Nat.zero_mul, add_zero', hw2, eq_true h1', n6]
      refine VC.draw (.q 0 (.q 1 (.q 2 (.q 3 (.q 4 (.q 5 (.q 6 (.q 7 (.q 8 (.q 9 (.q 10 (.q 11 (.q 12 (.q 13 (.q 14 (.e 15 (.q 16 (.e 17 (.done))))))))))))))))))) mixed (by rfl) ?_
      rw [add_zero'] at g0
      have m0 : ((0 : Int) < 0 + 1 + 1 + 1 + 1 + 1 + 1) = True := eq_true (by decide)
      have m1 : ((1 : Int) < 0 + 1 + 1 + 1 + 1 + 1 + 1) = True := eq_true (by decide)
      have m2 : ((2 : Int) < 0 + 1 + 1 + 1 + 1 + 1 + 1) = True := eq_true (by decide)
      have m3 : ((3 : Int) < 0 + 1 + 1 + 1 + 1 + 1 + 1) = True := eq_true (by decide)
      have m4 : ((4 : Int) < 0 + 1 + 1 + 1 + 1 + 1 + 1) = True := eq_true (by decide)
      have m5 : ((5 : Int) < 0 + 1 + 1 + 1 + 1 + 1 + 1) = True := eq_true (by decide)
      simp only [push_cast, ↓reduceIte, Nat.reduceEqDiff, Nat.reduceAdd, Nat.reduceMul, Nat.reduceSub, Nat.reduceLT, Nat.reduceLeDiff, reduceCtorEq, Nat.reduceMod, Int.reduceEq, Int.reduceLT, Int.reduceLE, Int.reduceToNat, dite_true, m0, m1, m2, m3, m4, m5, g0, g1, g2, g3, g4, g5, Nat.zero_mul, Nat.mul_one, add_zero']
      refine VC.go 100 ?_
      simp only [push_cast, ↓reduceIte, Nat.reduceEqDiff, Nat.reduceAdd, Nat.reduceMul, Nat.reduceSub, Nat.reduceLT, Nat.reduceLeDiff, reduceCtorEq, Nat.reduceMod, Int.reduceEq, Int.reduceLT, Int.reduceLE, Int.reduceToNat, dite_true, m0, m1, m2, m3, m4, m5, g0, g1, g2, g3, g4, g5, Nat.zero_mul, Nat.mul_one, add_zero', hw1]
      rw [q1 _ hk] at hpl
      exact hG (j + 1, some (x0, x1, x2, x3, x4, x5), t, ls, _, rl, F4) _ ⟨by dsimp only; omega, PH.le_trans (PH.le_trans hF2 hF3) hF4, hpl, by dsimp only; omega, by dsimp only; omega, ⟨xs, hrl, hea.mono fun l _ c h => h.mono (PH.le_trans hF3 hF4)⟩⟩ (by dsimp only; omega) (by simp [subk, Eng.look]) (List.Sublist.refl _) rfl (subR_refl _)
  | some kk =>
  have hc : ((s.data.getD 0 0).toNat : Int) = ch s 0 := rfl
  have g1 := eq_true (show (0 : Int) < (s.size : Int) by omega)
  by_cases hb : ch s 0 = 124
  · rw [parse_bar h0 hb] at hpl
    have g2 := eq_true (show (1 : Int) ≤ (s.size : Int) by omega)
    have hex : (s.extract 1 s.size).size = s.size - 1 := by rw [ByteArray.size_extract]; omega
    have e10 : ByteArray.size { data := #[10] } = 1 := rfl
    have hA1 : t.size + (s.extract 1 s.size).size ≤ 9223372036854775807 := by omega
    have hA2 : (t ++ s.extract 1 s.size : ByteArray).size + ByteArray.size { data := #[10] } ≤ 9223372036854775807 := by rw [ByteArray.size_append]; omega
    simp only [push_cast, ↓reduceIte, Nat.reduceEqDiff, Nat.reduceAdd, Nat.reduceMul, Nat.reduceSub, Nat.reduceLT, Nat.reduceLeDiff, reduceCtorEq, Nat.reduceMod, Int.reduceEq, Int.reduceLT, Int.reduceLE, Int.reduceToNat, dite_true, f1, hca, eq_true hlt, Nat.mul_one, h0, Option.isSome_some, g1, hc, eq_true hb, g2]
    refine VC.draw (.q 0 (.q 1 (.q 2 (.q 3 (.q 4 (.q 5 (.q 6 (.e 7 (.done))))))))) mixed (by rfl) ?_
    simp only [push_cast, ↓reduceIte, Nat.reduceEqDiff, Nat.reduceAdd, Nat.reduceMul, Nat.reduceSub, Nat.reduceLT, Nat.reduceLeDiff, reduceCtorEq, Nat.reduceMod, Int.reduceEq, Int.reduceLT, Int.reduceLE, Int.reduceToNat, dite_true, mkScr, g2, eq_true hA1, eq_true hA2]
    refine VC.go 100 ?_
    simp only [push_cast, ↓reduceIte, Nat.reduceEqDiff, Nat.reduceAdd, Nat.reduceMul, Nat.reduceSub, Nat.reduceLT, Nat.reduceLeDiff, reduceCtorEq, Nat.reduceMod, Int.reduceEq, Int.reduceLT, Int.reduceLE, Int.reduceToNat, dite_true, hw1]
    exact hG (j + 1, some kk, t ++ s.extract 1 s.size ++ ⟨#[10]⟩, ls, _, rl, F2) _ ⟨by dsimp only; omega, hF2, hpl, by dsimp only; rw [ByteArray.size_append, ByteArray.size_append, hex]; omega, by dsimp only; omega, ⟨xs, hrl, hea⟩⟩ (by dsimp only; omega) (by simp [subk, Eng.look]) (List.Sublist.refl _) rfl (subR_refl _)
  obtain ⟨q1, q2⟩ := parse_line (r := ps.drop (j + 1)) (i := j) (k := kk) (t := t) (ls := ls) h0 hb
  simp only [push_cast, ↓reduceIte, Nat.reduceEqDiff, Nat.reduceAdd, Nat.reduceMul, Nat.reduceSub, Nat.reduceLT, Nat.reduceLeDiff, reduceCtorEq, Nat.reduceMod, Int.reduceEq, Int.reduceLT, Int.reduceLE, Int.reduceToNat, dite_true, f1, hca, eq_true hlt, Nat.mul_one, h0, Option.isSome_some, g1, hc, hb]
  have hln := ref_line s (by omega) F2
  refine CallV.pure hln ?_
  rintro u F3 hF3 hu
  cases hk : lineOf s with
  | none =>
    rw [hk] at hu
    rw [q2 hk] at hpl
    cases (show u = .tuple #[.agg (lineC ⟨0, 0, ⟨#[]⟩, [], 0, 0, 0, 0⟩ (.slice none 0 0)).toArray, .bool false] from hu)
    simp only [push_cast, ↓reduceIte, Nat.reduceEqDiff, Nat.reduceAdd, Nat.reduceMul, Nat.reduceSub, Nat.reduceLT, Nat.reduceLeDiff, reduceCtorEq, Nat.reduceMod, Int.reduceEq, Int.reduceLT, Int.reduceLE, Int.reduceToNat, dite_true]
    intro b14
    rw [← hpl]
    refine ⟨[_, _, _], [], (by simp only [push_cast, ↓reduceIte, Nat.reduceEqDiff, Nat.reduceAdd, Nat.reduceMul, Nat.reduceSub, Nat.reduceLT, Nat.reduceLeDiff, reduceCtorEq, Nat.reduceMod, Int.reduceEq, Int.reduceLT, Int.reduceLE, Int.reduceToNat, dite_true, rvals, rval1]; rfl), .sub (List.nil_sublist _), rfl, ?_⟩
    exact ⟨_, rfl, scr0_at _⟩
  | some l =>
    rw [hk] at hu
    rw [q1 l hk] at hpl
    obtain ⟨cs, rfl, hrl8⟩ := hu
    obtain ⟨vl8, rfl, hin⟩ := hrl8
    have hin0 := hin
    obtain ⟨pv, cv, rfl, _, _, _⟩ := hin0
    simp only [push_cast, ↓reduceIte, Nat.reduceEqDiff, Nat.reduceAdd, Nat.reduceMul, Nat.reduceSub, Nat.reduceLT, Nat.reduceLeDiff, reduceCtorEq, Nat.reduceMod, Int.reduceEq, Int.reduceLT, Int.reduceLE, Int.reduceToNat, dite_true]
    intro b14 b16 F4 hF4 hb16
    refine Eff.append (xs := xs) (ys := lineC l (.slice pv l.nums.length cv)) rfl rfl rfl ty24 rfl ty51 rfl (by decide) rfl rfl (List.Perm.refl _) hrl (Src.blk hb16 rfl) (by simp [Value.oneCell']) (by simp; omega) (by decide) ?_
    intro v' r' hr'
    obtain ⟨p17, n17, c17, rfl⟩ := hr'.val
    simp only [push_cast, ↓reduceIte, Nat.reduceEqDiff, Nat.reduceAdd, Nat.reduceMul, Nat.reduceSub, Nat.reduceLT, Nat.reduceLeDiff, reduceCtorEq, Nat.reduceMod, Int.reduceEq, Int.reduceLT, Int.reduceLE, Int.reduceToNat, dite_true, hw1]
    exact hG (j + 1, some kk, t, ls ++ [l], _, r', F4) _ ⟨by dsimp only; omega, PH.le_trans (PH.le_trans hF2 hF3) hF4, hpl, by dsimp only; omega, by simp; omega, ⟨_, hr', each_snoc (hea.mono fun l _ c h => h.mono (PH.le_trans hF3 hF4)) ⟨_, rfl, hin.mono hF4⟩⟩⟩ (by dsimp only; omega) (by simp [subk, Eng.look]) (List.sublist_append_left [_, _] [_]) rfl (subR_refl _)
end Go.Proofs.YtmiekonofocboaaGreatDoor.Q

/- Scripts: what is read is right; the same scripts are the same; 'middenlaw24.ScriptParses', what it answers. -/
namespace Go.Proofs.YtmiekonofocboaaGreatDoor.Q
open Go Go.Eng Go.Lib Go.Proofs Go.Proofs.YtmiekonofocboaaGreatDoor.T Go.Proofs.YtmiekonofocboaaGreatDoor.K Go.Proofs.YtmiekonofocboaaGreatDoor.X
set_option linter.unusedSimpArgs false
set_option linter.unusedVariables false
set_option linter.unusedSectionVars false
set_option maxRecDepth 100000
set_option maxHeartbeats 4000000
theorem numP_range (s : ByteArray) : ∀ (n i : Nat) (x y : Int), (∀ k, i ≤ k → k < s.size → digitB (ch s k) = true) → 0 ≤ x → x ≤ 9223372036854775808 → numP s n i x = some y → 0 ≤ y ∧ y ≤ 9223372036854775808
  | 0, i, x, y, hd, h0, h1, h => by
    simp only [numP, Option.some.injEq] at h
    omega
  | n + 1, i, x, y, hd, h0, h1, h => by
    simp only [numP] at h
    split at h
    · rename_i hi
      have hdi : 48 ≤ ch s i ∧ ch s i ≤ 57 := by simpa [digitB] using hd i (Nat.le_refl _) hi
      split at h
      · cases h
      · exact numP_range s n (i + 1) _ y (fun k h2 h3 => hd k (by omega) h3) (by omega) (by omega) h
    · simp only [Option.some.injEq] at h
      omega
theorem numberP_range {w : ByteArray} {m : Int} (h : numberP w = some m) : I64' m := by
  unfold numberP at h
  split at h
  · rename_i hv
    have hok := hv.1.1
    unfold intOf at h
    split at h
    · rename_i h45
      cases hn : numE w 1 0 with
      | none => rw [hn] at h; cases h
      | some y =>
        rw [hn] at h
        simp only [Option.map_some, Option.some.injEq] at h
        have := numP_range w _ 1 0 y (fun k h1 h2 => by
          rcases hok k h2 with g | g
          · exact g
          · omega) (by omega) (by omega) hn
        omega
    · rename_i h45
      split at h
      · rename_i x hx
        split at h
        · cases h
          have := numP_range w _ 0 0 m (fun k h1 h2 => by
            rcases hok k h2 with g | g
            · exact g
            · obtain ⟨g1, rfl⟩ := g; exact absurd g1 h45) (by omega) (by omega) hx
          omega
        · cases h
      · cases h
  · cases h
theorem numsP_range : ∀ {l : List ByteArray} {ns : List Int}, numsP l = some ns → ∀ n ∈ ns, I64' n
  | [], ns, h, n, hn => by cases h; cases hn
  | w :: l, ns, h, n, hn => by
    simp only [numsP] at h
    split at h
    · rename_i a r h1 h2
      cases h
      rcases List.mem_cons.1 hn with rfl | hn
      · exact numberP_range h1
      · exact numsP_range h2 n hn
    · cases h
theorem z64 : I64' 0 := by decide
theorem lineN_ok {w0 : ByteArray} {ns : List Int} {l : LineD} (h : lineN w0 ns = some l) (hn : ∀ n ∈ ns, I64' n) : LineOk l := by
  have e0 : (ByteArray.size { data := #[] }) ≤ 900000000 := by decide
  unfold lineN at h
  split at h
  · unfold showN at h
    split at h
    · cases h; exact ⟨hn _ (by simp), hn _ (by simp), hn _ (by simp), z64, z64, (fun _ h => nomatch h), e0, Nat.zero_le _⟩
    · cases h
  split at h
  · unfold atN at h
    split at h
    · cases h; exact ⟨z64, z64, z64, hn _ (by simp), hn _ (by simp), (fun _ h => nomatch h), e0, Nat.zero_le _⟩
    · cases h
  split at h
  · unfold dropN at h
    split at h
    · cases h; exact ⟨hn _ (by simp), z64, z64, z64, z64, (fun _ h => nomatch h), e0, Nat.zero_le _⟩
    · cases h
  split at h
  · unfold collectN at h
    split at h
    · cases h; exact ⟨hn _ (by simp), z64, z64, z64, z64, (fun _ h => nomatch h), e0, Nat.zero_le _⟩
    · cases h
  split at h
  · unfold outN at h
    split at h
    · cases h; exact ⟨z64, z64, z64, z64, z64, (fun _ h => nomatch h), e0, Nat.zero_le _⟩
    · cases h
  · cases h
theorem lineOf_ok {s : ByteArray} (hs : s.size ≤ 1048576) {l : LineD} (h : lineOf s = some l) : LineOk l := by
  obtain ⟨w0, r, hwr⟩ := split_ne s 32
  have hlen := splitP_len s 32
  have hmem : ∀ w ∈ splitP s 32, w.size ≤ s.size := fun w h => split_mem h
  rw [hwr] at hlen hmem
  by_cases h0 : w0 = makeW
  · rw [line_make hwr h0] at h
    cases r with
    | nil => exact absurd (show (none : Option LineD) = some l from h) (by simp)
    | cons nm r2 =>
      have h : (if WordP nm 1 then (numsP r2).map (fun ns => (⟨1, 0, nm, ns, 0, 0, 0, 0⟩ : LineD)) else none) = some l := h
      split at h
      · cases hq : numsP r2 with
        | none => rw [hq] at h; cases h
        | some ns =>
          rw [hq] at h
          cases h
          have h1 := numsP_len hq
          have h2 := hmem nm (by simp)
          simp at hlen
          exact ⟨z64, z64, z64, z64, z64, numsP_range hq, by dsimp only; omega, by dsimp only; omega⟩
      · cases h
  · rw [line_not hwr h0] at h
    cases hq : numsP r with
    | none => rw [hq] at h; cases h
    | some ns =>
      rw [hq] at h
      exact lineN_ok h (numsP_range hq)
theorem parseL_ok : ∀ (ps : List ByteArray) (i : Nat) (k : Option K6) (t : ByteArray) (ls : List LineD), (∀ s ∈ ps, s.size ≤ 1048576) → (∀ l ∈ ls, LineOk l) → ∀ l ∈ (parseL ps i k t ls).1.lines, LineOk l
  | [], i, none, t, ls, hp, hl => by intro l h; cases h
  | [], i, some k, t, ls, hp, hl => hl
  | s :: r, i, k, t, ls, hp, hl => by
    have hr : ∀ s ∈ r, s.size ≤ 1048576 := fun x hx => hp x (List.mem_cons_of_mem _ hx)
    by_cases h0 : s = ⟨#[]⟩
    · rw [parse_empty h0]; exact parseL_ok r _ _ _ _ hr hl
    cases k with
    | none =>
      obtain ⟨q1, q2⟩ := parse_heap (r := r) (i := i) (t := t) (ls := ls) h0
      cases hk : heapP s with
      | none => rw [q2 hk]; intro l h; cases h
      | some kk => rw [q1 kk hk]; exact parseL_ok r _ _ _ _ hr hl
    | some kk =>
      by_cases hb : ch s 0 = 124
      · rw [parse_bar h0 hb]; exact parseL_ok r _ _ _ _ hr hl
      · obtain ⟨q1, q2⟩ := parse_line (r := r) (i := i) (k := kk) (t := t) (ls := ls) h0 hb
        cases hk : lineOf s with
        | none => rw [q2 hk]; intro l h; cases h
        | some x =>
          rw [q1 x hk]
          refine parseL_ok r _ _ _ _ hr fun l hlm => ?_
          rcases List.mem_append.1 hlm with g | g
          · exact hl l g
          · rw [List.mem_singleton.1 g]; exact lineOf_ok (hp s List.mem_cons_self) hk
theorem parse_ok {text : ByteArray} (hs : text.size ≤ 1048576) : ∀ l ∈ (parseP text).1.lines, LineOk l := by
  unfold parseP
  split
  · intro l h; cases h
  · exact parseL_ok _ _ _ _ _ (fun s h => Nat.le_trans (split_mem h) hs) (fun _ h => nomatch h)
theorem conf_eq (a b c d e : Int) : sEq Tryz.prog 23 #[.int .i64 a, .int .i64 b, .int .i64 c, .int .i64 d, .int .i64 e] #[.int .i64 a, .int .i64 b, .int .i64 c, .int .i64 d, .int .i64 e] = some true := sEq_same (by kernel_rfl)
theorem same (s : ScrD) (hok : ∀ l ∈ s.lines, LineOk l) (hlen : s.lines.length ≤ 100000000) (F : PH) (cs1 cs2 : List Value) (h1 : RScr F s cs1) (h2 : RScr F s cs2) : PFn Tryz.prog 10 [.agg cs1.toArray, .agg cs2.toArray] F (fun v _ => v = .bool true) := by
  obtain ⟨v1, rfl, xs1, ⟨p1, c1, rfl, hnc1, hcm1, hs1⟩, he1⟩ := h1
  obtain ⟨v2, rfl, xs2, ⟨p2, c2, rfl, hnc2, hcm2, hs2⟩, he2⟩ := h2
  refine Fn.intro (n := 81) (ts := [4]) Tryz.func10 rfl rfl rfl rfl (by simp) fun B hB => VC.go 100 ?_
  simp only [push_cast, ↓reduceIte, Nat.reduceEqDiff, Nat.reduceAdd, Nat.reduceMul, Nat.reduceSub, Nat.reduceLT, Nat.reduceLeDiff, reduceCtorEq, Nat.reduceMod, Int.reduceEq, Int.reduceLT, Int.reduceLE, Int.reduceToNat, dite_true, conf_eq, eq_self, decide_true]
  intro b2 b3
  refine VC.loopF (ι := Nat × PH) (fun i => [(5, .v (.int .i64 (i.1 : Int))), (3, .o 1 b3 0), (2, .o 0 b2 0)]) (fun i => i.2) (fun i => i.1 ≤ s.lines.length ∧ F.le i.2) (fun i => s.lines.length - i.1) (0, F) ⟨Nat.zero_le _, PH.le_refl _⟩ (by simp [subk, Eng.look]) rfl ?_
  rintro ⟨j, F1⟩ ⟨hj, hF1⟩ G hG
  dsimp only at hj hF1 hG ⊢
  refine VC.go 100 ?_
  rcases Nat.lt_or_ge j s.lines.length with hlt | hge
  · obtain ⟨a1, rfl, hca1⟩ := (hs1.mono hF1).elem hlt (by omega)
    obtain ⟨a2, rfl, hca2⟩ := (hs2.mono hF1).elem hlt (by omega)
    have hel1 := Each.at (sz := 8) (fun a c h => RLine.len h) he1 (List.getElem?_eq_getElem hlt)
    have hel2 := Each.at (sz := 8) (fun a c h => RLine.len h) he2 (List.getElem?_eq_getElem hlt)
    have hlo := hok _ (List.getElem_mem hlt)
    have hwc1 := ref_write s.lines[j] hlo F1 _ (hel1.mono hF1)
    have hwc2 := fun G (hG : F1.le G) => ref_write s.lines[j] hlo G _ (hel2.mono (PH.le_trans hF1 hG))
    obtain ⟨vj1, hcs1, hi1⟩ := hel1
    obtain ⟨vj2, hcs2, hi2⟩ := hel2
    rw [hcs1] at hca1 hwc1
    rw [hcs2] at hca2 hwc2
    have hw1 : IntKind.i64.wrap ((j : Int) + 1) = (j : Int) + 1 := IntWalk.i64_in _ (by omega)
    have f1 := eq_true (show (j : Int) < (s.lines.length : Int) by omega)
    have f3 := eq_true (show (0 : Int) ≤ (j : Int) by omega)
    simp only [push_cast, ↓reduceIte, Nat.reduceEqDiff, Nat.reduceAdd, Nat.reduceMul, Nat.reduceSub, Nat.reduceLT, Nat.reduceLeDiff, reduceCtorEq, Nat.reduceMod, Int.reduceEq, Int.reduceLT, Int.reduceLE, Int.reduceToNat, dite_true, f1, hca1, eq_true hlt]
    refine CallV.pure hwc1 ?_
    rintro _ F2 hF2 rfl
    have hca2' := hF2.cells hca2
    simp only [push_cast, ↓reduceIte, Nat.reduceEqDiff, Nat.reduceAdd, Nat.reduceMul, Nat.reduceSub, Nat.reduceLT, Nat.reduceLeDiff, reduceCtorEq, Nat.reduceMod, Int.reduceEq, Int.reduceLT, Int.reduceLE, Int.reduceToNat, dite_true, f1, hca2', eq_true hlt]
    refine CallV.pure (hwc2 F2 hF2) ?_
    rintro _ F3 hF3 rfl
    have k1 := cell_at (hF3.cells (hF2.cells hca1)) (o := 0) rfl
    have k2 := cell_at (hF3.cells hca2') (o := 0) rfl
    simp only [push_cast, ↓reduceIte, Nat.reduceEqDiff, Nat.reduceAdd, Nat.reduceMul, Nat.reduceSub, Nat.reduceLT, Nat.reduceLeDiff, reduceCtorEq, Nat.reduceMod, Int.reduceEq, Int.reduceLT, Int.reduceLE, Int.reduceToNat, dite_true]
    refine VC.draw (.q 0 (.q 1 (.q 2 (.q 3 (.q 4 (.q 5 (.q 6 (.q 7 (.q 8 (.q 9 (.q 10 (.q 11 (.q 12 (.q 13 (.q 14 (.q 15 (.q 16 (.q 17 (.done))))))))))))))))))) mixed (by rfl) ?_
    rw [add_zero'] at k1 k2
    simp only [push_cast, ↓reduceIte, Nat.reduceEqDiff, Nat.reduceAdd, Nat.reduceMul, Nat.reduceSub, Nat.reduceLT, Nat.reduceLeDiff, reduceCtorEq, Nat.reduceMod, Int.reduceEq, Int.reduceLT, Int.reduceLE, Int.reduceToNat, dite_true, f1, eq_true hlt, add_zero', k1, k2, eq_self, decide_true]
    refine VC.go 100 ?_
    simp only [push_cast, ↓reduceIte, Nat.reduceEqDiff, Nat.reduceAdd, Nat.reduceMul, Nat.reduceSub, Nat.reduceLT, Nat.reduceLeDiff, reduceCtorEq, Nat.reduceMod, Int.reduceEq, Int.reduceLT, Int.reduceLE, Int.reduceToNat, dite_true, hw1]
    exact hG (j + 1, F3) _ ⟨by dsimp only; omega, PH.le_trans (PH.le_trans hF1 hF2) hF3⟩ (by dsimp only; omega) (by simp [subk, Eng.look]) (List.Sublist.refl _) rfl rfl
  · obtain rfl : j = s.lines.length := by omega
    simp only [push_cast, ↓reduceIte, Nat.reduceEqDiff, Nat.reduceAdd, Nat.reduceMul, Nat.reduceSub, Nat.reduceLT, Nat.reduceLeDiff, reduceCtorEq, Nat.reduceMod, Int.reduceEq, Int.reduceLT, Int.reduceLE, Int.reduceToNat, dite_true, eq_false (show ¬ (s.lines.length : Int) < (s.lines.length : Int) by omega)]
    exact RetOk.p rfl rfl
theorem parseL_len : ∀ (ps : List ByteArray) (i : Nat) (k : Option K6) (t : ByteArray) (ls : List LineD), (parseL ps i k t ls).1.lines.length ≤ ls.length + ps.length
  | [], i, none, t, ls => by simp [parseL, scr0]
  | [], i, some k, t, ls => by simp [parseL, mkScr]
  | s :: r, i, k, t, ls => by
    by_cases h0 : s = ⟨#[]⟩
    · rw [parse_empty h0]; have := parseL_len r (i + 1) k t ls; simp only [List.length_cons]; omega
    cases k with
    | none =>
      obtain ⟨q1, q2⟩ := parse_heap (r := r) (i := i) (t := t) (ls := ls) h0
      cases hk : heapP s with
      | none => rw [q2 hk]; simp [scr0]
      | some kk => rw [q1 kk hk]; have := parseL_len r (i + 1) (some kk) t ls; simp only [List.length_cons]; omega
    | some kk =>
      by_cases hb : ch s 0 = 124
      · rw [parse_bar h0 hb]; have := parseL_len r (i + 1) (some kk) (t ++ s.extract 1 s.size ++ ⟨#[10]⟩) ls; simp only [List.length_cons]; omega
      · obtain ⟨q1, q2⟩ := parse_line (r := r) (i := i) (k := kk) (t := t) (ls := ls) h0 hb
        cases hk : lineOf s with
        | none => rw [q2 hk]; simp [scr0]
        | some x => rw [q1 x hk]; have := parseL_len r (i + 1) (some kk) t (ls ++ [x]); simp only [List.length_cons, List.length_append, List.length_nil] at this ⊢; omega
theorem parse_len {text : ByteArray} (hs : text.size ≤ 1048576) : (parseP text).1.lines.length ≤ 100000000 := by
  unfold parseP
  split
  · exact Nat.zero_le _
  · have h1 := parseL_len (splitP text 10) 0 none ⟨#[]⟩ []
    have h2 := splitP_len text 10
    simp only [List.length_nil] at h1
    omega
theorem RScr.mono {F G : PH} {s : ScrD} {cs : List Value} (h : RScr F s cs) (hl : F.le G) : RScr G s cs := by
  obtain ⟨v, rfl, xs, h1, h2⟩ := h
  exact ⟨v, rfl, xs, h1.mono hl, h2.mono fun l _ c h => h.mono hl⟩
theorem law_parses (text : ByteArray) (hs : text.size ≤ 1048576) (F : PH) (aw : ∀ G : PH, F.le G → PFn Tryz.prog 9 [] G (fun v F' => v = .bool true ∧ F' = G)) :
    PFn Tryz.prog 3 [.string text] F (fun v _ => v = .bool true) := by
  refine Fn.intro (n := 37) (ts := [2]) Tryz.func3 rfl rfl rfl rfl (by simp) fun B hB => VC.go 100 ?_
  simp only [push_cast, ↓reduceIte, Nat.reduceEqDiff, Nat.reduceAdd, Nat.reduceMul, Nat.reduceSub, Nat.reduceLT, Nat.reduceLeDiff, reduceCtorEq, Nat.reduceMod, Int.reduceEq, Int.reduceLT, Int.reduceLE, Int.reduceToNat, dite_true]
  have hok := parse_ok hs
  have hln := parse_len hs
  have h1 := parse text hs F
  have h2 := fun G => ref_parse text hs G
  generalize parseP text = r at hok hln h1 h2
  obtain ⟨s, at_, e⟩ := r
  refine CallV.pure h1 ?_
  rintro _ F1 hF1 ⟨cs1, rfl, hr1⟩
  have hr1' := hr1
  obtain ⟨v1, rfl, _, ⟨p1, c1, rfl, _, _, _⟩, _⟩ := hr1'
  simp only [push_cast, ↓reduceIte, Nat.reduceEqDiff, Nat.reduceAdd, Nat.reduceMul, Nat.reduceSub, Nat.reduceLT, Nat.reduceLeDiff, reduceCtorEq, Nat.reduceMod, Int.reduceEq, Int.reduceLT, Int.reduceLE, Int.reduceToNat, dite_true]
  intro b3
  refine CallV.pure (h2 F1) ?_
  rintro _ F2 hF2 ⟨cs2, rfl, hr2⟩
  have hr2' := hr2
  obtain ⟨v2, rfl, _, ⟨p2, c2, rfl, _, _, _⟩, _⟩ := hr2'
  simp only [push_cast, ↓reduceIte, Nat.reduceEqDiff, Nat.reduceAdd, Nat.reduceMul, Nat.reduceSub, Nat.reduceLT, Nat.reduceLeDiff, reduceCtorEq, Nat.reduceMod, Int.reduceEq, Int.reduceLT, Int.reduceLE, Int.reduceToNat, dite_true]
  intro b6
  refine CallV.pure (aw F2 (PH.le_trans hF1 hF2)) ?_
  rintro _ F3 hF3 ⟨rfl, rfl⟩
  simp only [push_cast, ↓reduceIte, Nat.reduceEqDiff, Nat.reduceAdd, Nat.reduceMul, Nat.reduceSub, Nat.reduceLT, Nat.reduceLeDiff, reduceCtorEq, Nat.reduceMod, Int.reduceEq, Int.reduceLT, Int.reduceLE, Int.reduceToNat, dite_true, eq_self, decide_true]
  refine CallV.pure (same s hok hln F3 _ _ (RScr.mono hr1 hF2) hr2) ?_
  rintro _ F4 hF4 rfl
  simp only [push_cast, ↓reduceIte, Nat.reduceEqDiff, Nat.reduceAdd, Nat.reduceMul, Nat.reduceSub, Nat.reduceLT, Nat.reduceLeDiff, reduceCtorEq, Nat.reduceMod, Int.reduceEq, Int.reduceLT, Int.reduceLE, Int.reduceToNat, dite_true]
  exact RetOk.p rfl rfl
end Go.Proofs.YtmiekonofocboaaGreatDoor.Q
