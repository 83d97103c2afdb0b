/- My texts LO LP LR NA NB, in one. -/
import Derived.Test.YtmiekonofocboaaGreatDoorLX
/- Scripts: what a text is read as. -/
namespace Go.Proofs.YtmiekonofocboaaGreatDoor.Q
open Go Go.Eng Go.Lib Go.Proofs Go.Proofs.YtmiekonofocboaaGreatDoor.T Go.Proofs.YtmiekonofocboaaGreatDoor.K Go.Proofs.YtmiekonofocboaaGreatDoor.X
set_option linter.unusedSimpArgs false
set_option linter.unusedVariables false
set_option linter.unusedSectionVars false
abbrev K6 := Int × Int × Int × Int × Int × Int
def scr0 : ScrD := ⟨0, 0, 0, 0, 0, 0, ⟨#[]⟩, []⟩
def mkScr (k : K6) (t : ByteArray) (ls : List LineD) : ScrD := ⟨k.1, k.2.1, k.2.2.1, k.2.2.2.1, k.2.2.2.2.1, k.2.2.2.2.2, t, ls⟩
noncomputable def parseL : List ByteArray → Nat → Option K6 → ByteArray → List LineD → ScrD × Int × Int
  | [], _, none, _, _ => (scr0, 0, 70)
  | [], _, some k, t, ls => (mkScr k t ls, 0, 0)
  | s :: r, i, none, t, ls => if s = ⟨#[]⟩ then parseL r (i + 1) none t ls else (match heapP s with
      | none => (scr0, (i : Int), 70)
      | some k' => parseL r (i + 1) (some k') t ls)
  | s :: r, i, some k, t, ls => if s = ⟨#[]⟩ then parseL r (i + 1) (some k) t ls else if ch s 0 = 124 then parseL r (i + 1) (some k) (t ++ s.extract 1 s.size ++ ⟨#[10]⟩) ls else (match lineOf s with
      | none => (scr0, (i : Int), 70)
      | some l => parseL r (i + 1) (some k) t (ls ++ [l]))
noncomputable def parseP (text : ByteArray) : ScrD × Int × Int := if 2048 < (splitP text 10).length then (scr0, 0, 3) else parseL (splitP text 10) 0 none ⟨#[]⟩ []
/-- What came of a text. -/
def ParseV (F : PH) (v : Value) (r : ScrD × Int × Int) : Prop := ∃ cs, v = .tuple #[.agg cs.toArray, .int .i64 r.2.1, .int .i64 r.2.2] ∧ RScr F r.1 cs
theorem scr0_at (F : PH) : RScr F scr0 (scrC scr0 (.slice none 0 0)) := ⟨_, rfl, [], ⟨none, 0, rfl, Nat.le_refl _, Nat.zero_le _, by simp [scr0], fun h => absurd h (by simp [scr0])⟩, rfl⟩
theorem parse_empty {r : List ByteArray} {i : Nat} {k : Option K6} {t : ByteArray} {ls : List LineD} {s : ByteArray} (h : s = ⟨#[]⟩) : parseL (s :: r) i k t ls = parseL r (i + 1) k t ls := by
  cases k <;> simp only [parseL, if_pos h]
theorem parse_heap {r : List ByteArray} {i : Nat} {t : ByteArray} {ls : List LineD} {s : ByteArray} (h : ¬ s = ⟨#[]⟩) : (∀ k, heapP s = some k → parseL (s :: r) i none t ls = parseL r (i + 1) (some k) t ls) ∧ (heapP s = none → parseL (s :: r) i none t ls = (scr0, (i : Int), 70)) := by
  constructor
  · intro k hk; simp only [parseL, if_neg h, hk]
  · intro hk; simp only [parseL, if_neg h, hk]
theorem parse_bar {r : List ByteArray} {i : Nat} {k : K6} {t : ByteArray} {ls : List LineD} {s : ByteArray} (h : ¬ s = ⟨#[]⟩) (hb : ch s 0 = 124) : parseL (s :: r) i (some k) t ls = parseL r (i + 1) (some k) (t ++ s.extract 1 s.size ++ ⟨#[10]⟩) ls := by
  simp only [parseL, if_neg h, if_pos hb]
theorem parse_line {r : List ByteArray} {i : Nat} {k : K6} {t : ByteArray} {ls : List LineD} {s : ByteArray} (h : ¬ s = ⟨#[]⟩) (hb : ¬ ch s 0 = 124) : (∀ l, lineOf s = some l → parseL (s :: r) i (some k) t ls = parseL r (i + 1) (some k) t (ls ++ [l])) ∧ (lineOf s = none → parseL (s :: r) i (some k) t ls = (scr0, (i : Int), 70)) := by
  constructor
  · intro l hl; simp only [parseL, if_neg h, if_neg hb, hl]
  · intro hl; simp only [parseL, if_neg h, if_neg hb, hl]
theorem sumB_step {l : List ByteArray} {j : Nat} (h : j < l.length) : sumOf ByteArray.size (l.take (j + 1)) = sumOf ByteArray.size (l.take j) + (l[j]).size := by
  rw [List.take_succ_eq_append_getElem h, sumOf_append]
  simp [sumOf]
theorem bpos {s : ByteArray} (h : ¬ s = ⟨#[]⟩) : 0 < s.size := by
  rcases Nat.eq_zero_or_pos s.size with e | e
  · exact absurd (ByteArray.size_eq_zero_iff.1 e) h
  · exact e
end Go.Proofs.YtmiekonofocboaaGreatDoor.Q

/- Scripts: what the program reads (script.Parse). -/
namespace Go.Proofs.YtmiekonofocboaaGreatDoor.Q
open Go Go.Eng Go.Lib Go.Proofs Go.Proofs.YtmiekonofocboaaGreatDoor.T Go.Proofs.YtmiekonofocboaaGreatDoor.K Go.Proofs.YtmiekonofocboaaGreatDoor.X
set_option linter.unusedSimpArgs false
set_option linter.unusedVariables false
set_option linter.unusedSectionVars false
set_option maxRecDepth 100000
set_option maxHeartbeats 4000000
theorem parse (text : ByteArray) (hs : text.size ≤ 60000000) (F : PH) : PFn Tryz.prog 7 [.string text] F (fun v F' => ParseV F' v (parseP text)) := by
  refine Fn.intro (n := 82) (ts := [.cell 2 26, 3, 4]) Tryz.func7 rfl rfl rfl rfl (by simp) fun B hB => VC.go 100 ?_
  simp only [push_cast, ↓reduceIte, Nat.reduceEqDiff, Nat.reduceAdd, Nat.reduceMul, Nat.reduceSub, Nat.reduceLT, Nat.reduceLeDiff, reduceCtorEq, Nat.reduceMod, Int.reduceEq, Int.reduceLT, Int.reduceLE, Int.reduceToNat, dite_true]
  intro b2
  refine VC.scope (VC.go 100 ?_)
  simp only [push_cast, ↓reduceIte, Nat.reduceEqDiff, Nat.reduceAdd, Nat.reduceMul, Nat.reduceSub, Nat.reduceLT, Nat.reduceLeDiff, reduceCtorEq, Nat.reduceMod, Int.reduceEq, Int.reduceLT, Int.reduceLE, Int.reduceToNat, dite_true]
  have hsp := split text 10 (by omega) F
  have hsum := splitP_sum text 10
  have hlen := splitP_len text 10
  have hpp : parseP text = if 2048 < (splitP text 10).length then (scr0, 0, 3) else parseL (splitP text 10) 0 none ⟨#[]⟩ [] := rfl
  generalize splitP text 10 = ps at hsp hsum hlen hpp
  refine CallV.pure hsp ?_
  rintro _ F1 hF1 ⟨p, c, rfl, hnc, hcm, hsrc⟩
  by_cases hbig : 2048 < ps.length
  · rw [if_pos hbig] at hpp
    simp only [push_cast, ↓reduceIte, Nat.reduceEqDiff, Nat.reduceAdd, Nat.reduceMul, Nat.reduceSub, Nat.reduceLT, Nat.reduceLeDiff, reduceCtorEq, Nat.reduceMod, Int.reduceEq, Int.reduceLT, Int.reduceLE, Int.reduceToNat, dite_true, eq_true (show (2048 : Int) < (ps.length : Int) by omega)]
    rw [hpp]
    refine ⟨[_, _, _], [], (by simp only [push_cast, ↓reduceIte, Nat.reduceEqDiff, Nat.reduceAdd, Nat.reduceMul, Nat.reduceSub, Nat.reduceLT, Nat.reduceLeDiff, reduceCtorEq, Nat.reduceMod, Int.reduceEq, Int.reduceLT, Int.reduceLE, Int.reduceToNat, dite_true, rvals, rval1]; rfl), .sub (List.nil_sublist _), rfl, ?_⟩
    exact ⟨_, rfl, scr0_at _⟩
  rw [if_neg hbig] at hpp
  simp only [push_cast, ↓reduceIte, Nat.reduceEqDiff, Nat.reduceAdd, Nat.reduceMul, Nat.reduceSub, Nat.reduceLT, Nat.reduceLeDiff, reduceCtorEq, Nat.reduceMod, Int.reduceEq, Int.reduceLT, Int.reduceLE, Int.reduceToNat, dite_true, eq_false (show ¬ (2048 : Int) < (ps.length : Int) by omega)]
  intro b6
  refine VC.label (VC.go 100 ?_)
  simp only [push_cast, ↓reduceIte, Nat.reduceEqDiff, Nat.reduceAdd, Nat.reduceMul, Nat.reduceSub, Nat.reduceLT, Nat.reduceLeDiff, reduceCtorEq, Nat.reduceMod, Int.reduceEq, Int.reduceLT, Int.reduceLE, Int.reduceToNat, dite_true]
  refine VC.emp (VC.emp ?_)
  refine VC.loopW (ι := Nat × Option K6 × ByteArray × List LineD × Value × Value × PH × PH × PH) (fun i => [(24, .v (.int .i64 (i.1 : Int))), (23, .v (.int .i64 (ps.length : Int))), (22, .v (.slice p ps.length c)), (7, .v (.bool i.2.1.isSome)), (8, .v i.2.2.2.2.1), (6, .o 1 b6 0), (2, .o 0 b2 0)])
    (fun i => [⟨0, b2, 26, scrC scr0 (.slice none 0 0)⟩, ⟨1, b6, 26, scrC (mkScr (i.2.1.getD (0, 0, 0, 0, 0, 0)) ⟨#[]⟩ []) i.2.2.2.2.2.1⟩]) (fun i => i.2.2.2.2.2.2.2.2) (fun i => [i.2.2.2.2.2.2.1, i.2.2.2.2.2.2.2.1])
    (fun i => i.1 ≤ ps.length ∧ F1.le i.2.2.2.2.2.2.2.2 ∧ parseL (ps.drop i.1) i.1 i.2.1 i.2.2.1 i.2.2.2.1 = parseP text ∧ i.2.2.1.size ≤ sumOf ByteArray.size (ps.take i.1) ∧ i.2.2.2.1.length ≤ i.1 ∧ (∃ xs, Row i.2.2.2.2.2.2.1 51 8 i.2.2.2.2.2.1 xs ∧ Each (RLine i.2.2.2.2.2.2.2.2) i.2.2.2.1 xs) ∧ BRow i.2.2.2.2.2.2.2.1 5 i.2.2.2.2.1 (strCells i.2.2.1))
    (fun i => ps.length - i.1) (0, none, ⟨#[]⟩, [], .slice none 0 0, .slice none 0 0, PH.emp, PH.emp, F1) ⟨Nat.zero_le _, PH.le_refl _, hpp.symm, by simp [ByteArray.size], Nat.zero_le _, ⟨[], Row.nil _ _, rfl⟩, BRow.nil _⟩ (by simp [subk, Eng.look]) (List.Sublist.refl _) rfl (subR_refl _) ?_
  rintro ⟨j, k, t, ls, v8, vl, rl, rt, F2⟩ ⟨hj, hF2, hpl, htz, hll, ⟨xs, hrl, hea⟩, hrt⟩ G hG
  dsimp only at hj hF2 hpl htz hll hrl hea hrt hG ⊢
  obtain ⟨p8, c8, e8, _, _⟩ := hrt.val
  obtain ⟨pl, nl, cl, rfl⟩ := hrl.val
  have hxl := Each.len (sz := 8) (fun a c h => RLine.len h) hea
  have hsj := sumB_take ps j
  rcases Nat.lt_or_ge j ps.length with hlt | hge
  case inr =>
    obtain rfl : j = ps.length := by omega
    rw [List.drop_length] at hpl
    refine VC.freezeR (List.Perm.refl _) fun F3 hF3 hl3 => ?_
    dsimp only at hF3 hl3 ⊢
    refine VC.freezeR (List.Perm.refl _) fun F4 hF4 hl4 => ?_
    dsimp only at hF4 hl4 ⊢
    refine VC.go 100 ?_
    have hF24 : F2.le F4 := PH.le_trans hF3 hF4
    have hsl := row_sle (R := RLine F4) (by decide) (fun a c h => RLine.len h) hrl (hea.mono fun l _ c h => h.mono hF24) (fun b o h => hF4 b o (hl3 b o h))
    cases k with
    | none =>
      have hpl : (scr0, 0, 70) = parseP text := hpl
      simp only [push_cast, ↓reduceIte, Nat.reduceEqDiff, Nat.reduceAdd, Nat.reduceMul, Nat.reduceSub, Nat.reduceLT, Nat.reduceLeDiff, reduceCtorEq, Nat.reduceMod, Int.reduceEq, Int.reduceLT, Int.reduceLE, Int.reduceToNat, dite_true, eq_false (show ¬ (ps.length : Int) < (ps.length : Int) by omega), Option.isSome_none]
      rw [← hpl]
      refine ⟨[_, _, _], [], (by simp only [push_cast, ↓reduceIte, Nat.reduceEqDiff, Nat.reduceAdd, Nat.reduceMul, Nat.reduceSub, Nat.reduceLT, Nat.reduceLeDiff, reduceCtorEq, Nat.reduceMod, Int.reduceEq, Int.reduceLT, Int.reduceLE, Int.reduceToNat, dite_true, rvals, rval1]; rfl), .sub (List.nil_sublist _), rfl, ?_⟩
      exact ⟨_, rfl, scr0_at _⟩
    | some kk =>
      have hpl : (mkScr kk t ls, 0, 0) = parseP text := hpl
      rcases hrt with ⟨e0, ht0, _⟩ | ⟨g8, n8, cap8, cur8, fz8, e0, hn8, hr8, hz8, h28, h38, h48, h58⟩
      · obtain rfl : t = ⟨#[]⟩ := ByteArray.size_eq_zero_iff.1 (by rw [← strCells_length, ht0]; rfl)
        subst e0
        simp only [push_cast, ↓reduceIte, Nat.reduceEqDiff, Nat.reduceAdd, Nat.reduceMul, Nat.reduceSub, Nat.reduceLT, Nat.reduceLeDiff, reduceCtorEq, Nat.reduceMod, Int.reduceEq, Int.reduceLT, Int.reduceLE, Int.reduceToNat, dite_true, eq_false (show ¬ (ps.length : Int) < (ps.length : Int) by omega), Option.isSome_some]
        rw [← hpl]
        refine ⟨[_, _, _], [], (by simp only [push_cast, ↓reduceIte, Nat.reduceEqDiff, Nat.reduceAdd, Nat.reduceMul, Nat.reduceSub, Nat.reduceLT, Nat.reduceLeDiff, reduceCtorEq, Nat.reduceMod, Int.reduceEq, Int.reduceLT, Int.reduceLE, Int.reduceToNat, dite_true, rvals, rval1]; rfl), .sub (List.nil_sublist _), rfl, ?_⟩
        exact ⟨_, rfl, _, rfl, hsl⟩
      · have hs8 := (show BRow rt 5 v8 (strCells t) from .inr ⟨g8, n8, cap8, cur8, fz8, e0, hn8, hr8, hz8, h28, h38, h48, h58⟩).sl hl4
        subst e0
        obtain ⟨p9, c9, e9, _, _, hs9⟩ := hs8
        cases e9
        have hcc : F4.cells ⟨g8, 0, none⟩ (strCells t).length = some (strCells t) := by
          rcases Nat.eq_zero_or_pos (strCells t).length with hz | hz
          · have : strCells t = [] := List.eq_nil_of_length_eq_zero hz
            rw [this]; rfl
          · obtain ⟨a9, e9, h9⟩ := hs9.2 (by omega)
            cases e9
            rw [Nat.mul_one] at h9
            exact h9
        simp only [push_cast, ↓reduceIte, Nat.reduceEqDiff, Nat.reduceAdd, Nat.reduceMul, Nat.reduceSub, Nat.reduceLT, Nat.reduceLeDiff, reduceCtorEq, Nat.reduceMod, Int.reduceEq, Int.reduceLT, Int.reduceLE, Int.reduceToNat, dite_true, eq_false (show ¬ (ps.length : Int) < (ps.length : Int) by omega), Option.isSome_some, hcc, bytesV_str, bstr_str']
        rw [← hpl]
        refine ⟨[_, _, _], [], (by simp only [push_cast, ↓reduceIte, Nat.reduceEqDiff, Nat.reduceAdd, Nat.reduceMul, Nat.reduceSub, Nat.reduceLT, Nat.reduceLeDiff, reduceCtorEq, Nat.reduceMod, Int.reduceEq, Int.reduceLT, Int.reduceLE, Int.reduceToNat, dite_true, rvals, rval1]; rfl), .sub (List.nil_sublist _), rfl, ?_⟩
        exact ⟨_, rfl, _, rfl, hsl⟩
  subst e8
  refine VC.go 100 ?_
  have hmem : ps[j] ∈ ps := List.getElem_mem hlt
  have hszj : (ps[j]).size ≤ 60000000 := by have := sum_mem hmem; omega
  have hst := sumB_step hlt
  have hst2 := sumB_take ps (j + 1)
  rw [List.drop_eq_getElem_cons hlt] at hpl
  obtain ⟨a, rfl, hca⟩ := (hsrc.mono hF2).elem1 (i := j) (v := .string ps[j]) (by simp [hlt])
  have hw1 : IntKind.i64.wrap ((j : Int) + 1) = (j : Int) + 1 := IntWalk.i64_in _ (by omega)
  have f1 := eq_true (show (j : Int) < (ps.length : Int) by omega)
  generalize ps[j] = s at hpl hca hszj hst hmem
  by_cases h0 : s = ⟨#[]⟩
  · rw [parse_empty h0] at hpl
    simp only [push_cast, ↓reduceIte, Nat.reduceEqDiff, Nat.reduceAdd, Nat.reduceMul, Nat.reduceSub, Nat.reduceLT, Nat.reduceLeDiff, reduceCtorEq, Nat.reduceMod, Int.reduceEq, Int.reduceLT, Int.reduceLE, Int.reduceToNat, dite_true, f1, hca, eq_true hlt, Nat.mul_one, eq_true h0, hw1]
    exact hG (j + 1, k, t, ls, _, _, rl, rt, F2) _ ⟨by dsimp only; omega, hF2, hpl, by dsimp only; omega, by dsimp only; omega, ⟨xs, hrl, hea⟩, hrt⟩ (by dsimp only; omega) (by simp [subk, Eng.look]) (List.Sublist.refl _) rfl (subR_refl _)
  have hp0 := bpos h0
  cases k with
  | none =>
    obtain ⟨q1, q2⟩ := parse_heap (r := ps.drop (j + 1)) (i := j) (t := t) (ls := ls) h0
    simp only [push_cast, ↓reduceIte, Nat.reduceEqDiff, Nat.reduceAdd, Nat.reduceMul, Nat.reduceSub, Nat.reduceLT, Nat.reduceLeDiff, reduceCtorEq, Nat.reduceMod, Int.reduceEq, Int.reduceLT, Int.reduceLE, Int.reduceToNat, dite_true, f1, hca, eq_true hlt, Nat.mul_one, h0, Option.isSome_none]
    have hhp := heap s (by omega) F2
    refine CallV.pure hhp ?_
    rintro _ F3 hF3 rfl
    cases hk : heapP s with
    | none =>
      have hv : heapV s = .tuple #[confV (0, 0, 0, 0, 0, 0), .int .i64 0, .bool false] := by unfold heapV; rw [hk]
      rw [hv]
      rw [q2 hk] at hpl
      simp only [push_cast, ↓reduceIte, Nat.reduceEqDiff, Nat.reduceAdd, Nat.reduceMul, Nat.reduceSub, Nat.reduceLT, Nat.reduceLeDiff, reduceCtorEq, Nat.reduceMod, Int.reduceEq, Int.reduceLT, Int.reduceLE, Int.reduceToNat, dite_true, confV]
      intro b11
      rw [← hpl]
      refine ⟨[_, _, _], [], (by simp only [push_cast, ↓reduceIte, Nat.reduceEqDiff, Nat.reduceAdd, Nat.reduceMul, Nat.reduceSub, Nat.reduceLT, Nat.reduceLeDiff, reduceCtorEq, Nat.reduceMod, Int.reduceEq, Int.reduceLT, Int.reduceLE, Int.reduceToNat, dite_true, rvals, rval1]; rfl), .sub (List.nil_sublist _), rfl, ?_⟩
      exact ⟨_, rfl, scr0_at _⟩
    | some kk =>
      have hv : heapV s = .tuple #[confV kk, .int .i64 kk.2.2.2.2.2, .bool true] := by unfold heapV; rw [hk]
      rw [hv]
      rw [q1 kk hk] at hpl
      simp only [push_cast, ↓reduceIte, Nat.reduceEqDiff, Nat.reduceAdd, Nat.reduceMul, Nat.reduceSub, Nat.reduceLT, Nat.reduceLeDiff, reduceCtorEq, Nat.reduceMod, Int.reduceEq, Int.reduceLT, Int.reduceLE, Int.reduceToNat, dite_true, confV]
      intro b11
      simp only [push_cast, ↓reduceIte, Nat.reduceEqDiff, Nat.reduceAdd, Nat.reduceMul, Nat.reduceSub, Nat.reduceLT, Nat.reduceLeDiff, reduceCtorEq, Nat.reduceMod, Int.reduceEq, Int.reduceLT, Int.reduceLE, Int.reduceToNat, dite_true, hw1]
      exact hG (j + 1, some kk, t, ls, _, _, rl, rt, F3) _ ⟨by dsimp only; omega, PH.le_trans hF2 hF3, hpl, by dsimp only; omega, by dsimp only; omega, ⟨xs, hrl, hea.mono fun l _ c h => h.mono hF3⟩, hrt⟩ (by dsimp only; omega) (by simp [subk, Eng.look]) (List.sublist_append_left [_, _] [_]) rfl (subR_refl _)
  | some kk =>
  have hc : ((s.data.getD 0 0).toNat : Int) = ch s 0 := rfl
  have g1 := eq_true (show (0 : Int) < (s.size : Int) by omega)
  by_cases hb : ch s 0 = 124
  · rw [parse_bar h0 hb] at hpl
    have g2 := eq_true (show (1 : Int) ≤ (s.size : Int) by omega)
    have hex : (s.extract 1 s.size).size = s.size - 1 := by rw [ByteArray.size_extract]; omega
    have htl : (strCells t).length ≤ 60000000 := by rw [strCells_length]; omega
    simp only [push_cast, ↓reduceIte, Nat.reduceEqDiff, Nat.reduceAdd, Nat.reduceMul, Nat.reduceSub, Nat.reduceLT, Nat.reduceLeDiff, reduceCtorEq, Nat.reduceMod, Int.reduceEq, Int.reduceLT, Int.reduceLE, Int.reduceToNat, dite_true, f1, hca, eq_true hlt, Nat.mul_one, h0, Option.isSome_some, g1, hc, eq_true hb, g2]
    refine Eff.appendBS (tx := s.extract 1 s.size) rfl rfl rfl ty44 rfl ty9 rfl ty5 rfl rfl rfl rfl rfl (List.Perm.swap _ _ _) hrt (by omega) ?_
    intro v7 r7 hr7
    obtain ⟨p7, c7, e7, _, _⟩ := hr7.val
    subst e7
    simp only [push_cast, ↓reduceIte, Nat.reduceEqDiff, Nat.reduceAdd, Nat.reduceMul, Nat.reduceSub, Nat.reduceLT, Nat.reduceLeDiff, reduceCtorEq, Nat.reduceMod, Int.reduceEq, Int.reduceLT, Int.reduceLE, Int.reduceToNat, dite_true]
    intro b9 F3 hF3 hb9
    refine Eff.appendBL (ys := [.int .u8 10]) rfl rfl rfl ty44 rfl ty5 rfl rfl rfl rfl rfl (Src.blk hb9 rfl) (by simp [Value.oneCell']) (List.Perm.refl _) hr7 (by simp only [List.length_append, strCells_length]; rw [strCells_length] at htl; omega) ?_
    intro v10 r10 hr10
    rw [show strCells t ++ strCells (s.extract 1 s.size) ++ [Value.int .u8 10] = strCells (t ++ s.extract 1 s.size ++ ⟨#[10]⟩) by simp [strCells]] at hr10
    simp only [push_cast, ↓reduceIte, Nat.reduceEqDiff, Nat.reduceAdd, Nat.reduceMul, Nat.reduceSub, Nat.reduceLT, Nat.reduceLeDiff, reduceCtorEq, Nat.reduceMod, Int.reduceEq, Int.reduceLT, Int.reduceLE, Int.reduceToNat, dite_true, hw1]
    exact hG (j + 1, some kk, t ++ s.extract 1 s.size ++ ⟨#[10]⟩, ls, v10, _, rl, r10, F3) _ ⟨by dsimp only; omega, PH.le_trans hF2 hF3, hpl, by dsimp only; rw [ByteArray.size_append, ByteArray.size_append, hex]; have : ByteArray.size { data := #[10] } = 1 := rfl; omega, by dsimp only; omega, ⟨xs, hrl, hea.mono fun l _ c h => h.mono hF3⟩, hr10⟩ (by dsimp only; omega) (by simp [subk, Eng.look]) (List.Sublist.refl _) rfl ⟨_, List.Sublist.refl _, List.Perm.swap _ _ _⟩
  obtain ⟨q1, q2⟩ := parse_line (r := ps.drop (j + 1)) (i := j) (k := kk) (t := t) (ls := ls) h0 hb
  simp only [push_cast, ↓reduceIte, Nat.reduceEqDiff, Nat.reduceAdd, Nat.reduceMul, Nat.reduceSub, Nat.reduceLT, Nat.reduceLeDiff, reduceCtorEq, Nat.reduceMod, Int.reduceEq, Int.reduceLT, Int.reduceLE, Int.reduceToNat, dite_true, f1, hca, eq_true hlt, Nat.mul_one, h0, Option.isSome_some, g1, hc, hb]
  have hln := line s (by omega) F2
  refine CallV.pure hln ?_
  rintro u F3 hF3 hu
  cases hk : lineOf s with
  | none =>
    rw [hk] at hu
    rw [q2 hk] at hpl
    cases (show u = .tuple #[.agg (lineC ⟨0, 0, ⟨#[]⟩, [], 0, 0, 0, 0⟩ (.slice none 0 0)).toArray, .bool false] from hu)
    simp only [push_cast, ↓reduceIte, Nat.reduceEqDiff, Nat.reduceAdd, Nat.reduceMul, Nat.reduceSub, Nat.reduceLT, Nat.reduceLeDiff, reduceCtorEq, Nat.reduceMod, Int.reduceEq, Int.reduceLT, Int.reduceLE, Int.reduceToNat, dite_true]
    intro b14
    rw [← hpl]
    refine ⟨[_, _, _], [], (by simp only [push_cast, ↓reduceIte, Nat.reduceEqDiff, Nat.reduceAdd, Nat.reduceMul, Nat.reduceSub, Nat.reduceLT, Nat.reduceLeDiff, reduceCtorEq, Nat.reduceMod, Int.reduceEq, Int.reduceLT, Int.reduceLE, Int.reduceToNat, dite_true, rvals, rval1]; rfl), .sub (List.nil_sublist _), rfl, ?_⟩
    exact ⟨_, rfl, scr0_at _⟩
  | some l =>
    rw [hk] at hu
    rw [q1 l hk] at hpl
    obtain ⟨cs, rfl, hrl8⟩ := hu
    obtain ⟨vl8, rfl, hin⟩ := hrl8
    have hin0 := hin
    obtain ⟨pv, cv, rfl, _, _, _⟩ := hin0
    simp only [push_cast, ↓reduceIte, Nat.reduceEqDiff, Nat.reduceAdd, Nat.reduceMul, Nat.reduceSub, Nat.reduceLT, Nat.reduceLeDiff, reduceCtorEq, Nat.reduceMod, Int.reduceEq, Int.reduceLT, Int.reduceLE, Int.reduceToNat, dite_true]
    intro b14 b16 F4 hF4 hb16
    refine Eff.append (xs := xs) (ys := lineC l (.slice pv l.nums.length cv)) rfl rfl rfl ty24 rfl ty51 rfl (by decide) rfl rfl (List.Perm.refl _) hrl (Src.blk hb16 rfl) (by simp [Value.oneCell']) (by simp; omega) (by decide) ?_
    intro v' r' hr'
    obtain ⟨p17, n17, c17, rfl⟩ := hr'.val
    simp only [push_cast, ↓reduceIte, Nat.reduceEqDiff, Nat.reduceAdd, Nat.reduceMul, Nat.reduceSub, Nat.reduceLT, Nat.reduceLeDiff, reduceCtorEq, Nat.reduceMod, Int.reduceEq, Int.reduceLT, Int.reduceLE, Int.reduceToNat, dite_true, hw1]
    exact hG (j + 1, some kk, t, ls ++ [l], _, _, r', rt, F4) _ ⟨by dsimp only; omega, PH.le_trans (PH.le_trans hF2 hF3) hF4, hpl, by dsimp only; omega, by simp; omega, ⟨_, hr', each_snoc (hea.mono fun l _ c h => h.mono (PH.le_trans hF3 hF4)) ⟨_, rfl, hin.mono hF4⟩⟩, hrt⟩ (by dsimp only; omega) (by simp [subk, Eng.look]) (List.sublist_append_left [_, _] [_]) rfl (subR_refl _)
end Go.Proofs.YtmiekonofocboaaGreatDoor.Q

/- Scripts: what is read is right; the same scripts are the same. -/
namespace Go.Proofs.YtmiekonofocboaaGreatDoor.Q
open Go Go.Eng Go.Lib Go.Proofs Go.Proofs.YtmiekonofocboaaGreatDoor.T Go.Proofs.YtmiekonofocboaaGreatDoor.K Go.Proofs.YtmiekonofocboaaGreatDoor.X
set_option linter.unusedSimpArgs false
set_option linter.unusedVariables false
set_option linter.unusedSectionVars false
set_option maxRecDepth 100000
set_option maxHeartbeats 4000000
theorem numP_range (s : ByteArray) : ∀ (n i : Nat) (x y : Int), (∀ k, i ≤ k → k < s.size → digitB (ch s k) = true) → 0 ≤ x → x ≤ 9223372036854775808 → numP s n i x = some y → 0 ≤ y ∧ y ≤ 9223372036854775808
  | 0, i, x, y, hd, h0, h1, h => by
    simp only [numP, Option.some.injEq] at h
    omega
  | n + 1, i, x, y, hd, h0, h1, h => by
    simp only [numP] at h
    split at h
    · rename_i hi
      have hdi : 48 ≤ ch s i ∧ ch s i ≤ 57 := by simpa [digitB] using hd i (Nat.le_refl _) hi
      split at h
      · cases h
      · exact numP_range s n (i + 1) _ y (fun k h2 h3 => hd k (by omega) h3) (by omega) (by omega) h
    · simp only [Option.some.injEq] at h
      omega
theorem numberP_range {w : ByteArray} {m : Int} (h : numberP w = some m) : I64' m := by
  unfold numberP at h
  split at h
  · rename_i hv
    have hok := hv.1.1
    unfold intOf at h
    split at h
    · rename_i h45
      cases hn : numE w 1 0 with
      | none => rw [hn] at h; cases h
      | some y =>
        rw [hn] at h
        simp only [Option.map_some, Option.some.injEq] at h
        have := numP_range w _ 1 0 y (fun k h1 h2 => by
          rcases hok k h2 with g | g
          · exact g
          · omega) (by omega) (by omega) hn
        omega
    · rename_i h45
      split at h
      · rename_i x hx
        split at h
        · cases h
          have := numP_range w _ 0 0 m (fun k h1 h2 => by
            rcases hok k h2 with g | g
            · exact g
            · obtain ⟨g1, rfl⟩ := g; exact absurd g1 h45) (by omega) (by omega) hx
          omega
        · cases h
      · cases h
  · cases h
theorem numsP_range : ∀ {l : List ByteArray} {ns : List Int}, numsP l = some ns → ∀ n ∈ ns, I64' n
  | [], ns, h, n, hn => by cases h; cases hn
  | w :: l, ns, h, n, hn => by
    simp only [numsP] at h
    split at h
    · rename_i a r h1 h2
      cases h
      rcases List.mem_cons.1 hn with rfl | hn
      · exact numberP_range h1
      · exact numsP_range h2 n hn
    · cases h
theorem z64 : I64' 0 := by decide
theorem lineN_ok {w0 : ByteArray} {ns : List Int} {l : LineD} (h : lineN w0 ns = some l) (hn : ∀ n ∈ ns, I64' n) : LineOk l := by
  have e0 : (ByteArray.size { data := #[] }) ≤ 900000000 := by decide
  unfold lineN at h
  split at h
  · unfold showN at h
    split at h
    · cases h; exact ⟨hn _ (by simp), hn _ (by simp), hn _ (by simp), z64, z64, (fun _ h => nomatch h), e0, Nat.zero_le _⟩
    · cases h
  split at h
  · unfold atN at h
    split at h
    · cases h; exact ⟨z64, z64, z64, hn _ (by simp), hn _ (by simp), (fun _ h => nomatch h), e0, Nat.zero_le _⟩
    · cases h
  split at h
  · unfold dropN at h
    split at h
    · cases h; exact ⟨hn _ (by simp), z64, z64, z64, z64, (fun _ h => nomatch h), e0, Nat.zero_le _⟩
    · cases h
  split at h
  · unfold collectN at h
    split at h
    · cases h; exact ⟨hn _ (by simp), z64, z64, z64, z64, (fun _ h => nomatch h), e0, Nat.zero_le _⟩
    · cases h
  split at h
  · unfold outN at h
    split at h
    · cases h; exact ⟨z64, z64, z64, z64, z64, (fun _ h => nomatch h), e0, Nat.zero_le _⟩
    · cases h
  · cases h
theorem lineOf_ok {s : ByteArray} (hs : s.size ≤ 60000000) {l : LineD} (h : lineOf s = some l) : LineOk l := by
  obtain ⟨w0, r, hwr⟩ := split_ne s 32
  have hlen := splitP_len s 32
  have hmem : ∀ w ∈ splitP s 32, w.size ≤ s.size := fun w h => split_mem h
  rw [hwr] at hlen hmem
  by_cases h0 : w0 = makeW
  · rw [line_make hwr h0] at h
    cases r with
    | nil => exact absurd (show (none : Option LineD) = some l from h) (by simp)
    | cons nm r2 =>
      have h : (if WordP nm 1 then (numsP r2).map (fun ns => (⟨1, 0, nm, ns, 0, 0, 0, 0⟩ : LineD)) else none) = some l := h
      split at h
      · cases hq : numsP r2 with
        | none => rw [hq] at h; cases h
        | some ns =>
          rw [hq] at h
          cases h
          have h1 := numsP_len hq
          have h2 := hmem nm (by simp)
          simp at hlen
          exact ⟨z64, z64, z64, z64, z64, numsP_range hq, by dsimp only; omega, by dsimp only; omega⟩
      · cases h
  · rw [line_not hwr h0] at h
    cases hq : numsP r with
    | none => rw [hq] at h; cases h
    | some ns =>
      rw [hq] at h
      exact lineN_ok h (numsP_range hq)
theorem parseL_ok : ∀ (ps : List ByteArray) (i : Nat) (k : Option K6) (t : ByteArray) (ls : List LineD), (∀ s ∈ ps, s.size ≤ 60000000) → (∀ l ∈ ls, LineOk l) → ∀ l ∈ (parseL ps i k t ls).1.lines, LineOk l
  | [], i, none, t, ls, hp, hl => by intro l h; cases h
  | [], i, some k, t, ls, hp, hl => hl
  | s :: r, i, k, t, ls, hp, hl => by
    have hr : ∀ s ∈ r, s.size ≤ 60000000 := fun x hx => hp x (List.mem_cons_of_mem _ hx)
    by_cases h0 : s = ⟨#[]⟩
    · rw [parse_empty h0]; exact parseL_ok r _ _ _ _ hr hl
    cases k with
    | none =>
      obtain ⟨q1, q2⟩ := parse_heap (r := r) (i := i) (t := t) (ls := ls) h0
      cases hk : heapP s with
      | none => rw [q2 hk]; intro l h; cases h
      | some kk => rw [q1 kk hk]; exact parseL_ok r _ _ _ _ hr hl
    | some kk =>
      by_cases hb : ch s 0 = 124
      · rw [parse_bar h0 hb]; exact parseL_ok r _ _ _ _ hr hl
      · obtain ⟨q1, q2⟩ := parse_line (r := r) (i := i) (k := kk) (t := t) (ls := ls) h0 hb
        cases hk : lineOf s with
        | none => rw [q2 hk]; intro l h; cases h
        | some x =>
          rw [q1 x hk]
          refine parseL_ok r _ _ _ _ hr fun l hlm => ?_
          rcases List.mem_append.1 hlm with g | g
          · exact hl l g
          · rw [List.mem_singleton.1 g]; exact lineOf_ok (hp s List.mem_cons_self) hk
theorem parse_ok {text : ByteArray} (hs : text.size ≤ 60000000) : ∀ l ∈ (parseP text).1.lines, LineOk l := by
  unfold parseP
  split
  · intro l h; cases h
  · exact parseL_ok _ _ _ _ _ (fun s h => Nat.le_trans (split_mem h) hs) (fun _ h => nomatch h)
theorem conf_eq (a b c d e : Int) : sEq Tryz.prog 23 #[.int .i64 a, .int .i64 b, .int .i64 c, .int .i64 d, .int .i64 e] #[.int .i64 a, .int .i64 b, .int .i64 c, .int .i64 d, .int .i64 e] = some true := sEq_same (by kernel_rfl)
def mapS (f : LineD → LineD) (s : ScrD) : ScrD := { s with lines := s.lines.map f }
theorem same_map (s : ScrD) (f : LineD → LineD) (hf : ∀ l ∈ s.lines, (f l).kind = l.kind ∧ lineT (f l) = lineT l ∧ LineOk (f l)) (hok : ∀ l ∈ s.lines, LineOk l) (hlen : s.lines.length ≤ 100000000) (F : PH) (cs1 cs2 : List Value) (h1 : RScr F s cs1) (h2 : RScr F (mapS f s) cs2) : PFn Tryz.prog 10 [.agg cs1.toArray, .agg cs2.toArray] F (fun v _ => v = .bool true) := by
  obtain ⟨v1, rfl, xs1, ⟨p1, c1, rfl, hnc1, hcm1, hs1⟩, he1⟩ := h1
  obtain ⟨v2, rfl, xs2, ⟨p2, c2, rfl, hnc2, hcm2, hs2⟩, he2⟩ := h2
  have hlm : (mapS f s).lines.length = s.lines.length := List.length_map f
  rw [hlm] at hnc2 hs2 ⊢
  refine Fn.intro (n := 81) (ts := [4]) Tryz.func10 rfl rfl rfl rfl (by simp) fun B hB => VC.go 100 ?_
  simp only [push_cast, ↓reduceIte, Nat.reduceEqDiff, Nat.reduceAdd, Nat.reduceMul, Nat.reduceSub, Nat.reduceLT, Nat.reduceLeDiff, reduceCtorEq, Nat.reduceMod, Int.reduceEq, Int.reduceLT, Int.reduceLE, Int.reduceToNat, dite_true, mapS, conf_eq, eq_self, decide_true]
  intro b2 b3
  refine VC.loopF (ι := Nat × PH) (fun i => [(5, .v (.int .i64 (i.1 : Int))), (3, .o 1 b3 0), (2, .o 0 b2 0)]) (fun i => i.2) (fun i => i.1 ≤ s.lines.length ∧ F.le i.2) (fun i => s.lines.length - i.1) (0, F) ⟨Nat.zero_le _, PH.le_refl _⟩ (by simp [subk, Eng.look]) rfl ?_
  rintro ⟨j, F1⟩ ⟨hj, hF1⟩ G hG
  dsimp only at hj hF1 hG ⊢
  refine VC.go 100 ?_
  rcases Nat.lt_or_ge j s.lines.length with hlt | hge
  · obtain ⟨a1, rfl, hca1⟩ := (hs1.mono hF1).elem hlt (by omega)
    obtain ⟨a2, rfl, hca2⟩ := (hs2.mono hF1).elem hlt (by omega)
    have hel1 := Each.at (sz := 8) (fun a c h => RLine.len h) he1 (List.getElem?_eq_getElem hlt)
    have hel2 := Each.at (sz := 8) (fun a c h => RLine.len h) he2 (i := j) (a := f s.lines[j]) (by show (s.lines.map f)[j]? = _; rw [List.getElem?_map, List.getElem?_eq_getElem hlt]; rfl)
    obtain ⟨hk, hT, hlo2⟩ := hf _ (List.getElem_mem hlt)
    have hlo := hok _ (List.getElem_mem hlt)
    have hwc1 := ref_write s.lines[j] hlo F1 _ (hel1.mono hF1)
    have hwc2 := fun G (hG : F1.le G) => ref_write (f s.lines[j]) hlo2 G _ (hel2.mono (PH.le_trans hF1 hG))
    obtain ⟨vj1, hcs1, hi1⟩ := hel1
    obtain ⟨vj2, hcs2, hi2⟩ := hel2
    rw [hcs1] at hca1 hwc1
    rw [hcs2] at hca2 hwc2
    rw [hT] at hwc2
    unfold lineC at hca2 hwc2
    rw [hk] at hca2 hwc2
    have hw1 : IntKind.i64.wrap ((j : Int) + 1) = (j : Int) + 1 := IntWalk.i64_in _ (by omega)
    have f1 := eq_true (show (j : Int) < (s.lines.length : Int) by omega)
    have f3 := eq_true (show (0 : Int) ≤ (j : Int) by omega)
    simp only [push_cast, ↓reduceIte, Nat.reduceEqDiff, Nat.reduceAdd, Nat.reduceMul, Nat.reduceSub, Nat.reduceLT, Nat.reduceLeDiff, reduceCtorEq, Nat.reduceMod, Int.reduceEq, Int.reduceLT, Int.reduceLE, Int.reduceToNat, dite_true, f1, hca1, eq_true hlt]
    refine CallV.pure hwc1 ?_
    rintro _ F2 hF2 rfl
    have hca2' := hF2.cells hca2
    simp only [push_cast, ↓reduceIte, Nat.reduceEqDiff, Nat.reduceAdd, Nat.reduceMul, Nat.reduceSub, Nat.reduceLT, Nat.reduceLeDiff, reduceCtorEq, Nat.reduceMod, Int.reduceEq, Int.reduceLT, Int.reduceLE, Int.reduceToNat, dite_true, f1, hca2', eq_true hlt]
    refine CallV.pure (hwc2 F2 hF2) ?_
    rintro _ F3 hF3 rfl
    have k1 := cell_at (hF3.cells (hF2.cells hca1)) (o := 0) rfl
    have k2 := cell_at (hF3.cells hca2') (o := 0) rfl
    simp only [push_cast, ↓reduceIte, Nat.reduceEqDiff, Nat.reduceAdd, Nat.reduceMul, Nat.reduceSub, Nat.reduceLT, Nat.reduceLeDiff, reduceCtorEq, Nat.reduceMod, Int.reduceEq, Int.reduceLT, Int.reduceLE, Int.reduceToNat, dite_true]
    refine VC.draw (.q 0 (.q 1 (.q 2 (.q 3 (.q 4 (.q 5 (.q 6 (.q 7 (.q 8 (.q 9 (.q 10 (.q 11 (.q 12 (.q 13 (.q 14 (.q 15 (.q 16 (.q 17 (.done))))))))))))))))))) mixed (by rfl) ?_
    rw [add_zero'] at k1 k2
    simp only [push_cast, ↓reduceIte, Nat.reduceEqDiff, Nat.reduceAdd, Nat.reduceMul, Nat.reduceSub, Nat.reduceLT, Nat.reduceLeDiff, reduceCtorEq, Nat.reduceMod, Int.reduceEq, Int.reduceLT, Int.reduceLE, Int.reduceToNat, dite_true, f1, eq_true hlt, add_zero', k1, k2, eq_self, decide_true]
    refine VC.go 100 ?_
    simp only [push_cast, ↓reduceIte, Nat.reduceEqDiff, Nat.reduceAdd, Nat.reduceMul, Nat.reduceSub, Nat.reduceLT, Nat.reduceLeDiff, reduceCtorEq, Nat.reduceMod, Int.reduceEq, Int.reduceLT, Int.reduceLE, Int.reduceToNat, dite_true, hw1]
    exact hG (j + 1, F3) _ ⟨by dsimp only; omega, PH.le_trans (PH.le_trans hF1 hF2) hF3⟩ (by dsimp only; omega) (by simp [subk, Eng.look]) (List.Sublist.refl _) rfl rfl
  · obtain rfl : j = s.lines.length := by omega
    simp only [push_cast, ↓reduceIte, Nat.reduceEqDiff, Nat.reduceAdd, Nat.reduceMul, Nat.reduceSub, Nat.reduceLT, Nat.reduceLeDiff, reduceCtorEq, Nat.reduceMod, Int.reduceEq, Int.reduceLT, Int.reduceLE, Int.reduceToNat, dite_true, eq_false (show ¬ (s.lines.length : Int) < (s.lines.length : Int) by omega)]
    exact RetOk.p rfl rfl
theorem same (s : ScrD) (hok : ∀ l ∈ s.lines, LineOk l) (hlen : s.lines.length ≤ 100000000) (F : PH) (cs1 cs2 : List Value) (h1 : RScr F s cs1) (h2 : RScr F s cs2) : PFn Tryz.prog 10 [.agg cs1.toArray, .agg cs2.toArray] F (fun v _ => v = .bool true) :=
  same_map s id (fun l hl => ⟨rfl, rfl, hok l hl⟩) hok hlen F cs1 cs2 h1 (by unfold mapS; rw [List.map_id]; exact h2)
theorem parseL_len : ∀ (ps : List ByteArray) (i : Nat) (k : Option K6) (t : ByteArray) (ls : List LineD), (parseL ps i k t ls).1.lines.length ≤ ls.length + ps.length
  | [], i, none, t, ls => by simp [parseL, scr0]
  | [], i, some k, t, ls => by simp [parseL, mkScr]
  | s :: r, i, k, t, ls => by
    by_cases h0 : s = ⟨#[]⟩
    · rw [parse_empty h0]; have := parseL_len r (i + 1) k t ls; simp only [List.length_cons]; omega
    cases k with
    | none =>
      obtain ⟨q1, q2⟩ := parse_heap (r := r) (i := i) (t := t) (ls := ls) h0
      cases hk : heapP s with
      | none => rw [q2 hk]; simp [scr0]
      | some kk => rw [q1 kk hk]; have := parseL_len r (i + 1) (some kk) t ls; simp only [List.length_cons]; omega
    | some kk =>
      by_cases hb : ch s 0 = 124
      · rw [parse_bar h0 hb]; have := parseL_len r (i + 1) (some kk) (t ++ s.extract 1 s.size ++ ⟨#[10]⟩) ls; simp only [List.length_cons]; omega
      · obtain ⟨q1, q2⟩ := parse_line (r := r) (i := i) (k := kk) (t := t) (ls := ls) h0 hb
        cases hk : lineOf s with
        | none => rw [q2 hk]; simp [scr0]
        | some x => rw [q1 x hk]; have := parseL_len r (i + 1) (some kk) t (ls ++ [x]); simp only [List.length_cons, List.length_append, List.length_nil] at this ⊢; omega
theorem parse_len {text : ByteArray} (hs : text.size ≤ 60000000) : (parseP text).1.lines.length ≤ 100000000 := by
  unfold parseP
  split
  · exact Nat.zero_le _
  · have h1 := parseL_len (splitP text 10) 0 none ⟨#[]⟩ []
    have h2 := splitP_len text 10
    simp only [List.length_nil] at h1
    omega
theorem RScr.mono {F G : PH} {s : ScrD} {cs : List Value} (h : RScr F s cs) (hl : F.le G) : RScr G s cs := by
  obtain ⟨v, rfl, xs, h1, h2⟩ := h
  exact ⟨v, rfl, xs, h1.mono hl, h2.mono fun l _ c h => h.mono hl⟩
end Go.Proofs.YtmiekonofocboaaGreatDoor.Q

/- Texts there and back: parts, words, numbers (no program in sight). -/
namespace Go.Proofs.YtmiekonofocboaaGreatDoor.Q
open Go Go.Eng Go.Lib Go.Proofs Go.Proofs.YtmiekonofocboaaGreatDoor.T Go.Proofs.YtmiekonofocboaaGreatDoor.K Go.Proofs.YtmiekonofocboaaGreatDoor.X
set_option linter.unusedSimpArgs false
set_option linter.unusedVariables false
set_option linter.unusedSectionVars false
theorem ch_left (p r : ByteArray) {i : Nat} (h : i < p.size) : ch (p ++ r) i = ch p i := by
  have hs : p.size = p.data.size := rfl
  unfold ch
  rw [ByteArray.data_append, Array.getD_eq_getD_getElem?, Array.getD_eq_getD_getElem?, Array.getElem?_append_left (by omega)]
theorem ch_right (p r : ByteArray) (i : Nat) : ch (p ++ r) (p.size + i) = ch r i := by
  have hs : p.size = p.data.size := rfl
  unfold ch
  rw [ByteArray.data_append, Array.getD_eq_getD_getElem?, Array.getD_eq_getD_getElem?, Array.getElem?_append_right (by omega), hs, Nat.add_sub_cancel_left]
/-- No byte c in it. -/
def Free (c : Int) (s : ByteArray) : Prop := ∀ i, i < s.size → ¬ ch s i = c
theorem Free.append {c : Int} {a b : ByteArray} (ha : Free c a) (hb : Free c b) : Free c (a ++ b) := by
  intro i hi
  rw [ByteArray.size_append] at hi
  rcases Nat.lt_or_ge i a.size with h | h
  · rw [ch_left a b h]; exact ha i h
  · obtain ⟨k, rfl⟩ : ∃ k, i = a.size + k := ⟨i - a.size, by omega⟩
    rw [ch_right]; exact hb k (by omega)
theorem Free.nil (c : Int) : Free c ⟨#[]⟩ := fun i hi => absurd hi (Nat.not_lt_zero _)
theorem split_shift (p r : ByteArray) (c : Int) : ∀ n a i, n = r.size - i → splitE (p ++ r) c (p.size + a) (p.size + i) = splitE r c a i
  | n, a, i, hn => by
    rw [splitE_eq (p ++ r), splitE_eq r, ByteArray.size_append]
    rcases Nat.lt_or_ge i r.size with h | h
    · rw [if_pos (by omega), if_pos h, ch_right]
      split
      · rw [ByteArray.extract_append_size_add, Nat.add_assoc, split_shift p r c (r.size - (i + 1)) (i + 1) (i + 1) rfl]
      · rw [Nat.add_assoc, split_shift p r c (r.size - (i + 1)) a (i + 1) rfl]
    · rw [if_neg (by omega), if_neg (by omega), ByteArray.extract_append_size_add]
  termination_by n a i => r.size - i
theorem split_pass (s : ByteArray) (c : Int) (a : Nat) : ∀ n i j, n = j - i → i ≤ j → j ≤ s.size → (∀ k, i ≤ k → k < j → ¬ ch s k = c) → splitE s c a i = splitE s c a j
  | n, i, j, hn, hi, hj, h => by
    rcases Nat.lt_or_ge i j with hlt | hge
    · rw [splitE_eq s c a i, if_pos (by omega), if_neg (h i (Nat.le_refl _) hlt)]
      exact split_pass s c a (j - (i + 1)) (i + 1) j rfl hlt hj fun k h1 h2 => h k (by omega) h2
    · rw [show i = j by omega]
  termination_by n i j => j - i
/-- A text that begins with a part and the byte behind it. -/
theorem split_cons {w : ByteArray} {c : Int} (r : ByteArray) {b : UInt8} (hb : (b.toNat : Int) = c) (hw : Free c w) : splitP (w ++ (⟨#[b]⟩ ++ r)) c = w :: splitP r c := by
  have e1 : ByteArray.size { data := #[b] } = 1 := rfl
  have hsz : (w ++ (⟨#[b]⟩ ++ r) : ByteArray).size = w.size + (1 + r.size) := by rw [ByteArray.size_append, ByteArray.size_append, e1]
  unfold splitP
  rw [split_pass _ c 0 _ 0 w.size rfl (Nat.zero_le _) (by omega) fun k _ h2 => by rw [ch_left _ _ h2]; exact hw k h2]
  rw [splitE_eq, if_pos (by omega)]
  have hc : ch (w ++ (⟨#[b]⟩ ++ r)) w.size = c := by
    have := ch_right w (⟨#[b]⟩ ++ r) 0
    rw [Nat.add_zero] at this
    rw [this]
    have h2 := ch_left ⟨#[b]⟩ r (i := 0) (by rw [e1]; decide)
    rw [h2]
    exact hb
  rw [if_pos hc, show (w ++ (⟨#[b]⟩ ++ r) : ByteArray).extract 0 w.size = w from ByteArray.extract_append_eq_left rfl]
  refine congrArg (List.cons w) ?_
  have := split_shift (w ++ ⟨#[b]⟩) r c _ 0 0 rfl
  rw [ByteArray.size_append, e1, ByteArray.append_assoc] at this
  exact this
theorem split_free {w : ByteArray} {c : Int} (hw : Free c w) : splitP w c = [w] := by
  unfold splitP
  rw [split_pass _ c 0 _ 0 w.size rfl (Nat.zero_le _) (Nat.le_refl _) fun k _ h2 => hw k h2, splitE_eq, if_neg (by omega), ByteArray.extract_zero_size]
theorem Free.extract {c : Int} {s : ByteArray} {a j : Nat} (h : ∀ k, a ≤ k → k < j → ¬ ch s k = c) (hj : j ≤ s.size) : Free c (s.extract a j) := by
  intro i hi
  rw [ByteArray.size_extract] at hi
  rw [ch_extract s (by omega) hj]
  exact h _ (by omega) (by omega)
/-- The parts bear no such byte. -/
theorem splitE_free (s : ByteArray) (c : Int) : ∀ n a i, n = s.size - i → a ≤ i → i ≤ s.size → (∀ k, a ≤ k → k < i → ¬ ch s k = c) → ∀ w ∈ splitE s c a i, Free c w
  | n, a, i, hn, ha, hi, h => by
    rw [splitE_eq]
    intro w hw
    rcases Nat.lt_or_ge i s.size with hlt | hge
    · rw [if_pos hlt] at hw
      split at hw
      · rcases List.mem_cons.1 hw with rfl | hw
        · exact Free.extract h hi
        · exact splitE_free s c (s.size - (i + 1)) (i + 1) (i + 1) rfl (Nat.le_refl _) hlt (fun k h1 h2 => by omega) w hw
      · rename_i hne
        refine splitE_free s c (s.size - (i + 1)) a (i + 1) rfl (by omega) hlt (fun k h1 h2 => ?_) w hw
        rcases Nat.lt_or_ge k i with g | g
        · exact h k h1 g
        · rw [show k = i by omega]; exact hne
    · rw [if_neg (by omega)] at hw
      rw [List.mem_singleton.1 hw]
      exact Free.extract (fun k h1 h2 => h k h1 (by omega)) (Nat.le_refl _)
  termination_by n a i => s.size - i
theorem splitP_free (s : ByteArray) (c : Int) : ∀ w ∈ splitP s c, Free c w := splitE_free s c _ 0 0 rfl (Nat.le_refl _) (Nat.zero_le _) fun k h1 h2 => by omega
/-- Parts, each with a byte 10 behind it. -/
def joinT : List ByteArray → ByteArray
  | [] => ⟨#[]⟩
  | p :: l => p ++ ⟨#[10]⟩ ++ joinT l
theorem joinT_append : ∀ (l m : List ByteArray), joinT (l ++ m) = joinT l ++ joinT m
  | [], m => by rw [List.nil_append, joinT, bnil_app]
  | t :: l, m => by simp only [List.cons_append, joinT, joinT_append l m, ByteArray.append_assoc]
theorem join_split (s : ByteArray) : ∀ n a i, n = s.size - i → a ≤ i → i ≤ s.size → joinT (splitE s 10 a i) = s.extract a s.size ++ ⟨#[10]⟩
  | n, a, i, hn, ha, hi => by
    rw [splitE_eq]
    rcases Nat.lt_or_ge i s.size with hlt | hge
    · rw [if_pos hlt]
      split
      · rename_i hc
        rw [joinT, join_split s (s.size - (i + 1)) (i + 1) (i + 1) rfl (Nat.le_refl _) hlt]
        have e1 : s.extract i (i + 1) = ⟨#[10]⟩ := by
          rw [extract_one s hlt]
          have : (s.data.getD i 0).toNat = 10 := by unfold ch at hc; omega
          rw [show s.data.getD i 0 = (10 : UInt8) from UInt8.toNat_inj.1 this]
        rw [← ByteArray.append_assoc]
        refine congrArg (· ++ (⟨#[10]⟩ : ByteArray)) ?_
        rw [← e1, ByteArray.extract_append_extract, Nat.min_eq_left ha, Nat.max_eq_right (Nat.le_succ i), ByteArray.extract_append_extract, Nat.min_eq_left (by omega), Nat.max_eq_right (by omega)]
      · exact join_split s (s.size - (i + 1)) a (i + 1) rfl (by omega) hlt
    · rw [if_neg (by omega), joinT, joinT, bapp_nil]
  termination_by n a i => s.size - i
/-- The lines of a script's program, joined again. -/
theorem join_prog (s : ScrD) (h : ¬ (¬ s.text = ⟨#[]⟩ ∧ ¬ ch s.text (s.text.size - 1) = 10)) : joinT (progP s) = s.text := by
  unfold progP
  by_cases h0 : s.text = ⟨#[]⟩
  · rw [if_pos h0, h0]; rfl
  · rw [if_neg h0]
    have hpos := bpos h0
    have h10 : ch s.text (s.text.size - 1) = 10 := Classical.byContradiction fun c => h ⟨h0, c⟩
    have e := join_split (s.text.extract 0 (s.text.size - 1)) _ 0 0 rfl (Nat.le_refl _) (Nat.zero_le _)
    unfold splitP
    rw [e, ByteArray.extract_zero_size]
    have e1 : s.text.extract (s.text.size - 1) (s.text.size - 1 + 1) = ⟨#[10]⟩ := by
      rw [extract_one s.text (by omega)]
      have : (s.text.data.getD (s.text.size - 1) 0).toNat = 10 := by unfold ch at h10; omega
      rw [show s.text.data.getD (s.text.size - 1) 0 = (10 : UInt8) from UInt8.toNat_inj.1 this]
    rw [← e1, ByteArray.extract_append_extract]
    rw [show max (s.text.size - 1) (s.text.size - 1 + 1) = s.text.size by omega, Nat.min_eq_left (Nat.zero_le _), ByteArray.extract_zero_size]
/-- Digits there and back. -/
theorem dgt_ch (u : Nat) : ch (dgt u) 0 = 48 + ((u % 10 : Nat) : Int) := by
  have h : (UInt8.ofNat (48 + u % 10)).toNat = 48 + u % 10 := by rw [UInt8.toNat_ofNat']; omega
  show (((UInt8.ofNat (48 + u % 10)).toNat : Nat) : Int) = _
  rw [h]; omega
theorem decE_app (u : Nat) : ∀ acc, decE u acc = decE u ⟨#[]⟩ ++ acc := by
  induction u using Nat.strongRecOn with
  | ind u ih =>
    intro acc
    rw [decE_eq u acc, decE_eq u ⟨#[]⟩, bapp_nil]
    split
    · rfl
    · rw [ih (u / 10) (by omega) (dgt u ++ acc), ih (u / 10) (by omega) (dgt u), ByteArray.append_assoc]
theorem decE_pos (u : Nat) : 0 < (decE u ⟨#[]⟩).size := by
  have e1 : (dgt u).size = 1 := rfl
  rw [decE_eq, bapp_nil]
  split
  · rw [e1]; decide
  · rw [decE_app, ByteArray.size_append]; omega
theorem decE_digit (u : Nat) : ∀ i, i < (decE u ⟨#[]⟩).size → digitB (ch (decE u ⟨#[]⟩) i) = true := by
  induction u using Nat.strongRecOn with
  | ind u ih =>
    intro i hi
    have e1 : (dgt u).size = 1 := rfl
    have hd : ∀ j, j < 1 → digitB (ch (dgt u) j) = true := fun j hj => by
      obtain rfl : j = 0 := by omega
      rw [dgt_ch]; simp only [digitB, Bool.and_eq_true, decide_eq_true_eq]; omega
    rw [decE_eq, bapp_nil] at hi ⊢
    split at hi
    · rename_i h; rw [if_pos h]; exact hd i (by omega)
    · rename_i h
      rw [if_neg h]
      rw [decE_app] at hi ⊢
      rw [ByteArray.size_append] at hi
      rcases Nat.lt_or_ge i (decE (u / 10) ⟨#[]⟩).size with g | g
      · rw [ch_left _ _ g]; exact ih _ (by omega) i g
      · obtain ⟨k, rfl⟩ : ∃ k, i = (decE (u / 10) ⟨#[]⟩).size + k := ⟨i - (decE (u / 10) ⟨#[]⟩).size, by omega⟩
        rw [ch_right]; exact hd k (by omega)
theorem num_dec (u : Nat) : ∀ (p acc : ByteArray), u ≤ 9223372036854775808 → numE (p ++ (decE u ⟨#[]⟩ ++ acc)) p.size 0 = numE (p ++ (decE u ⟨#[]⟩ ++ acc)) (p.size + (decE u ⟨#[]⟩).size) u := by
  induction u using Nat.strongRecOn with
  | ind u ih =>
    intro p acc hu
    have e1 : (dgt u).size = 1 := rfl
    have step : ∀ (q acc : ByteArray) (x : Int), x * 10 + ((u % 10 : Nat) : Int) = u → numE (q ++ (dgt u ++ acc)) q.size x = numE (q ++ (dgt u ++ acc)) (q.size + 1) u := by
      intro q acc x hx
      have hc : ch (q ++ (dgt u ++ acc)) q.size = 48 + ((u % 10 : Nat) : Int) := by
        have := ch_right q (dgt u ++ acc) 0
        rw [Nat.add_zero] at this
        rw [this, ch_left _ _ (by rw [e1]; decide), dgt_ch]
      rw [numE_eq, if_pos (by rw [ByteArray.size_append, ByteArray.size_append, e1]; omega), hc, show x * 10 + (48 + ((u % 10 : Nat) : Int) - 48) = u by omega, if_neg (by omega)]
    by_cases h : u / 10 = 0
    · have ed : decE u ⟨#[]⟩ = dgt u := by rw [decE_eq, if_pos h, bapp_nil]
      rw [ed, e1]
      exact step p acc 0 (by omega)
    · have ed : decE u ⟨#[]⟩ = decE (u / 10) ⟨#[]⟩ ++ dgt u := by rw [decE_eq, if_neg h, bapp_nil, decE_app]
      have hi := ih (u / 10) (by omega) p (dgt u ++ acc) (by omega)
      have hs := step (p ++ decE (u / 10) ⟨#[]⟩) acc ((u / 10 : Nat) : Int) (by omega)
      rw [ed, ByteArray.append_assoc, hi]
      rw [ByteArray.append_assoc, ByteArray.size_append] at hs
      rw [hs, ByteArray.size_append, e1, Nat.add_assoc]
theorem ch0_dec (u : Nat) (acc : ByteArray) : digitB (ch (decE u ⟨#[]⟩ ++ acc) 0) = true := by
  rw [ch_left _ _ (decE_pos u)]; exact decE_digit u 0 (decE_pos u)
theorem digits_back {n : Int} (hn : I64' n) : numberP (digitsP n) = some n := by
  have hsz := digits_size hn
  have hu : n.natAbs ≤ 9223372036854775808 := by unfold I64' at hn; omega
  have hp := decE_pos n.natAbs
  have e45 : ByteArray.size { data := #[45] } = 1 := rfl
  have key : intOf (digitsP n) = some n := by
    unfold digitsP intOf
    by_cases h0 : n < 0
    · have hc : ch (⟨#[45]⟩ ++ decE n.natAbs ⟨#[]⟩) 0 = 45 := by rw [ch_left _ _ (by decide)]; rfl
      rw [if_pos h0, if_pos hc]
      have := num_dec n.natAbs ⟨#[45]⟩ ⟨#[]⟩ hu
      rw [bapp_nil, e45] at this
      rw [this, numE_eq, if_neg (by rw [ByteArray.size_append, e45]; omega)]
      simp only [Option.map_some, Option.some.injEq]
      omega
    · have hd := ch0_dec n.natAbs ⟨#[]⟩
      rw [bapp_nil] at hd
      have hc : ¬ ch (decE n.natAbs ⟨#[]⟩) 0 = 45 := fun e => by rw [e] at hd; exact absurd hd (by decide)
      rw [if_neg h0, if_neg hc]
      have := num_dec n.natAbs ⟨#[]⟩ ⟨#[]⟩ hu
      have ez : ByteArray.size { data := #[] } = 0 := rfl
      rw [bapp_nil, bnil_app, ez, Nat.zero_add] at this
      rw [this, numE_eq, if_neg (by omega)]
      unfold I64' at hn
      have h2 : ((n.natAbs : Nat) : Int) < 9223372036854775808 := by omega
      simp only [if_pos h2, Option.some.injEq]
      omega
  have hv : validW (digitsP n) := by
    unfold digitsP
    by_cases h0 : n < 0
    · rw [if_pos h0]
      refine ⟨fun i hi => ?_, 1, by rw [ByteArray.size_append, e45]; omega, ?_⟩
      · rcases Nat.eq_zero_or_pos i with rfl | hpos
        · refine .inr ⟨?_, rfl⟩
          rw [ch_left _ _ (by decide)]; rfl
        · obtain ⟨k, rfl⟩ : ∃ k, i = 1 + k := ⟨i - 1, by omega⟩
          have := ch_right ⟨#[45]⟩ (decE n.natAbs ⟨#[]⟩) k
          rw [e45] at this
          rw [ByteArray.size_append, e45] at hi
          refine .inl ?_
          rw [this]; exact decE_digit _ k (by omega)
      · have := ch_right ⟨#[45]⟩ (decE n.natAbs ⟨#[]⟩) 0
        rw [e45] at this
        rw [show (1 : Nat) = 1 + 0 from rfl, this]; exact decE_digit _ 0 hp
    · rw [if_neg h0]
      exact ⟨fun i hi => .inl (decE_digit _ i hi), 0, hp, decE_digit _ 0 hp⟩
  unfold numberP
  rw [if_pos ⟨hv, by omega⟩, key]
theorem digits_free {n : Int} {c : Int} (hc : digitB c = false) (h45 : ¬ c = 45) : Free c (digitsP n) := by
  have hd : Free c (decE n.natAbs ⟨#[]⟩) := fun i hi e => by have := decE_digit _ i hi; rw [e, hc] at this; cases this
  unfold digitsP
  split
  · refine Free.append (fun i hi => ?_) hd
    obtain rfl : i = 0 := by have : i < 1 := hi; omega
    exact fun e => h45 (e.symm.trans rfl)
  · exact hd
theorem nums_back : ∀ {l : List Int}, (∀ n ∈ l, I64' n) → numsP (l.map digitsP) = some l
  | [], _ => rfl
  | n :: l, h => by
    simp only [List.map_cons, numsP, digits_back (h n List.mem_cons_self), nums_back fun m hm => h m (List.mem_cons_of_mem _ hm)]
theorem nums_free {c : Int} (hc : digitB c = false) (h45 : ¬ c = 45) (h32 : ¬ c = 32) : ∀ (l : List Int), Free c (numsT l)
  | [] => Free.nil c
  | n :: l => by
    refine Free.append (Free.append (fun i hi => ?_) (digits_free hc h45)) (nums_free hc h45 h32 l)
    obtain rfl : i = 0 := by have : i < 1 := hi; omega
    exact fun e => h32 (e.symm.trans rfl)
/-- Words and numbers with blanks between, parted again. -/
theorem words_back : ∀ (l : List Int) {w : ByteArray}, Free 32 w → splitP (w ++ numsT l) 32 = w :: l.map digitsP
  | [], w, hw => by rw [numsT, bapp_nil, split_free hw]; rfl
  | n :: l, w, hw => by
    have := words_back l (w := digitsP n) (digits_free (by decide) (by decide))
    rw [numsT, ByteArray.append_assoc, split_cons (c := 32) (b := 32) _ rfl hw, this]; rfl
/-- A name's bytes. -/
theorem name_bytes {s : ByteArray} (h : WordP s 1) : ∀ i, i < s.size → wordB (ch s i) = true := by
  obtain ⟨h0, _, _, h1, h2, h3⟩ := h
  have hrun : ∀ n i, n = s.size - i → i ≤ s.size → runE s i = s.size → ∀ k, i ≤ k → k < s.size → wordB (ch s k) = true := by
    intro n
    induction n with
    | zero => intro i hn hi hr k h4 h5; omega
    | succ n ih =>
      intro i hn hi hr k h4 h5
      rw [runE_eq] at hr
      split at hr
      · rename_i hc
        rcases Nat.eq_or_lt_of_le h4 with rfl | g
        · exact hc.2
        · exact ih (i + 1) (by omega) hc.1 hr k g h5
      · omega
  unfold oneP at h1 h2 h3
  by_cases c1 : smallB (ch s 0) = true
  · rw [if_pos c1] at h3
    have h3' : ((runE s 0 : Nat) : Int) = s.size := by split at h3 <;> exact h3
    intro i hi
    exact hrun _ 0 rfl (Nat.zero_le _) (by omega) i (Nat.zero_le _) hi
  rw [if_neg c1] at h1 h2
  by_cases c2 : largeB (ch s 0) = true
  · rw [if_pos c2] at h2; exact absurd (show (2 : Int) = 1 from h2) (by decide)
  rw [if_neg c2] at h1 h2
  by_cases c3 : ch s 0 = 35 ∧ smallB (nxt s 0) = true
  · rw [if_pos c3] at h2; exact absurd (show (3 : Int) = 1 from h2) (by decide)
  rw [if_neg c3] at h1 h2
  by_cases c4 : digitB (ch s 0) = true ∨ (ch s 0 = 45 ∧ digitB (nxt s 0) = true)
  · rw [if_pos c4] at h2
    cases hi : intOf (s.extract 0 (digE s (0 + 1))) with
    | some m => rw [hi] at h2; exact absurd (show (4 : Int) = 1 from h2) (by decide)
    | none => rw [hi] at h2; exact absurd (show (0 : Int) = 1 from h2) (by decide)
  rw [if_neg c4] at h1 h2
  by_cases c5 : ch s 0 = 45 ∧ nxt s 0 = 62
  · rw [if_pos c5] at h2; exact absurd (show (5 : Int) = 1 from h2) (by decide)
  rw [if_neg c5] at h1 h2
  by_cases c6 : signB (s.extract 0 (0 + 1)) = true
  · rw [if_pos c6] at h2; exact absurd (show (5 : Int) = 1 from h2) (by decide)
  · rw [if_neg c6] at h1; exact absurd (show (20 : Int) = 0 from h1) (by decide)
theorem name_free {s : ByteArray} {c : Int} (h : WordP s 1) (hc : wordB c = false) : Free c s := fun i hi e => by
  have := name_bytes h i hi
  rw [e, hc] at this; cases this
end Go.Proofs.YtmiekonofocboaaGreatDoor.Q

/- Scripts there and back (no program in sight). -/
namespace Go.Proofs.YtmiekonofocboaaGreatDoor.Q
open Go Go.Eng Go.Lib Go.Proofs Go.Proofs.YtmiekonofocboaaGreatDoor.T Go.Proofs.YtmiekonofocboaaGreatDoor.K Go.Proofs.YtmiekonofocboaaGreatDoor.X
set_option linter.unusedSimpArgs false
set_option linter.unusedVariables false
set_option linter.unusedSectionVars false
/-- A line, of which nothing is kept but what its kind names. -/
def normL (l : LineD) : LineD :=
  if l.kind = 1 then ⟨1, 0, l.name, l.nums, 0, 0, 0, 0⟩
  else if l.kind = 2 then ⟨2, l.n, ⟨#[]⟩, [], l.depth, l.fuel, 0, 0⟩
  else if l.kind = 3 then ⟨3, 0, ⟨#[]⟩, [], 0, 0, l.at_, l.gen⟩
  else if l.kind = 4 then ⟨4, l.n, ⟨#[]⟩, [], 0, 0, 0, 0⟩
  else if l.kind = 5 then ⟨5, l.n, ⟨#[]⟩, [], 0, 0, 0, 0⟩
  else ⟨6, 0, ⟨#[]⟩, [], 0, 0, 0, 0⟩
theorem lineT_kind {l : LineD} (h : (lineT l).2 = true) : (l.kind = 1 ∧ WordP l.name 1) ∨ l.kind = 2 ∨ l.kind = 3 ∨ l.kind = 4 ∨ l.kind = 5 ∨ l.kind = 6 := by
  unfold lineT at h
  split at h
  · rename_i c; exact .inl ⟨c, of_decide_eq_true h⟩
  split at h
  · rename_i c; exact .inr (.inl c)
  split at h
  · rename_i c; exact .inr (.inr (.inl c))
  split at h
  · rename_i c; exact .inr (.inr (.inr (.inl c)))
  split at h
  · rename_i c; exact .inr (.inr (.inr (.inr (.inl c))))
  split at h
  · rename_i c; exact .inr (.inr (.inr (.inr (.inr c))))
  · cases h
theorem normL_same (l : LineD) (h : (lineT l).2 = true) : (normL l).kind = l.kind ∧ lineT (normL l) = lineT l := by
  obtain ⟨k, n, name, nums, depth, fuel, at_, gen⟩ := l
  rcases lineT_kind h with ⟨c, _⟩ | c | c | c | c | c <;> (dsimp only at c; subst c; exact ⟨rfl, rfl⟩)
/-- A line's words, without the byte 10 behind them. -/
def lineB (l : LineD) : ByteArray :=
  if l.kind = 1 then ⟨#[109, 97, 107, 101, 32]⟩ ++ l.name ++ numsT l.nums
  else if l.kind = 2 then showW ++ numsT [l.n, l.depth, l.fuel]
  else if l.kind = 3 then atW ++ numsT [l.at_, l.gen]
  else if l.kind = 4 then dropW ++ numsT [l.n]
  else if l.kind = 5 then collectW ++ numsT [l.n]
  else outW ++ numsT []
theorem lineT_B (l : LineD) (h : (lineT l).2 = true) : (lineT l).1 = lineB l ++ ⟨#[10]⟩ := by
  obtain ⟨k, n, name, nums, depth, fuel, at_, gen⟩ := l
  rcases lineT_kind h with ⟨c, _⟩ | c | c | c | c | c <;> (dsimp only at c; subst c; rfl)
theorem lit_free {s : ByteArray} {c : Int} (h : (List.range s.size).all (fun i => decide (¬ ch s i = c)) = true) : Free c s := fun i hi => by
  have := List.all_eq_true.1 h i (List.mem_range.2 hi)
  exact of_decide_eq_true this
theorem free_app {c : Int} {w : ByteArray} (l : List Int) (hw : Free c w) (hc : digitB c = false) (h45 : ¬ c = 45) (h32 : ¬ c = 32) : Free c (w ++ numsT l) := hw.append (nums_free hc h45 h32 l)
theorem lineB_free {l : LineD} (h : (lineT l).2 = true) : Free 10 (lineB l) := by
  obtain ⟨k, n, name, nums, depth, fuel, at_, gen⟩ := l
  rcases lineT_kind h with ⟨c, hw⟩ | c | c | c | c | c <;> (dsimp only at c; subst c)
  · exact free_app _ (Free.append (lit_free (by decide)) (name_free hw (by decide))) (by decide) (by decide) (by decide)
  all_goals exact free_app _ (lit_free (by decide)) (by decide) (by decide) (by decide)
theorem lineB_first {l : LineD} (h : (lineT l).2 = true) : ¬ lineB l = ⟨#[]⟩ ∧ ¬ ch (lineB l) 0 = 124 := by
  have key : ∀ (w r : ByteArray), 0 < w.size → ¬ ch w 0 = 124 → ¬ (w ++ r) = ⟨#[]⟩ ∧ ¬ ch (w ++ r) 0 = 124 := fun w r hw hc => by
    refine ⟨fun e => ?_, by rw [ch_left _ _ hw]; exact hc⟩
    have := congrArg ByteArray.size e
    rw [ByteArray.size_append] at this
    have ez : ByteArray.size { data := #[] } = 0 := rfl
    omega
  obtain ⟨k, n, name, nums, depth, fuel, at_, gen⟩ := l
  rcases lineT_kind h with ⟨c, hw⟩ | c | c | c | c | c <;> (dsimp only at c; subst c)
  · have := key ⟨#[109, 97, 107, 101, 32]⟩ (name ++ numsT nums) (by decide) (by decide)
    rw [← ByteArray.append_assoc] at this
    exact this
  all_goals exact key _ _ (by decide) (by decide)
theorem line_back {l : LineD} (hl : LineOk l) (h : (lineT l).2 = true) : lineOf (lineB l) = some (normL l) := by
  obtain ⟨k, n, name, nums, depth, fuel, at_, gen⟩ := l
  rcases lineT_kind h with ⟨c, hw⟩ | c | c | c | c | c <;> (dsimp only at c; subst c)
  · have e : lineB ⟨1, n, name, nums, depth, fuel, at_, gen⟩ = makeW ++ (⟨#[32]⟩ ++ (name ++ numsT nums)) := by
      show (⟨#[109, 97, 107, 101, 32]⟩ : ByteArray) ++ name ++ numsT nums = _
      rw [show (⟨#[109, 97, 107, 101, 32]⟩ : ByteArray) = makeW ++ ⟨#[32]⟩ from rfl]
      simp only [ByteArray.append_assoc]
    have hs := split_cons (w := makeW) (c := 32) (b := 32) (name ++ numsT nums) rfl (lit_free (by decide))
    rw [words_back nums (name_free hw (by decide))] at hs
    rw [e, line_make hs rfl]
    show (if WordP name 1 then (numsP (nums.map digitsP)).map (fun ns => (⟨1, 0, name, ns, 0, 0, 0, 0⟩ : LineD)) else none) = _
    rw [if_pos hw, nums_back hl.nums]
    rfl
  · have hs := words_back [n, depth, fuel] (w := showW) (lit_free (by decide))
    rw [show lineB ⟨2, n, name, nums, depth, fuel, at_, gen⟩ = showW ++ numsT [n, depth, fuel] from rfl, line_not hs (by decide), nums_back (by simp; exact ⟨hl.n, hl.depth, hl.fuel⟩)]
    rfl
  · have hs := words_back [at_, gen] (w := atW) (lit_free (by decide))
    rw [show lineB ⟨3, n, name, nums, depth, fuel, at_, gen⟩ = atW ++ numsT [at_, gen] from rfl, line_not hs (by decide), nums_back (by simp; exact ⟨hl.at_, hl.gen⟩)]
    rfl
  · have hs := words_back [n] (w := dropW) (lit_free (by decide))
    rw [show lineB ⟨4, n, name, nums, depth, fuel, at_, gen⟩ = dropW ++ numsT [n] from rfl, line_not hs (by decide), nums_back (by simp; exact hl.n)]
    rfl
  · have hs := words_back [n] (w := collectW) (lit_free (by decide))
    rw [show lineB ⟨5, n, name, nums, depth, fuel, at_, gen⟩ = collectW ++ numsT [n] from rfl, line_not hs (by decide), nums_back (by simp; exact hl.n)]
    rfl
  · have hs := words_back [] (w := outW) (lit_free (by decide))
    rw [show lineB ⟨6, n, name, nums, depth, fuel, at_, gen⟩ = outW ++ numsT [] from rfl, line_not hs (by decide)]
    rfl
def keyS (s : ScrD) : K6 := (s.gens, s.steps, s.blocks, s.nursery, s.hops, s.words)
def headB (s : ScrD) : ByteArray := heapW ++ numsT [s.gens, s.steps, s.blocks, s.nursery, s.hops, s.words]
theorem heap_back {s : ScrD} (h : ScrOk s) : heapP (headB s) = some (keyS s) := by
  have hs := words_back [s.gens, s.steps, s.blocks, s.nursery, s.hops, s.words] (w := heapW) (lit_free (by decide))
  unfold heapP headB
  rw [hs]
  dsimp only
  rw [if_pos rfl, nums_back (by simp; exact ⟨h.gens, h.steps, h.blocks, h.nursery, h.hops, h.words⟩)]
  rfl
/-- The lines of what is written. -/
theorem split_parts : ∀ (ps : List ByteArray) (r : ByteArray), (∀ p ∈ ps, Free 10 p) → splitP (partsT ps ++ r) 10 = ps.map ((⟨#[124]⟩ : ByteArray) ++ ·) ++ splitP r 10
  | [], r, h => by rw [partsT, bnil_app]; rfl
  | p :: ps, r, h => by
    have e : partsT (p :: ps) ++ r = (⟨#[124]⟩ ++ p) ++ (⟨#[10]⟩ ++ (partsT ps ++ r)) := by simp only [partsT, ByteArray.append_assoc]
    rw [e, split_cons (c := 10) (b := 10) _ rfl (Free.append (lit_free (by decide)) (h p List.mem_cons_self)), split_parts ps r fun q hq => h q (List.mem_cons_of_mem _ hq)]
    rfl
theorem split_lines : ∀ (ls : List LineD), (∀ l ∈ ls, (lineT l).2 = true) → splitP (linesT ls) 10 = ls.map lineB ++ [⟨#[]⟩]
  | [], h => by rw [linesT, split_free (Free.nil 10)]; rfl
  | l :: ls, h => by
    rw [linesT, lineT_B l (h l List.mem_cons_self), ByteArray.append_assoc, split_cons (c := 10) (b := 10) _ rfl (lineB_free (h l List.mem_cons_self)), split_lines ls fun q hq => h q (List.mem_cons_of_mem _ hq)]
    rfl
theorem parse_parts (k : K6) (r : List ByteArray) (ls : List LineD) : ∀ (ps : List ByteArray) (i : Nat) (t : ByteArray), parseL (ps.map ((⟨#[124]⟩ : ByteArray) ++ ·) ++ r) i (some k) t ls = parseL r (i + ps.length) (some k) (t ++ joinT ps) ls
  | [], i, t => by rw [joinT, bapp_nil]; rfl
  | p :: ps, i, t => by
    have e1 : ByteArray.size { data := #[124] } = 1 := rfl
    have h0 : ¬ (⟨#[124]⟩ : ByteArray) ++ p = ⟨#[]⟩ := fun e => by
      have := congrArg ByteArray.size e
      rw [ByteArray.size_append] at this
      have ez : ByteArray.size { data := #[] } = 0 := rfl
      omega
    have hb : ch ((⟨#[124]⟩ : ByteArray) ++ p) 0 = 124 := by rw [ch_left _ _ (by decide)]; rfl
    have hx : ((⟨#[124]⟩ : ByteArray) ++ p).extract 1 ((⟨#[124]⟩ : ByteArray) ++ p).size = p := by
      rw [ByteArray.size_append, e1]
      exact ByteArray.extract_append_eq_right rfl rfl
    rw [List.map_cons, List.cons_append, parse_bar h0 hb, hx, parse_parts k r ls ps (i + 1), joinT]
    rw [List.length_cons, show i + 1 + ps.length = i + (ps.length + 1) by omega]
    simp only [ByteArray.append_assoc]
theorem parse_lines (k : K6) (t : ByteArray) : ∀ (ls : List LineD) (i : Nat) (acc : List LineD), (∀ l ∈ ls, LineOk l ∧ (lineT l).2 = true) → parseL (ls.map lineB ++ [⟨#[]⟩]) i (some k) t acc = (mkScr k t (acc ++ ls.map normL), 0, 0)
  | [], i, acc, h => by
    show parseL [⟨#[]⟩] i (some k) t acc = _
    rw [parse_empty rfl]
    simp only [parseL, List.map_nil, List.append_nil]
  | l :: ls, i, acc, h => by
    obtain ⟨h1, h2⟩ := h l List.mem_cons_self
    obtain ⟨f1, f2⟩ := lineB_first h2
    rw [List.map_cons, List.cons_append, (parse_line f1 f2).1 _ (line_back h1 h2), parse_lines k t ls _ _ fun q hq => h q (List.mem_cons_of_mem _ hq)]
    simp only [List.map_cons, List.append_assoc, List.cons_append, List.nil_append]
def normS (s : ScrD) : ScrD := { s with lines := s.lines.map normL }
theorem write_ok {s : ScrD} (h : (writeT s).2 = 0) : ¬ (¬ s.text = ⟨#[]⟩ ∧ ¬ ch s.text (s.text.size - 1) = 10) ∧ (∀ l ∈ s.lines, (lineT l).2 = true) ∧ 2 + (progP s).length + s.lines.length ≤ 2048 ∧ (writeT s).1 = headT s ++ partsT (progP s) ++ linesT s.lines := by
  unfold writeT at h ⊢
  split at h
  · exact absurd (show (2 : Int) = 0 from h) (by decide)
  rename_i c1
  split at h
  · exact absurd (show (2 : Int) = 0 from h) (by decide)
  rename_i c2
  split at h
  · exact absurd (show (3 : Int) = 0 from h) (by decide)
  rename_i c3
  refine ⟨c1, fun l hl => ?_, by omega, ?_⟩
  · have : (s.lines.all fun l => (lineT l).2) = true := by simpa using c2
    exact List.all_eq_true.1 this l hl
  · rw [if_neg c1, if_neg c2, if_neg c3]
theorem progP_free (s : ScrD) : ∀ p ∈ progP s, Free 10 p := by
  unfold progP
  split
  · intro p h; cases h
  · exact splitP_free _ 10
/-- What is written is read as itself. -/
theorem back {s : ScrD} (hs : ScrOk s) (h : (writeT s).2 = 0) : parseP (writeT s).1 = (normS s, 0, 0) := by
  obtain ⟨h1, h2, h3, h4⟩ := write_ok h
  have hh : headT s = headB s ++ ⟨#[10]⟩ := rfl
  have hf : Free 10 (headB s) := free_app _ (lit_free (by decide)) (by decide) (by decide) (by decide)
  have hsp : splitP (writeT s).1 10 = headB s :: ((progP s).map ((⟨#[124]⟩ : ByteArray) ++ ·) ++ (s.lines.map lineB ++ [⟨#[]⟩])) := by
    rw [h4, hh, ByteArray.append_assoc, ByteArray.append_assoc, split_cons (c := 10) (b := 10) _ rfl hf, split_parts _ _ (progP_free s), split_lines _ h2]
  unfold parseP
  rw [hsp, if_neg (by simp only [List.length_cons, List.length_append, List.length_map, List.length_nil]; omega)]
  have h0 : ¬ headB s = ⟨#[]⟩ := fun e => by
    have := congrArg ByteArray.size e
    unfold headB at this
    rw [ByteArray.size_append] at this
    have e1 : heapW.size = 4 := rfl
    have ez : ByteArray.size { data := #[] } = 0 := rfl
    omega
  rw [(parse_heap h0).1 _ (heap_back hs), parse_parts, parse_lines _ _ _ _ _ fun l hl => ⟨hs.lines l hl, h2 l hl⟩, bnil_app, join_prog s h1]
  rfl
/-- A script that was read: its lines are right, and nothing is in them but what their kinds name. -/
structure Read (s : ScrD) : Prop where
  lines : ∀ l ∈ s.lines, (lineT l).2 = true ∧ normL l = l
  text : ∃ ps, s.text = joinT ps
theorem joinT_end : ∀ (ps : List ByteArray), ¬ (¬ joinT ps = ⟨#[]⟩ ∧ ¬ ch (joinT ps) ((joinT ps).size - 1) = 10)
  | [] => fun h => h.1 rfl
  | p :: ps => fun h => by
    have e1 : ByteArray.size { data := #[10] } = 1 := rfl
    by_cases h0 : joinT ps = ⟨#[]⟩
    · have e : joinT (p :: ps) = p ++ ⟨#[10]⟩ := by rw [joinT, h0, bapp_nil]
      rw [e] at h
      refine h.2 ?_
      rw [ByteArray.size_append, e1, show p.size + 1 - 1 = p.size + 0 by omega, ch_right]; rfl
    · have hp := bpos h0
      refine joinT_end ps ⟨h0, fun e => h.2 ?_⟩
      rw [joinT, show (p ++ ⟨#[10]⟩ ++ joinT ps : ByteArray).size - 1 = (p ++ ⟨#[10]⟩ : ByteArray).size + ((joinT ps).size - 1) by rw [ByteArray.size_append]; omega, ch_right]
      exact e
theorem lineN_read {w0 : ByteArray} {ns : List Int} {l : LineD} (h : lineN w0 ns = some l) : (lineT l).2 = true ∧ normL l = l := by
  unfold lineN at h
  split at h
  · unfold showN at h
    split at h
    · cases h; exact ⟨rfl, rfl⟩
    · cases h
  split at h
  · unfold atN at h
    split at h
    · cases h; exact ⟨rfl, rfl⟩
    · cases h
  split at h
  · unfold dropN at h
    split at h
    · cases h; exact ⟨rfl, rfl⟩
    · cases h
  split at h
  · unfold collectN at h
    split at h
    · cases h; exact ⟨rfl, rfl⟩
    · cases h
  split at h
  · unfold outN at h
    split at h
    · cases h; exact ⟨rfl, rfl⟩
    · cases h
  · cases h
theorem lineOf_read {s : ByteArray} {l : LineD} (h : lineOf s = some l) : (lineT l).2 = true ∧ normL l = l := by
  obtain ⟨w0, r, hwr⟩ := split_ne s 32
  by_cases h0 : w0 = makeW
  · rw [line_make hwr h0] at h
    cases r with
    | nil => exact absurd (show (none : Option LineD) = some l from h) (by simp)
    | cons nm r2 =>
      have h : (if WordP nm 1 then (numsP r2).map (fun ns => (⟨1, 0, nm, ns, 0, 0, 0, 0⟩ : LineD)) else none) = some l := h
      split at h
      · rename_i hw
        cases hq : numsP r2 with
        | none => rw [hq] at h; cases h
        | some ns => rw [hq] at h; cases h; exact ⟨decide_eq_true hw, rfl⟩
      · cases h
  · rw [line_not hwr h0] at h
    cases hq : numsP r with
    | none => rw [hq] at h; cases h
    | some ns => rw [hq] at h; exact lineN_read h
theorem lineN_size {w0 : ByteArray} {ns : List Int} {l : LineD} (h : lineN w0 ns = some l) : l.size = 8 := by
  unfold lineN at h
  split at h
  · unfold showN at h
    split at h
    · cases h; rfl
    · cases h
  split at h
  · unfold atN at h
    split at h
    · cases h; rfl
    · cases h
  split at h
  · unfold dropN at h
    split at h
    · cases h; rfl
    · cases h
  split at h
  · unfold collectN at h
    split at h
    · cases h; rfl
    · cases h
  split at h
  · unfold outN at h
    split at h
    · cases h; rfl
    · cases h
  · cases h
theorem splitF_sumlen (s : ByteArray) (c : Int) : ∀ n a i, a ≤ i → i ≤ s.size → sumOf ByteArray.size (splitF s c n a i) + (splitF s c n a i).length ≤ s.size - a + 1
  | 0, a, i, h1, h2 => by simp only [splitF, sumOf, ByteArray.size_extract, List.length_cons, List.length_nil]; omega
  | n + 1, a, i, h1, h2 => by
    simp only [splitF]
    split
    · split
      · have := splitF_sumlen s c n (i + 1) (i + 1) (Nat.le_refl _) (by omega)
        simp only [sumOf, ByteArray.size_extract, List.length_cons]; omega
      · exact splitF_sumlen s c n a (i + 1) (by omega) (by omega)
    · simp only [sumOf, ByteArray.size_extract, List.length_cons, List.length_nil]; omega
theorem splitP_sumlen (s : ByteArray) (c : Int) : sumOf ByteArray.size (splitP s c) + (splitP s c).length ≤ s.size + 1 := splitF_sumlen s c _ 0 0 (Nat.le_refl _) (Nat.zero_le _)
theorem lineOf_size {s : ByteArray} {l : LineD} (h : lineOf s = some l) : l.size ≤ s.size + 9 := by
  obtain ⟨w0, r, hwr⟩ := split_ne s 32
  have hlen := splitP_sumlen s 32
  rw [hwr] at hlen
  simp only [sumOf, List.length_cons] at hlen
  by_cases h0 : w0 = makeW
  · rw [line_make hwr h0] at h
    cases r with
    | nil => exact absurd (show (none : Option LineD) = some l from h) (by simp)
    | cons nm r2 =>
      have h : (if WordP nm 1 then (numsP r2).map (fun ns => (⟨1, 0, nm, ns, 0, 0, 0, 0⟩ : LineD)) else none) = some l := h
      simp only [sumOf, List.length_cons] at hlen
      split at h
      · cases hq : numsP r2 with
        | none => rw [hq] at h; cases h
        | some ns =>
          rw [hq] at h; cases h
          have := numsP_len hq
          show nm.size + ns.length + 8 ≤ _
          omega
      · cases h
  · rw [line_not hwr h0] at h
    cases hq : numsP r with
    | none => rw [hq] at h; cases h
    | some ns => rw [hq] at h; have := lineN_size h; omega
theorem parseL_read : ∀ (ps : List ByteArray) (i : Nat) (k : Option K6) (t : ByteArray) (ls : List LineD), (∃ qs, t = joinT qs) → (∀ l ∈ ls, (lineT l).2 = true ∧ normL l = l) → Read (parseL ps i k t ls).1 ∧ (parseL ps i k t ls).1.text.size ≤ t.size + (sumOf ByteArray.size ps + ps.length) ∧ sumOf LineD.size (parseL ps i k t ls).1.lines ≤ sumOf LineD.size ls + (sumOf ByteArray.size ps + 9 * ps.length)
  | [], i, none, t, ls, ht, hl => by simp only [parseL]; exact ⟨⟨(fun _ h => nomatch h), [], rfl⟩, Nat.zero_le _, Nat.zero_le _⟩
  | [], i, some k, t, ls, ht, hl => by simp only [parseL]; exact ⟨⟨hl, ht⟩, Nat.le_add_right _ _, Nat.le_add_right _ _⟩
  | s :: r, i, k, t, ls, ht, hl => by
    simp only [sumOf, List.length_cons]
    have hz : Read scr0 ∧ scr0.text.size ≤ t.size + (s.size + sumOf ByteArray.size r + (r.length + 1)) ∧ sumOf LineD.size scr0.lines ≤ sumOf LineD.size ls + (s.size + sumOf ByteArray.size r + 9 * (r.length + 1)) := ⟨⟨(fun _ h => nomatch h), [], rfl⟩, Nat.zero_le _, Nat.zero_le _⟩
    by_cases h0 : s = ⟨#[]⟩
    · rw [parse_empty h0]
      obtain ⟨g1, g2, g3⟩ := parseL_read r (i + 1) k t ls ht hl
      exact ⟨g1, by omega, by omega⟩
    cases k with
    | none =>
      obtain ⟨q1, q2⟩ := parse_heap (r := r) (i := i) (t := t) (ls := ls) h0
      cases hk : heapP s with
      | none => rw [q2 hk]; exact hz
      | some kk =>
        rw [q1 kk hk]
        obtain ⟨g1, g2, g3⟩ := parseL_read r (i + 1) (some kk) t ls ht hl
        exact ⟨g1, by omega, by omega⟩
    | some kk =>
      by_cases hb : ch s 0 = 124
      · rw [parse_bar h0 hb]
        have e1 : ByteArray.size { data := #[10] } = 1 := rfl
        obtain ⟨qs, hq⟩ := ht
        obtain ⟨g1, g2, g3⟩ := parseL_read r (i + 1) (some kk) (t ++ s.extract 1 s.size ++ ⟨#[10]⟩) ls ⟨qs ++ [s.extract 1 s.size], by rw [joinT_append, hq, joinT, joinT, bapp_nil, ByteArray.append_assoc]⟩ hl
        rw [ByteArray.size_append, ByteArray.size_append, ByteArray.size_extract, e1] at g2
        exact ⟨g1, by omega, by omega⟩
      · obtain ⟨q1, q2⟩ := parse_line (r := r) (i := i) (k := kk) (t := t) (ls := ls) h0 hb
        cases hk : lineOf s with
        | none => rw [q2 hk]; exact hz
        | some x =>
          rw [q1 x hk]
          obtain ⟨g1, g2, g3⟩ := parseL_read r (i + 1) (some kk) t (ls ++ [x]) ht fun l hlm => by
            rcases List.mem_append.1 hlm with g | g
            · exact hl l g
            · rw [List.mem_singleton.1 g]; exact lineOf_read hk
          have hx := lineOf_size hk
          rw [sumOf_append] at g3
          simp only [sumOf] at g3
          exact ⟨g1, by omega, by omega⟩
theorem parse_read (text : ByteArray) : Read (parseP text).1 ∧ (parseP text).1.text.size ≤ text.size + 1 ∧ sumOf LineD.size (parseP text).1.lines ≤ text.size + 20000 := by
  unfold parseP
  split
  · exact ⟨⟨(fun _ h => nomatch h), [], rfl⟩, Nat.zero_le _, Nat.zero_le _⟩
  · rename_i hm
    obtain ⟨g1, g2, g3⟩ := parseL_read (splitP text 10) 0 none ⟨#[]⟩ [] ⟨[], rfl⟩ (fun _ h => nomatch h)
    have h1 := splitP_sumlen text 10
    have ez : ByteArray.size { data := #[] } = 0 := rfl
    simp only [sumOf] at g3
    rw [ez] at g2
    exact ⟨g1, by omega, by omega⟩
def K6Ok (k : K6) : Prop := I64' k.1 ∧ I64' k.2.1 ∧ I64' k.2.2.1 ∧ I64' k.2.2.2.1 ∧ I64' k.2.2.2.2.1 ∧ I64' k.2.2.2.2.2
theorem heapP_range {s : ByteArray} {k : K6} (h : heapP s = some k) : K6Ok k := by
  obtain ⟨w0, r, hwr⟩ := split_ne s 32
  unfold heapP at h
  rw [hwr] at h
  dsimp only at h
  split at h
  · split at h
    · rename_i a b c d e f hq
      cases h
      have hn := numsP_range hq
      exact ⟨hn _ (by simp), hn _ (by simp), hn _ (by simp), hn _ (by simp), hn _ (by simp), hn _ (by simp)⟩
    · cases h
  · cases h
theorem parseL_conf : ∀ (ps : List ByteArray) (i : Nat) (k : Option K6) (t : ByteArray) (ls : List LineD), (∀ k', k = some k' → K6Ok k') → K6Ok (keyS (parseL ps i k t ls).1)
  | [], i, none, t, ls, hk => ⟨z64, z64, z64, z64, z64, z64⟩
  | [], i, some k, t, ls, hk => hk k rfl
  | s :: r, i, k, t, ls, hk => by
    have hz : K6Ok (keyS scr0) := ⟨z64, z64, z64, z64, z64, z64⟩
    by_cases h0 : s = ⟨#[]⟩
    · rw [parse_empty h0]; exact parseL_conf r _ _ _ _ hk
    cases k with
    | none =>
      obtain ⟨q1, q2⟩ := parse_heap (r := r) (i := i) (t := t) (ls := ls) h0
      cases hq : heapP s with
      | none => rw [q2 hq]; exact hz
      | some kk => rw [q1 kk hq]; exact parseL_conf r _ _ _ _ fun k' e => by cases e; exact heapP_range hq
    | some kk =>
      by_cases hb : ch s 0 = 124
      · rw [parse_bar h0 hb]; exact parseL_conf r _ _ _ _ hk
      · obtain ⟨q1, q2⟩ := parse_line (r := r) (i := i) (k := kk) (t := t) (ls := ls) h0 hb
        cases hq : lineOf s with
        | none => rw [q2 hq]; exact hz
        | some x => rw [q1 x hq]; exact parseL_conf r _ _ _ _ hk
theorem parse_scr {text : ByteArray} (ht : text.size ≤ 1048576) : ScrOk (parseP text).1 := by
  have hc : K6Ok (keyS (parseP text).1) := by
    unfold parseP
    split
    · exact ⟨z64, z64, z64, z64, z64, z64⟩
    · exact parseL_conf _ _ _ _ _ fun k' e => by cases e
  obtain ⟨h1, h2, h3, h4, h5, h6⟩ := hc
  obtain ⟨_, g1, g2⟩ := parse_read text
  exact ⟨h1, h2, h3, h4, h5, h6, by omega, parse_ok (by omega), by omega⟩
theorem writeT_size {s : ScrD} (h : ScrOk s) : (writeT s).1.size ≤ 60000000 := by
  have h1 := headT_size s h
  have h2 := linesT_size s.lines h.lines
  have h3 := progP_len s h
  have h4 := partsT_size (progP s)
  have h5 := h.sum
  have ez : ByteArray.size { data := #[] } = 0 := rfl
  unfold writeT
  split
  · dsimp only; omega
  split
  · dsimp only; omega
  split
  · dsimp only; omega
  · simp only [ByteArray.size_append]; omega
theorem Read.norm {s : ScrD} (h : Read s) : normS s = s := by
  have : s.lines.map normL = s.lines := by
    conv => rhs; rw [← List.map_id s.lines]
    exact List.map_congr_left fun l hl => (h.lines l hl).2
  unfold normS
  rw [this]
theorem Read.writes {s : ScrD} (h : Read s) : (writeT s).2 = 0 ∨ (writeT s).2 = 3 := by
  obtain ⟨ps, hp⟩ := h.text
  unfold writeT
  rw [if_neg (by rw [hp]; exact joinT_end ps), if_neg (by rw [Bool.not_eq_false]; exact List.all_eq_true.2 fun l hl => (h.lines l hl).1)]
  split
  · exact .inr rfl
  · exact .inl rfl
end Go.Proofs.YtmiekonofocboaaGreatDoor.Q
