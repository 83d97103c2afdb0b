/- The lexer of the definition, as a function of the text: one token. (Written by gen/b4.py.) -/
import Derived.Test.YtoepmdbicdoieaaDoorB3
namespace Go.Proofs.YtoepmdbicdoieaaDoor.X
open Go Go.Eng Go.Proofs Go.Proofs.YtoepmdbicdoieaaDoor.T Go.Proofs.YtoepmdbicdoieaaDoor.K
set_option linter.unusedSimpArgs false
set_option linter.unusedVariables false
set_option maxRecDepth 100000
set_option maxHeartbeats 4000000
structure Tok where
  k : Int
  tx : ByteArray
  n : Int
  at_ : Int
abbrev tokC (t : Tok) : List Value := [.int .i64 t.k, .string t.tx, .int .i64 t.n, .int .i64 t.at_]
def RTok (t : Tok) (cs : List Value) : Prop := cs = tokC t
abbrev Toks (F : PH) (v : Value) (l : List Tok) : Prop := SlE F 4 RTok v l
abbrev tok0 : Tok := ⟨0, ⟨#[]⟩, 0, 0⟩
def nxt (s : ByteArray) (a : Nat) : Int := if a + 1 < s.size then ch s (a + 1) else 0
abbrev arrow : ByteArray := ⟨#[45, 62]⟩
/-- The token that begins at a place, and the place behind it. -/
def oneP (s : ByteArray) (a : Nat) : Tok × Int × Int :=
  if smallB (ch s a) = true then (if reservedB (s.extract a (runE s a)) = true then (⟨6, s.extract a (runE s a), 0, a⟩, runE s a, 0) else (⟨1, s.extract a (runE s a), 0, a⟩, runE s a, 0))
  else if largeB (ch s a) = true then (⟨2, s.extract a (runE s a), 0, a⟩, runE s a, 0)
  else if ch s a = 35 ∧ smallB (nxt s a) = true then (⟨3, s.extract a (runE s (a + 1)), 0, a⟩, runE s (a + 1), 0)
  else if digitB (ch s a) = true ∨ (ch s a = 45 ∧ digitB (nxt s a) = true) then
    match intOf (s.extract a (digE s (a + 1))) with
    | some m => (⟨4, ⟨#[]⟩, m, a⟩, digE s (a + 1), 0)
    | none => (tok0, 0, 22)
  else if ch s a = 45 ∧ nxt s a = 62 then (⟨5, arrow, 0, a⟩, a + 2, 0)
  else if signB (s.extract a (a + 1)) = true then (⟨5, s.extract a (a + 1), 0, a⟩, a + 1, 0)
  else (tok0, 0, 20)
abbrev oneV (r : Tok × Int × Int) : Value := .tuple #[.agg (tokC r.1).toArray, .int .i64 r.2.1, .int .i64 r.2.2]
theorem int_pre {s : ByteArray} {a : Nat} (ha : a < s.size) (hc : digitB (ch s a) = true ∨ ch s a = 45) : ∀ i, i < (s.extract a (digE s (a + 1))).size → (0 < i ∨ ¬ ch (s.extract a (digE s (a + 1))) 0 = 45) → digitB (ch (s.extract a (digE s (a + 1))) i) = true := by
  obtain ⟨h1, h2, h3⟩ := digE_le s (i := a + 1) ha
  intro i hi h
  rw [ByteArray.size_extract] at hi
  rw [ch_extract s (by omega) h2] at h ⊢
  by_cases e : i = 0
  · subst e
    rcases h with h | h
    · omega
    · rcases hc with hc | hc
      · exact hc
      · exact absurd hc h
  · exact h3 (a + i) (by omega) (by omega)
theorem one (s : ByteArray) (a : Nat) (ha : a < s.size) (hs : s.size ≤ 16384) (F : PH) : PFn Tryd.prog 35 [.string s, .int .i64 a] F
    (fun v _ => v = oneV (oneP s a)) := by
  refine Fn.intro (n := 150) (ts := [.cell 4 99, 5, 6]) Tryd.func35 rfl rfl rfl rfl (by simp) fun B hB => ?_
  have h' : (a : Int) < (s.size : Int) := by omega
  have h0 : (0 : Int) ≤ (a : Int) := by omega
  have e2 : IntKind.i64.wrap ((a : Int) + 1) = (a : Int) + 1 := by rw [wadd a ha (small_max hs)]; rfl
  have hc : ((s.data.getD a 0).toNat : Int) = ch s a := rfl
  have h01 : (0 : Int) ≤ (a : Int) + 1 := by omega
  have ht : ((a : Int) + 1).toNat = a + 1 := by omega
  have hc1 : ((s.data.getD (a + 1) 0).toNat : Int) = ch s (a + 1) := rfl
  refine VC.go 7 ?_
  simp only [push_cast, ↓reduceIte, Nat.reduceEqDiff, Nat.reduceAdd, Nat.reduceMul, Nat.reduceSub, Nat.reduceLT, Nat.reduceLeDiff, reduceCtorEq, Nat.reduceMod, Int.reduceEq, Int.reduceLT, Int.reduceLE, Int.reduceToNat, dite_true, h', h0, hc]
  intro b4
  refine VC.cutM (ι := Int) (fun c8 => [(8, .v (.int .u8 c8)), (7, .v (.int .u8 (ch s a))), (4, .o 0 b4 0), (1, .v (.int .i64 a)), (0, .v (.string s))]) (fun _ => [⟨0, b4, 99, tokC ⟨0, ⟨#[]⟩, 0, 0⟩⟩]) (fun _ => F) (fun c8 => c8 = nxt s a) ?_ ?_
  · intro G hG
    refine VC.go 100 ?_
    by_cases g : a + 1 < s.size
    · have g' : (a : Int) + 1 < (s.size : Int) := by omega
      simp only [push_cast, ↓reduceIte, Nat.reduceEqDiff, Nat.reduceAdd, Nat.reduceMul, Nat.reduceSub, Nat.reduceLT, Nat.reduceLeDiff, reduceCtorEq, Nat.reduceMod, Int.reduceEq, Int.reduceLT, Int.reduceLE, Int.reduceToNat, dite_true, h', h0, e2, h01, ht, hc1, g']
      exact hG (ch s (a + 1)) _ (by unfold nxt; rw [if_pos g]) (by simp [subk, Eng.look]) (List.Sublist.refl _) rfl rfl
    · have g' : ¬ (a : Int) + 1 < (s.size : Int) := by omega
      simp only [push_cast, ↓reduceIte, Nat.reduceEqDiff, Nat.reduceAdd, Nat.reduceMul, Nat.reduceSub, Nat.reduceLT, Nat.reduceLeDiff, reduceCtorEq, Nat.reduceMod, Int.reduceEq, Int.reduceLT, Int.reduceLE, Int.reduceToNat, dite_true, e2, g']
      exact hG 0 _ (by unfold nxt; rw [if_neg g]) (by simp [subk, Eng.look]) (List.Sublist.refl _) rfl rfl
  intro c8 hc8
  dsimp only at hc8 ⊢
  refine VC.go 100 ?_
  simp only [push_cast, ↓reduceIte, Nat.reduceEqDiff, Nat.reduceAdd, Nat.reduceMul, Nat.reduceSub, Nat.reduceLT, Nat.reduceLeDiff, reduceCtorEq, Nat.reduceMod, Int.reduceEq, Int.reduceLT, Int.reduceLE, Int.reduceToNat, dite_true]
  refine CallV.pure (run s a (by omega) hs F) ?_
  rintro _ F1 hF1 rfl
  obtain ⟨j, hjd⟩ : ∃ j, j = runE s a := ⟨_, rfl⟩
  rw [← hjd]
  have hj1 : a ≤ j := by rw [hjd]; exact (runE_le s (by omega)).1
  have hj2 : j ≤ s.size := by rw [hjd]; exact (runE_le s (by omega)).2
  have c1 : (0 : Int) ≤ (j : Int) ∧ (j : Int) ≤ (s.size : Int) := by omega
  have c2 : (0 : Int) ≤ (a : Int) ∧ (a : Int) ≤ (j : Int) := by omega
  have c11 : (0 : Int) ≤ (j : Int) := c1.1
  have c12 : (j : Int) ≤ (s.size : Int) := c1.2
  have c22 : (a : Int) ≤ (j : Int) := c2.2
  simp only [push_cast, ↓reduceIte, Nat.reduceEqDiff, Nat.reduceAdd, Nat.reduceMul, Nat.reduceSub, Nat.reduceLT, Nat.reduceLeDiff, reduceCtorEq, Nat.reduceMod, Int.reduceEq, Int.reduceLT, Int.reduceLE, Int.reduceToNat, dite_true]
  refine CallV.pure (small (ch s a) F1) ?_
  rintro _ F2 hF2 rfl
  cases h1 : smallB (ch s a) with
  | true =>
    simp only [push_cast, ↓reduceIte, Nat.reduceEqDiff, Nat.reduceAdd, Nat.reduceMul, Nat.reduceSub, Nat.reduceLT, Nat.reduceLeDiff, reduceCtorEq, Nat.reduceMod, Int.reduceEq, Int.reduceLT, Int.reduceLE, Int.reduceToNat, dite_true, h0, c11, c12, c22]
    refine CallV.pure (reserved _ F2) ?_
    rintro _ F3 hF3 rfl
    cases hrb : reservedB (s.extract a j) with
    | true =>
      simp only [push_cast, ↓reduceIte, Nat.reduceEqDiff, Nat.reduceAdd, Nat.reduceMul, Nat.reduceSub, Nat.reduceLT, Nat.reduceLeDiff, reduceCtorEq, Nat.reduceMod, Int.reduceEq, Int.reduceLT, Int.reduceLE, Int.reduceToNat, dite_true, h0, c11, c12, c22]
      refine ⟨[_, _, _], [], (by simp only [push_cast, ↓reduceIte, Nat.reduceEqDiff, Nat.reduceAdd, Nat.reduceMul, Nat.reduceSub, Nat.reduceLT, Nat.reduceLeDiff, reduceCtorEq, Nat.reduceMod, Int.reduceEq, Int.reduceLT, Int.reduceLE, Int.reduceToNat, dite_true, rvals, rval1]; rfl), .sub (List.nil_sublist _), rfl, ?_⟩
      rw [show oneP s a = _ from by unfold oneP; rw [if_pos h1, ← hjd, if_pos hrb]]; rfl
    | false =>
      simp only [push_cast, ↓reduceIte, Nat.reduceEqDiff, Nat.reduceAdd, Nat.reduceMul, Nat.reduceSub, Nat.reduceLT, Nat.reduceLeDiff, reduceCtorEq, Nat.reduceMod, Int.reduceEq, Int.reduceLT, Int.reduceLE, Int.reduceToNat, dite_true, h0, c11, c12, c22]
      refine CallV.pure (small (ch s a) F3) ?_
      rintro _ F4 hF4 rfl
      rw [h1]
      simp only [push_cast, ↓reduceIte, Nat.reduceEqDiff, Nat.reduceAdd, Nat.reduceMul, Nat.reduceSub, Nat.reduceLT, Nat.reduceLeDiff, reduceCtorEq, Nat.reduceMod, Int.reduceEq, Int.reduceLT, Int.reduceLE, Int.reduceToNat, dite_true, h0, c11, c12, c22]
      refine ⟨[_, _, _], [], (by simp only [push_cast, ↓reduceIte, Nat.reduceEqDiff, Nat.reduceAdd, Nat.reduceMul, Nat.reduceSub, Nat.reduceLT, Nat.reduceLeDiff, reduceCtorEq, Nat.reduceMod, Int.reduceEq, Int.reduceLT, Int.reduceLE, Int.reduceToNat, dite_true, rvals, rval1]; rfl), .sub (List.nil_sublist _), rfl, ?_⟩
      rw [show oneP s a = _ from by unfold oneP; rw [if_pos h1, ← hjd, if_neg (by rw [hrb]; decide)]]; rfl
  | false =>
  simp only [push_cast, ↓reduceIte, Nat.reduceEqDiff, Nat.reduceAdd, Nat.reduceMul, Nat.reduceSub, Nat.reduceLT, Nat.reduceLeDiff, reduceCtorEq, Nat.reduceMod, Int.reduceEq, Int.reduceLT, Int.reduceLE, Int.reduceToNat, dite_true]
  refine CallV.pure (small (ch s a) F2) ?_
  rintro _ F3 hF3 rfl
  rw [h1]
  simp only [push_cast, ↓reduceIte, Nat.reduceEqDiff, Nat.reduceAdd, Nat.reduceMul, Nat.reduceSub, Nat.reduceLT, Nat.reduceLeDiff, reduceCtorEq, Nat.reduceMod, Int.reduceEq, Int.reduceLT, Int.reduceLE, Int.reduceToNat, dite_true]
  refine CallV.pure (large (ch s a) F3) ?_
  rintro _ F4 hF4 rfl
  cases h2 : largeB (ch s a) with
  | true =>
    simp only [push_cast, ↓reduceIte, Nat.reduceEqDiff, Nat.reduceAdd, Nat.reduceMul, Nat.reduceSub, Nat.reduceLT, Nat.reduceLeDiff, reduceCtorEq, Nat.reduceMod, Int.reduceEq, Int.reduceLT, Int.reduceLE, Int.reduceToNat, dite_true, h0, c11, c12, c22]
    refine ⟨[_, _, _], [], (by simp only [push_cast, ↓reduceIte, Nat.reduceEqDiff, Nat.reduceAdd, Nat.reduceMul, Nat.reduceSub, Nat.reduceLT, Nat.reduceLeDiff, reduceCtorEq, Nat.reduceMod, Int.reduceEq, Int.reduceLT, Int.reduceLE, Int.reduceToNat, dite_true, rvals, rval1]; rfl), .sub (List.nil_sublist _), rfl, ?_⟩
    rw [show oneP s a = _ from by unfold oneP; rw [if_neg (by rw [h1]; decide), if_pos h2, ← hjd]]; rfl
  | false =>
  clear hj1 hj2 c1 c2 c11 c12 c22
  have k1 : (a : Int) + 1 ≤ (s.size : Int) := by omega
  have k2 : (a : Int) ≤ (a : Int) + 1 := by omega
  by_cases g1 : ch s a = 35
  case pos =>
    simp only [push_cast, ↓reduceIte, Nat.reduceEqDiff, Nat.reduceAdd, Nat.reduceMul, Nat.reduceSub, Nat.reduceLT, Nat.reduceLeDiff, reduceCtorEq, Nat.reduceMod, Int.reduceEq, Int.reduceLT, Int.reduceLE, Int.reduceToNat, dite_true, eq_true g1]
    refine CallV.pure (small c8 F4) ?_
    rintro _ F5 hF5 rfl
    cases h3 : smallB c8 with
    | true =>
      simp only [push_cast, ↓reduceIte, Nat.reduceEqDiff, Nat.reduceAdd, Nat.reduceMul, Nat.reduceSub, Nat.reduceLT, Nat.reduceLeDiff, reduceCtorEq, Nat.reduceMod, Int.reduceEq, Int.reduceLT, Int.reduceLE, Int.reduceToNat, dite_true, e2]
      refine CallV.pure (run s (a + 1) ha hs F5) ?_
      rintro _ F6 hF6 rfl
      have hj1 := (runE_le s (i := a + 1) (by omega)).1
      have hj2 := (runE_le s (i := a + 1) (by omega)).2
      obtain ⟨j, hjd2⟩ : ∃ j, j = runE s (a + 1) := ⟨_, rfl⟩
      rw [← hjd2] at hj1 hj2 ⊢
      have c11 : (0 : Int) ≤ (j : Int) := by omega
      have c12 : (j : Int) ≤ (s.size : Int) := by omega
      have c22 : (a : Int) ≤ (j : Int) := by omega
      simp only [push_cast, ↓reduceIte, Nat.reduceEqDiff, Nat.reduceAdd, Nat.reduceMul, Nat.reduceSub, Nat.reduceLT, Nat.reduceLeDiff, reduceCtorEq, Nat.reduceMod, Int.reduceEq, Int.reduceLT, Int.reduceLE, Int.reduceToNat, dite_true, h0, c11, c12, c22]
      refine ⟨[_, _, _], [], (by simp only [push_cast, ↓reduceIte, Nat.reduceEqDiff, Nat.reduceAdd, Nat.reduceMul, Nat.reduceSub, Nat.reduceLT, Nat.reduceLeDiff, reduceCtorEq, Nat.reduceMod, Int.reduceEq, Int.reduceLT, Int.reduceLE, Int.reduceToNat, dite_true, rvals, rval1]; rfl), .sub (List.nil_sublist _), rfl, ?_⟩
      rw [show oneP s a = _ from by unfold oneP; rw [if_neg (by rw [h1]; decide), if_neg (by rw [h2]; decide), if_pos ⟨g1, by rw [← hc8]; exact h3⟩, ← hjd2]]; rfl
    | false =>
      have g2 : digitB (ch s a) = false := by rw [g1]; decide
      have g3 : ¬ ch s a = 45 := by rw [g1]; decide
      simp only [push_cast, ↓reduceIte, Nat.reduceEqDiff, Nat.reduceAdd, Nat.reduceMul, Nat.reduceSub, Nat.reduceLT, Nat.reduceLeDiff, reduceCtorEq, Nat.reduceMod, Int.reduceEq, Int.reduceLT, Int.reduceLE, Int.reduceToNat, dite_true]
      refine CallV.pure (digit (ch s a) F5) ?_
      rintro _ F6 hF6 rfl
      rw [g2]
      simp only [push_cast, ↓reduceIte, Nat.reduceEqDiff, Nat.reduceAdd, Nat.reduceMul, Nat.reduceSub, Nat.reduceLT, Nat.reduceLeDiff, reduceCtorEq, Nat.reduceMod, Int.reduceEq, Int.reduceLT, Int.reduceLE, Int.reduceToNat, dite_true, g3, e2, h0, h01, ht, k1, k2]
      refine CallV.pure (sign _ F6) ?_
      rintro _ F7 hF7 rfl
      cases hrb : signB (s.extract a (a + 1)) with
      | true =>
        simp only [push_cast, ↓reduceIte, Nat.reduceEqDiff, Nat.reduceAdd, Nat.reduceMul, Nat.reduceSub, Nat.reduceLT, Nat.reduceLeDiff, reduceCtorEq, Nat.reduceMod, Int.reduceEq, Int.reduceLT, Int.reduceLE, Int.reduceToNat, dite_true, e2, h0, h01, ht, k1, k2]
        refine ⟨[_, _, _], [], (by simp only [push_cast, ↓reduceIte, Nat.reduceEqDiff, Nat.reduceAdd, Nat.reduceMul, Nat.reduceSub, Nat.reduceLT, Nat.reduceLeDiff, reduceCtorEq, Nat.reduceMod, Int.reduceEq, Int.reduceLT, Int.reduceLE, Int.reduceToNat, dite_true, rvals, rval1]; rfl), .sub (List.nil_sublist _), rfl, ?_⟩
        rw [show oneP s a = _ from by unfold oneP; rw [if_neg (by rw [h1]; decide), if_neg (by rw [h2]; decide), if_neg (fun z => by rw [← hc8, h3] at z; exact absurd z.2 (by decide)), if_neg (fun z => z.elim (fun z => by rw [g2] at z; exact absurd z (by decide)) (fun z => g3 z.1)), if_neg (fun z => g3 z.1), if_pos hrb]]; rfl
      | false =>
        simp only [push_cast, ↓reduceIte, Nat.reduceEqDiff, Nat.reduceAdd, Nat.reduceMul, Nat.reduceSub, Nat.reduceLT, Nat.reduceLeDiff, reduceCtorEq, Nat.reduceMod, Int.reduceEq, Int.reduceLT, Int.reduceLE, Int.reduceToNat, dite_true]
        refine ⟨[_, _, _], [], (by simp only [push_cast, ↓reduceIte, Nat.reduceEqDiff, Nat.reduceAdd, Nat.reduceMul, Nat.reduceSub, Nat.reduceLT, Nat.reduceLeDiff, reduceCtorEq, Nat.reduceMod, Int.reduceEq, Int.reduceLT, Int.reduceLE, Int.reduceToNat, dite_true, rvals, rval1]; rfl), .sub (List.nil_sublist _), rfl, ?_⟩
        rw [show oneP s a = _ from by unfold oneP; rw [if_neg (by rw [h1]; decide), if_neg (by rw [h2]; decide), if_neg (fun z => by rw [← hc8, h3] at z; exact absurd z.2 (by decide)), if_neg (fun z => z.elim (fun z => by rw [g2] at z; exact absurd z (by decide)) (fun z => g3 z.1)), if_neg (fun z => g3 z.1), if_neg (by rw [hrb]; decide)]]; rfl
  have e3 : IntKind.i64.wrap ((a : Int) + 2) = (a : Int) + 2 := IntWalk.i64_in _ (by omega)
  simp only [push_cast, ↓reduceIte, Nat.reduceEqDiff, Nat.reduceAdd, Nat.reduceMul, Nat.reduceSub, Nat.reduceLT, Nat.reduceLeDiff, reduceCtorEq, Nat.reduceMod, Int.reduceEq, Int.reduceLT, Int.reduceLE, Int.reduceToNat, dite_true, g1]
  refine CallV.pure (digit (ch s a) F4) ?_
  rintro _ F5 hF5 rfl
  cases g2 : digitB (ch s a) with
  | true =>
    simp only [push_cast, ↓reduceIte, Nat.reduceEqDiff, Nat.reduceAdd, Nat.reduceMul, Nat.reduceSub, Nat.reduceLT, Nat.reduceLeDiff, reduceCtorEq, Nat.reduceMod, Int.reduceEq, Int.reduceLT, Int.reduceLE, Int.reduceToNat, dite_true, e2]
    refine VC.loopM (ι := Nat × PH) (fun i => [(9, .v (.int .i64 i.1)), (4, .o 0 b4 0), (1, .v (.int .i64 a)), (0, .v (.string s))]) (fun _ => [⟨0, b4, 99, tokC ⟨0, ⟨#[]⟩, 0, 0⟩⟩]) (fun i => i.2) (fun i => a < i.1 ∧ i.1 ≤ s.size ∧ digE s i.1 = digE s (a + 1)) (fun i => s.size - i.1) (a + 1, F5) ⟨by omega, ha, rfl⟩ (by simp [subk, Eng.look]) (List.Sublist.refl _) rfl ?_
    rintro ⟨i, F8⟩ ⟨hi, hi2, hi3⟩ G hG
    dsimp only at hi hi2 hi3 hG ⊢
    rw [digE_eq] at hi3
    have c11 : (0 : Int) ≤ (i : Int) := by omega
    have c12 : (i : Int) ≤ (s.size : Int) := by omega
    have c22 : (a : Int) ≤ (i : Int) := by omega
    refine VC.go 100 ?_
    by_cases p : i < s.size
    case neg =>
      have p' : ¬ (i : Int) < (s.size : Int) := by omega
      rw [if_neg (fun z => p z.1)] at hi3
      subst hi3
      simp only [push_cast, ↓reduceIte, Nat.reduceEqDiff, Nat.reduceAdd, Nat.reduceMul, Nat.reduceSub, Nat.reduceLT, Nat.reduceLeDiff, reduceCtorEq, Nat.reduceMod, Int.reduceEq, Int.reduceLT, Int.reduceLE, Int.reduceToNat, dite_true, p', h0, c11, c12, c22]
      refine CallV.pure (number (s.extract a (digE s (a + 1))) (by rw [ByteArray.size_extract]; omega) (by rw [ByteArray.size_extract]; omega) (int_pre ha (.inl g2)) F8) ?_
      rintro _ F9 hF9 ⟨m, ok, rfl, hint⟩
      cases ok with
      | true =>
        simp only [push_cast, ↓reduceIte, Nat.reduceEqDiff, Nat.reduceAdd, Nat.reduceMul, Nat.reduceSub, Nat.reduceLT, Nat.reduceLeDiff, reduceCtorEq, Nat.reduceMod, Int.reduceEq, Int.reduceLT, Int.reduceLE, Int.reduceToNat, dite_true]
        refine ⟨[_, _, _], [], (by simp only [push_cast, ↓reduceIte, Nat.reduceEqDiff, Nat.reduceAdd, Nat.reduceMul, Nat.reduceSub, Nat.reduceLT, Nat.reduceLeDiff, reduceCtorEq, Nat.reduceMod, Int.reduceEq, Int.reduceLT, Int.reduceLE, Int.reduceToNat, dite_true, rvals, rval1]; rfl), .sub (List.nil_sublist _), rfl, ?_⟩
        rw [show oneP s a = _ from by unfold oneP; rw [if_neg (by rw [h1]; decide), if_neg (by rw [h2]; decide), if_neg (fun z => g1 z.1), if_pos (.inl g2), hint]]; rfl
      | false =>
        simp only [push_cast, ↓reduceIte, Nat.reduceEqDiff, Nat.reduceAdd, Nat.reduceMul, Nat.reduceSub, Nat.reduceLT, Nat.reduceLeDiff, reduceCtorEq, Nat.reduceMod, Int.reduceEq, Int.reduceLT, Int.reduceLE, Int.reduceToNat, dite_true]
        refine ⟨[_, _, _], [], (by simp only [push_cast, ↓reduceIte, Nat.reduceEqDiff, Nat.reduceAdd, Nat.reduceMul, Nat.reduceSub, Nat.reduceLT, Nat.reduceLeDiff, reduceCtorEq, Nat.reduceMod, Int.reduceEq, Int.reduceLT, Int.reduceLE, Int.reduceToNat, dite_true, rvals, rval1]; rfl), .sub (List.nil_sublist _), rfl, ?_⟩
        rw [show oneP s a = _ from by unfold oneP; rw [if_neg (by rw [h1]; decide), if_neg (by rw [h2]; decide), if_neg (fun z => g1 z.1), if_pos (.inl g2), hint]]; rfl
    have p' : (i : Int) < (s.size : Int) := by omega
    have hci : ((s.data.getD i 0).toNat : Int) = ch s i := rfl
    have e4 : IntKind.i64.wrap ((i : Int) + 1) = ((i + 1 : Nat) : Int) := wadd i p (small_max hs)
    simp only [push_cast, ↓reduceIte, Nat.reduceEqDiff, Nat.reduceAdd, Nat.reduceMul, Nat.reduceSub, Nat.reduceLT, Nat.reduceLeDiff, reduceCtorEq, Nat.reduceMod, Int.reduceEq, Int.reduceLT, Int.reduceLE, Int.reduceToNat, dite_true, p', c11, hci]
    refine CallV.pure (digit (ch s i) F8) ?_
    rintro _ F10 hF10 rfl
    cases hdi : digitB (ch s i) with
    | true =>
      rw [if_pos ⟨p, hdi⟩] at hi3
      simp only [push_cast, ↓reduceIte, Nat.reduceEqDiff, Nat.reduceAdd, Nat.reduceMul, Nat.reduceSub, Nat.reduceLT, Nat.reduceLeDiff, reduceCtorEq, Nat.reduceMod, Int.reduceEq, Int.reduceLT, Int.reduceLE, Int.reduceToNat, dite_true, e4]
      exact hG (i + 1, F10) _ ⟨by omega, by omega, hi3⟩ (by simp; omega) (by simp [subk, Eng.look]) (List.Sublist.refl _) rfl rfl
    | false =>
      rw [if_neg (fun z => by rw [hdi] at z; exact absurd z.2 (by decide))] at hi3
      subst hi3
      simp only [push_cast, ↓reduceIte, Nat.reduceEqDiff, Nat.reduceAdd, Nat.reduceMul, Nat.reduceSub, Nat.reduceLT, Nat.reduceLeDiff, reduceCtorEq, Nat.reduceMod, Int.reduceEq, Int.reduceLT, Int.reduceLE, Int.reduceToNat, dite_true, h0, c11, c12, c22]
      refine CallV.pure (number (s.extract a (digE s (a + 1))) (by rw [ByteArray.size_extract]; omega) (by rw [ByteArray.size_extract]; omega) (int_pre ha (.inl g2)) F10) ?_
      rintro _ F9 hF9 ⟨m, ok, rfl, hint⟩
      cases ok with
      | true =>
        simp only [push_cast, ↓reduceIte, Nat.reduceEqDiff, Nat.reduceAdd, Nat.reduceMul, Nat.reduceSub, Nat.reduceLT, Nat.reduceLeDiff, reduceCtorEq, Nat.reduceMod, Int.reduceEq, Int.reduceLT, Int.reduceLE, Int.reduceToNat, dite_true]
        refine ⟨[_, _, _], [], (by simp only [push_cast, ↓reduceIte, Nat.reduceEqDiff, Nat.reduceAdd, Nat.reduceMul, Nat.reduceSub, Nat.reduceLT, Nat.reduceLeDiff, reduceCtorEq, Nat.reduceMod, Int.reduceEq, Int.reduceLT, Int.reduceLE, Int.reduceToNat, dite_true, rvals, rval1]; rfl), .sub (List.nil_sublist _), rfl, ?_⟩
        rw [show oneP s a = _ from by unfold oneP; rw [if_neg (by rw [h1]; decide), if_neg (by rw [h2]; decide), if_neg (fun z => g1 z.1), if_pos (.inl g2), hint]]; rfl
      | false =>
        simp only [push_cast, ↓reduceIte, Nat.reduceEqDiff, Nat.reduceAdd, Nat.reduceMul, Nat.reduceSub, Nat.reduceLT, Nat.reduceLeDiff, reduceCtorEq, Nat.reduceMod, Int.reduceEq, Int.reduceLT, Int.reduceLE, Int.reduceToNat, dite_true]
        refine ⟨[_, _, _], [], (by simp only [push_cast, ↓reduceIte, Nat.reduceEqDiff, Nat.reduceAdd, Nat.reduceMul, Nat.reduceSub, Nat.reduceLT, Nat.reduceLeDiff, reduceCtorEq, Nat.reduceMod, Int.reduceEq, Int.reduceLT, Int.reduceLE, Int.reduceToNat, dite_true, rvals, rval1]; rfl), .sub (List.nil_sublist _), rfl, ?_⟩
        rw [show oneP s a = _ from by unfold oneP; rw [if_neg (by rw [h1]; decide), if_neg (by rw [h2]; decide), if_neg (fun z => g1 z.1), if_pos (.inl g2), hint]]; rfl
  | false =>
  by_cases g3 : ch s a = 45
  case neg =>
    simp only [push_cast, ↓reduceIte, Nat.reduceEqDiff, Nat.reduceAdd, Nat.reduceMul, Nat.reduceSub, Nat.reduceLT, Nat.reduceLeDiff, reduceCtorEq, Nat.reduceMod, Int.reduceEq, Int.reduceLT, Int.reduceLE, Int.reduceToNat, dite_true, g3, e2, h0, h01, ht, k1, k2]
    refine CallV.pure (sign _ F5) ?_
    rintro _ F7 hF7 rfl
    cases hrb : signB (s.extract a (a + 1)) with
    | true =>
      simp only [push_cast, ↓reduceIte, Nat.reduceEqDiff, Nat.reduceAdd, Nat.reduceMul, Nat.reduceSub, Nat.reduceLT, Nat.reduceLeDiff, reduceCtorEq, Nat.reduceMod, Int.reduceEq, Int.reduceLT, Int.reduceLE, Int.reduceToNat, dite_true, e2, e3, h0, h01, ht, k1, k2]
      refine ⟨[_, _, _], [], (by simp only [push_cast, ↓reduceIte, Nat.reduceEqDiff, Nat.reduceAdd, Nat.reduceMul, Nat.reduceSub, Nat.reduceLT, Nat.reduceLeDiff, reduceCtorEq, Nat.reduceMod, Int.reduceEq, Int.reduceLT, Int.reduceLE, Int.reduceToNat, dite_true, rvals, rval1]; rfl), .sub (List.nil_sublist _), rfl, ?_⟩
      rw [show oneP s a = _ from by unfold oneP; rw [if_neg (by rw [h1]; decide), if_neg (by rw [h2]; decide), if_neg (fun z => g1 z.1), if_neg (fun z => z.elim (fun z => by rw [g2] at z; exact absurd z (by decide)) (fun z => g3 z.1)), if_neg (fun z => g3 z.1), if_pos hrb]]; rfl
    | false =>
      simp only [push_cast, ↓reduceIte, Nat.reduceEqDiff, Nat.reduceAdd, Nat.reduceMul, Nat.reduceSub, Nat.reduceLT, Nat.reduceLeDiff, reduceCtorEq, Nat.reduceMod, Int.reduceEq, Int.reduceLT, Int.reduceLE, Int.reduceToNat, dite_true]
      refine ⟨[_, _, _], [], (by simp only [push_cast, ↓reduceIte, Nat.reduceEqDiff, Nat.reduceAdd, Nat.reduceMul, Nat.reduceSub, Nat.reduceLT, Nat.reduceLeDiff, reduceCtorEq, Nat.reduceMod, Int.reduceEq, Int.reduceLT, Int.reduceLE, Int.reduceToNat, dite_true, rvals, rval1]; rfl), .sub (List.nil_sublist _), rfl, ?_⟩
      rw [show oneP s a = _ from by unfold oneP; rw [if_neg (by rw [h1]; decide), if_neg (by rw [h2]; decide), if_neg (fun z => g1 z.1), if_neg (fun z => z.elim (fun z => by rw [g2] at z; exact absurd z (by decide)) (fun z => g3 z.1)), if_neg (fun z => g3 z.1), if_neg (by rw [hrb]; decide)]]; rfl
  simp only [push_cast, ↓reduceIte, Nat.reduceEqDiff, Nat.reduceAdd, Nat.reduceMul, Nat.reduceSub, Nat.reduceLT, Nat.reduceLeDiff, reduceCtorEq, Nat.reduceMod, Int.reduceEq, Int.reduceLT, Int.reduceLE, Int.reduceToNat, dite_true, eq_true g3]
  refine CallV.pure (digit c8 F5) ?_
  rintro _ F6 hF6 rfl
  cases g4 : digitB c8 with
  | true =>
    simp only [push_cast, ↓reduceIte, Nat.reduceEqDiff, Nat.reduceAdd, Nat.reduceMul, Nat.reduceSub, Nat.reduceLT, Nat.reduceLeDiff, reduceCtorEq, Nat.reduceMod, Int.reduceEq, Int.reduceLT, Int.reduceLE, Int.reduceToNat, dite_true, e2]
    refine VC.loopM (ι := Nat × PH) (fun i => [(9, .v (.int .i64 i.1)), (4, .o 0 b4 0), (1, .v (.int .i64 a)), (0, .v (.string s))]) (fun _ => [⟨0, b4, 99, tokC ⟨0, ⟨#[]⟩, 0, 0⟩⟩]) (fun i => i.2) (fun i => a < i.1 ∧ i.1 ≤ s.size ∧ digE s i.1 = digE s (a + 1)) (fun i => s.size - i.1) (a + 1, F6) ⟨by omega, ha, rfl⟩ (by simp [subk, Eng.look]) (List.Sublist.refl _) rfl ?_
    rintro ⟨i, F8⟩ ⟨hi, hi2, hi3⟩ G hG
    dsimp only at hi hi2 hi3 hG ⊢
    rw [digE_eq] at hi3
    have c11 : (0 : Int) ≤ (i : Int) := by omega
    have c12 : (i : Int) ≤ (s.size : Int) := by omega
    have c22 : (a : Int) ≤ (i : Int) := by omega
    refine VC.go 100 ?_
    by_cases p : i < s.size
    case neg =>
      have p' : ¬ (i : Int) < (s.size : Int) := by omega
      rw [if_neg (fun z => p z.1)] at hi3
      subst hi3
      simp only [push_cast, ↓reduceIte, Nat.reduceEqDiff, Nat.reduceAdd, Nat.reduceMul, Nat.reduceSub, Nat.reduceLT, Nat.reduceLeDiff, reduceCtorEq, Nat.reduceMod, Int.reduceEq, Int.reduceLT, Int.reduceLE, Int.reduceToNat, dite_true, p', h0, c11, c12, c22]
      refine CallV.pure (number (s.extract a (digE s (a + 1))) (by rw [ByteArray.size_extract]; omega) (by rw [ByteArray.size_extract]; omega) (int_pre ha (.inr g3)) F8) ?_
      rintro _ F9 hF9 ⟨m, ok, rfl, hint⟩
      cases ok with
      | true =>
        simp only [push_cast, ↓reduceIte, Nat.reduceEqDiff, Nat.reduceAdd, Nat.reduceMul, Nat.reduceSub, Nat.reduceLT, Nat.reduceLeDiff, reduceCtorEq, Nat.reduceMod, Int.reduceEq, Int.reduceLT, Int.reduceLE, Int.reduceToNat, dite_true]
        refine ⟨[_, _, _], [], (by simp only [push_cast, ↓reduceIte, Nat.reduceEqDiff, Nat.reduceAdd, Nat.reduceMul, Nat.reduceSub, Nat.reduceLT, Nat.reduceLeDiff, reduceCtorEq, Nat.reduceMod, Int.reduceEq, Int.reduceLT, Int.reduceLE, Int.reduceToNat, dite_true, rvals, rval1]; rfl), .sub (List.nil_sublist _), rfl, ?_⟩
        rw [show oneP s a = _ from by unfold oneP; rw [if_neg (by rw [h1]; decide), if_neg (by rw [h2]; decide), if_neg (fun z => g1 z.1), if_pos (.inr ⟨g3, by rw [← hc8]; exact g4⟩), hint]]; rfl
      | false =>
        simp only [push_cast, ↓reduceIte, Nat.reduceEqDiff, Nat.reduceAdd, Nat.reduceMul, Nat.reduceSub, Nat.reduceLT, Nat.reduceLeDiff, reduceCtorEq, Nat.reduceMod, Int.reduceEq, Int.reduceLT, Int.reduceLE, Int.reduceToNat, dite_true]
        refine ⟨[_, _, _], [], (by simp only [push_cast, ↓reduceIte, Nat.reduceEqDiff, Nat.reduceAdd, Nat.reduceMul, Nat.reduceSub, Nat.reduceLT, Nat.reduceLeDiff, reduceCtorEq, Nat.reduceMod, Int.reduceEq, Int.reduceLT, Int.reduceLE, Int.reduceToNat, dite_true, rvals, rval1]; rfl), .sub (List.nil_sublist _), rfl, ?_⟩
        rw [show oneP s a = _ from by unfold oneP; rw [if_neg (by rw [h1]; decide), if_neg (by rw [h2]; decide), if_neg (fun z => g1 z.1), if_pos (.inr ⟨g3, by rw [← hc8]; exact g4⟩), hint]]; rfl
    have p' : (i : Int) < (s.size : Int) := by omega
    have hci : ((s.data.getD i 0).toNat : Int) = ch s i := rfl
    have e4 : IntKind.i64.wrap ((i : Int) + 1) = ((i + 1 : Nat) : Int) := wadd i p (small_max hs)
    simp only [push_cast, ↓reduceIte, Nat.reduceEqDiff, Nat.reduceAdd, Nat.reduceMul, Nat.reduceSub, Nat.reduceLT, Nat.reduceLeDiff, reduceCtorEq, Nat.reduceMod, Int.reduceEq, Int.reduceLT, Int.reduceLE, Int.reduceToNat, dite_true, p', c11, hci]
    refine CallV.pure (digit (ch s i) F8) ?_
    rintro _ F10 hF10 rfl
    cases hdi : digitB (ch s i) with
    | true =>
      rw [if_pos ⟨p, hdi⟩] at hi3
      simp only [push_cast, ↓reduceIte, Nat.reduceEqDiff, Nat.reduceAdd, Nat.reduceMul, Nat.reduceSub, Nat.reduceLT, Nat.reduceLeDiff, reduceCtorEq, Nat.reduceMod, Int.reduceEq, Int.reduceLT, Int.reduceLE, Int.reduceToNat, dite_true, e4]
      exact hG (i + 1, F10) _ ⟨by omega, by omega, hi3⟩ (by simp; omega) (by simp [subk, Eng.look]) (List.Sublist.refl _) rfl rfl
    | false =>
      rw [if_neg (fun z => by rw [hdi] at z; exact absurd z.2 (by decide))] at hi3
      subst hi3
      simp only [push_cast, ↓reduceIte, Nat.reduceEqDiff, Nat.reduceAdd, Nat.reduceMul, Nat.reduceSub, Nat.reduceLT, Nat.reduceLeDiff, reduceCtorEq, Nat.reduceMod, Int.reduceEq, Int.reduceLT, Int.reduceLE, Int.reduceToNat, dite_true, h0, c11, c12, c22]
      refine CallV.pure (number (s.extract a (digE s (a + 1))) (by rw [ByteArray.size_extract]; omega) (by rw [ByteArray.size_extract]; omega) (int_pre ha (.inr g3)) F10) ?_
      rintro _ F9 hF9 ⟨m, ok, rfl, hint⟩
      cases ok with
      | true =>
        simp only [push_cast, ↓reduceIte, Nat.reduceEqDiff, Nat.reduceAdd, Nat.reduceMul, Nat.reduceSub, Nat.reduceLT, Nat.reduceLeDiff, reduceCtorEq, Nat.reduceMod, Int.reduceEq, Int.reduceLT, Int.reduceLE, Int.reduceToNat, dite_true]
        refine ⟨[_, _, _], [], (by simp only [push_cast, ↓reduceIte, Nat.reduceEqDiff, Nat.reduceAdd, Nat.reduceMul, Nat.reduceSub, Nat.reduceLT, Nat.reduceLeDiff, reduceCtorEq, Nat.reduceMod, Int.reduceEq, Int.reduceLT, Int.reduceLE, Int.reduceToNat, dite_true, rvals, rval1]; rfl), .sub (List.nil_sublist _), rfl, ?_⟩
        rw [show oneP s a = _ from by unfold oneP; rw [if_neg (by rw [h1]; decide), if_neg (by rw [h2]; decide), if_neg (fun z => g1 z.1), if_pos (.inr ⟨g3, by rw [← hc8]; exact g4⟩), hint]]; rfl
      | false =>
        simp only [push_cast, ↓reduceIte, Nat.reduceEqDiff, Nat.reduceAdd, Nat.reduceMul, Nat.reduceSub, Nat.reduceLT, Nat.reduceLeDiff, reduceCtorEq, Nat.reduceMod, Int.reduceEq, Int.reduceLT, Int.reduceLE, Int.reduceToNat, dite_true]
        refine ⟨[_, _, _], [], (by simp only [push_cast, ↓reduceIte, Nat.reduceEqDiff, Nat.reduceAdd, Nat.reduceMul, Nat.reduceSub, Nat.reduceLT, Nat.reduceLeDiff, reduceCtorEq, Nat.reduceMod, Int.reduceEq, Int.reduceLT, Int.reduceLE, Int.reduceToNat, dite_true, rvals, rval1]; rfl), .sub (List.nil_sublist _), rfl, ?_⟩
        rw [show oneP s a = _ from by unfold oneP; rw [if_neg (by rw [h1]; decide), if_neg (by rw [h2]; decide), if_neg (fun z => g1 z.1), if_pos (.inr ⟨g3, by rw [← hc8]; exact g4⟩), hint]]; rfl
  | false =>
  by_cases g5 : c8 = 62
  · simp only [push_cast, ↓reduceIte, Nat.reduceEqDiff, Nat.reduceAdd, Nat.reduceMul, Nat.reduceSub, Nat.reduceLT, Nat.reduceLeDiff, reduceCtorEq, Nat.reduceMod, Int.reduceEq, Int.reduceLT, Int.reduceLE, Int.reduceToNat, dite_true, eq_true g3, eq_true g5, e3]
    refine ⟨[_, _, _], [], (by simp only [push_cast, ↓reduceIte, Nat.reduceEqDiff, Nat.reduceAdd, Nat.reduceMul, Nat.reduceSub, Nat.reduceLT, Nat.reduceLeDiff, reduceCtorEq, Nat.reduceMod, Int.reduceEq, Int.reduceLT, Int.reduceLE, Int.reduceToNat, dite_true, rvals, rval1]; rfl), .sub (List.nil_sublist _), rfl, ?_⟩
    rw [show oneP s a = _ from by unfold oneP; rw [if_neg (by rw [h1]; decide), if_neg (by rw [h2]; decide), if_neg (fun z => g1 z.1), if_neg (fun z => z.elim (fun z => by rw [g2] at z; exact absurd z (by decide)) (fun z => by rw [← hc8, g4] at z; exact absurd z.2 (by decide))), if_pos ⟨g3, by rw [← hc8]; exact g5⟩]]; rfl
  · simp only [push_cast, ↓reduceIte, Nat.reduceEqDiff, Nat.reduceAdd, Nat.reduceMul, Nat.reduceSub, Nat.reduceLT, Nat.reduceLeDiff, reduceCtorEq, Nat.reduceMod, Int.reduceEq, Int.reduceLT, Int.reduceLE, Int.reduceToNat, dite_true, eq_true g3, g5, e2, h0, h01, ht, k1, k2]
    refine CallV.pure (sign _ F6) ?_
    rintro _ F7 hF7 rfl
    cases hrb : signB (s.extract a (a + 1)) with
    | true =>
      simp only [push_cast, ↓reduceIte, Nat.reduceEqDiff, Nat.reduceAdd, Nat.reduceMul, Nat.reduceSub, Nat.reduceLT, Nat.reduceLeDiff, reduceCtorEq, Nat.reduceMod, Int.reduceEq, Int.reduceLT, Int.reduceLE, Int.reduceToNat, dite_true, e2, e3, h0, h01, ht, k1, k2]
      refine ⟨[_, _, _], [], (by simp only [push_cast, ↓reduceIte, Nat.reduceEqDiff, Nat.reduceAdd, Nat.reduceMul, Nat.reduceSub, Nat.reduceLT, Nat.reduceLeDiff, reduceCtorEq, Nat.reduceMod, Int.reduceEq, Int.reduceLT, Int.reduceLE, Int.reduceToNat, dite_true, rvals, rval1]; rfl), .sub (List.nil_sublist _), rfl, ?_⟩
      rw [show oneP s a = _ from by unfold oneP; rw [if_neg (by rw [h1]; decide), if_neg (by rw [h2]; decide), if_neg (fun z => g1 z.1), if_neg (fun z => z.elim (fun z => by rw [g2] at z; exact absurd z (by decide)) (fun z => by rw [← hc8, g4] at z; exact absurd z.2 (by decide))), if_neg (fun z => g5 (by rw [hc8]; exact z.2)), if_pos hrb]]; rfl
    | false =>
      simp only [push_cast, ↓reduceIte, Nat.reduceEqDiff, Nat.reduceAdd, Nat.reduceMul, Nat.reduceSub, Nat.reduceLT, Nat.reduceLeDiff, reduceCtorEq, Nat.reduceMod, Int.reduceEq, Int.reduceLT, Int.reduceLE, Int.reduceToNat, dite_true]
      refine ⟨[_, _, _], [], (by simp only [push_cast, ↓reduceIte, Nat.reduceEqDiff, Nat.reduceAdd, Nat.reduceMul, Nat.reduceSub, Nat.reduceLT, Nat.reduceLeDiff, reduceCtorEq, Nat.reduceMod, Int.reduceEq, Int.reduceLT, Int.reduceLE, Int.reduceToNat, dite_true, rvals, rval1]; rfl), .sub (List.nil_sublist _), rfl, ?_⟩
      rw [show oneP s a = _ from by unfold oneP; rw [if_neg (by rw [h1]; decide), if_neg (by rw [h2]; decide), if_neg (fun z => g1 z.1), if_neg (fun z => z.elim (fun z => by rw [g2] at z; exact absurd z (by decide)) (fun z => by rw [← hc8, g4] at z; exact absurd z.2 (by decide))), if_neg (fun z => g5 (by rw [hc8]; exact z.2)), if_neg (by rw [hrb]; decide)]]; rfl
end Go.Proofs.YtoepmdbicdoieaaDoor.X
