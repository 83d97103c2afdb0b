/- A number as a text: through the program's own writer of tokens. -/
import Derived.Test.YtmiekonofocboaaGreatDoorD2
namespace Go.Proofs.YtmiekonofocboaaGreatDoor.Q
open Go Go.Eng Go.Lib Go.Proofs Go.Proofs.YtmiekonofocboaaGreatDoor.T
set_option linter.unusedSimpArgs false
set_option linter.unusedVariables false
set_option linter.unusedSectionVars false
set_option maxRecDepth 100000
set_option maxHeartbeats 4000000
theorem mixed : Tryz.prog.follows .mixedOrders = true := by kernel_rfl
abbrev I64' (n : Int) : Prop := -9223372036854775808 ≤ n ∧ n ≤ 9223372036854775807
theorem textInt (n : Int) (hn : I64' n) (s : ByteArray) (a : Int) (F : PH) : PFn Tryz.prog 42 [.agg #[.int .i64 4, .string s, .int .i64 n, .int .i64 a]] F (fun v _ => v = .tuple #[.string (digitsP n), .bool true]) := by
  refine Fn.intro (n := 36) (ts := [2, 3]) Tryz.func42 rfl rfl rfl rfl (by simp) fun B hB => VC.go 100 ?_
  simp only [push_cast, ↓reduceIte, Nat.reduceEqDiff, Nat.reduceAdd, Nat.reduceMul, Nat.reduceSub, Nat.reduceLT, Nat.reduceLeDiff, reduceCtorEq, Nat.reduceMod, Int.reduceEq, Int.reduceLT, Int.reduceLE, Int.reduceToNat, dite_true]
  intro b1
  refine CallV.pure (lexDigits n hn F) ?_
  rintro _ F1 hF1 rfl
  simp only [push_cast, ↓reduceIte, Nat.reduceEqDiff, Nat.reduceAdd, Nat.reduceMul, Nat.reduceSub, Nat.reduceLT, Nat.reduceLeDiff, reduceCtorEq, Nat.reduceMod, Int.reduceEq, Int.reduceLT, Int.reduceLE, Int.reduceToNat, dite_true]
  exact RetOk.p rfl rfl
theorem joinInt (n : Int) (hn : I64' n) (s : ByteArray) (a : Int) (F : PH) {q : Addr} {c : Nat} (hq : F.cells q 4 = some [.int .i64 4, .string s, .int .i64 n, .int .i64 a]) :
    PFn Tryz.prog 35 [.slice (some q) 1 c] F (fun v _ => v = .tuple #[.string (digitsP n ++ ⟨#[32]⟩), .int .i64 0]) := by
  have hds := digits_size hn
  refine Fn.intro (n := 36) (ts := [2, 3]) Tryz.func35 rfl rfl rfl rfl (by simp) fun B hB => VC.go 100 ?_
  simp only [push_cast, ↓reduceIte, Nat.reduceEqDiff, Nat.reduceAdd, Nat.reduceMul, Nat.reduceSub, Nat.reduceLT, Nat.reduceLeDiff, reduceCtorEq, Nat.reduceMod, Int.reduceEq, Int.reduceLT, Int.reduceLE, Int.reduceToNat, dite_true]
  refine VC.loopP (ι := Nat × Value × PH) (fun i => [(11, .v (.int .i64 (i.1 : Int))), (10, .v (.int .i64 1)), (9, .v (.slice (some q) 1 c)), (4, .v i.2.1)]) (fun i => i.2.2) (fun _ => []) (fun i => F.le i.2.2 ∧ (i.1 = 0 ∧ i.2.1 = .slice none 0 0 ∨ i.1 = 1 ∧ ∃ p c, i.2.1 = .slice (some p) ((digitsP n).size + 1) c ∧ i.2.2.cells p ((digitsP n).size + 1) = some (strCells (digitsP n ++ ⟨#[32]⟩)))) (fun i => 1 - i.1) (0, .slice none 0 0, F) ⟨PH.le_refl _, .inl ⟨rfl, rfl⟩⟩ (by simp [subk, Eng.look]) rfl ⟨[], by simp, List.Perm.refl _⟩ ?_
  rintro ⟨j, v, F1⟩ ⟨hF1, hj⟩ G hG
  dsimp only at hF1 hj hG ⊢
  refine VC.emp (VC.go 100 ?_)
  have n1 : ((0 : Nat) < 0 + 1) = True := eq_true (by decide)
  have n2 : ((0 : Int) < 0 + 1) = True := eq_true (by decide)
  have n3 : ((0 : Int) + 1 < 1) = False := eq_false (by decide)
  have n4 : ((0 : Nat) + 1 < 1) = False := eq_false (by decide)
  have hsz : (digitsP n ++ ⟨#[32]⟩ : ByteArray).size = (digitsP n).size + 1 := by rw [ByteArray.size_append]; rfl
  rcases hj with ⟨rfl, rfl⟩ | ⟨rfl, p, c2, rfl, hcl⟩
  · have hq1 := hF1.cells hq
    simp only [push_cast, ↓reduceIte, Nat.reduceEqDiff, Nat.reduceAdd, Nat.reduceMul, Nat.reduceSub, Nat.reduceLT, Nat.reduceLeDiff, reduceCtorEq, Nat.reduceMod, Int.reduceEq, Int.reduceLT, Int.reduceLE, Int.reduceToNat, dite_true, hq1, Nat.zero_mul, add_zero', n1, n2]
    intro b
    refine CallV.pure (textInt n hn s a F1) ?_
    rintro _ F2 hF2 rfl
    simp only [push_cast, ↓reduceIte, Nat.reduceEqDiff, Nat.reduceAdd, Nat.reduceMul, Nat.reduceSub, Nat.reduceLT, Nat.reduceLeDiff, reduceCtorEq, Nat.reduceMod, Int.reduceEq, Int.reduceLT, Int.reduceLE, Int.reduceToNat, dite_true]
    refine Eff.appendBS (tx := digitsP n) rfl rfl rfl ty44 rfl ty9 rfl ty5 rfl rfl rfl rfl rfl (List.Perm.refl _) (BRow.nil _) (by simp; omega) ?_
    intro v3 r3 hr3
    rw [List.nil_append] at hr3
    obtain ⟨p3, c3, rfl, _, _⟩ := hr3.val
    simp only [push_cast, ↓reduceIte, Nat.reduceEqDiff, Nat.reduceAdd, Nat.reduceMul, Nat.reduceSub, Nat.reduceLT, Nat.reduceLeDiff, reduceCtorEq, Nat.reduceMod, Int.reduceEq, Int.reduceLT, Int.reduceLE, Int.reduceToNat, dite_true]
    intro b4 F4 hF4 hb4
    refine Eff.fz (Eff.appendBL (ys := [.int .u8 32]) rfl rfl rfl ty44 rfl ty5 rfl rfl rfl rfl rfl (Src.blk hb4 rfl) (by simp [Value.oneCell']) (List.Perm.refl _) hr3 (by rw [strCells_length]; omega) ?_)
    intro v5 r5 hr5
    refine ⟨r5, [], List.Perm.refl _, fun F5 hF5 hl5 => ?_⟩
    have e5 : strCells (digitsP n) ++ [Value.int .u8 32] = strCells (digitsP n ++ ⟨#[32]⟩) := by simp [strCells]
    rw [e5] at hr5
    have hs5 := hr5.sl hl5
    rw [strCells_length, hsz] at hs5
    obtain ⟨p5, c5, rfl, _, _, hs5⟩ := hs5
    obtain ⟨a5, rfl, hc5⟩ := hs5.2 (by omega)
    rw [Nat.mul_one] at hc5
    simp only [push_cast, ↓reduceIte, Nat.reduceEqDiff, Nat.reduceAdd, Nat.reduceMul, Nat.reduceSub, Nat.reduceLT, Nat.reduceLeDiff, reduceCtorEq, Nat.reduceMod, Int.reduceEq, Int.reduceLT, Int.reduceLE, Int.reduceToNat, dite_true]
    exact hG (1, _, F5) _ ⟨PH.le_trans (PH.le_trans (PH.le_trans hF1 hF2) hF4) hF5, .inr ⟨rfl, a5, c5, rfl, hc5⟩⟩ (by dsimp only; omega) (by simp [subk, Eng.look]; decide) (List.nil_sublist _) rfl ⟨[], by simp, List.Perm.refl _⟩
  · simp only [push_cast, ↓reduceIte, Nat.reduceEqDiff, Nat.reduceAdd, Nat.reduceMul, Nat.reduceSub, Nat.reduceLT, Nat.reduceLeDiff, reduceCtorEq, Nat.reduceMod, Int.reduceEq, Int.reduceLT, Int.reduceLE, Int.reduceToNat, dite_true, hcl, bytesV_str, bstr_str', n3, n4, eq_false (show ¬ (16384 : Int) < ((digitsP n).size : Int) + 1 by omega)]
    exact RetOk.p rfl rfl
theorem digits_script (n : Int) (hn : I64' n) (F : PH) : PFn Tryz.prog 23 [.int .i64 n] F (fun v _ => v = .string (digitsP n)) := by
  refine Fn.intro (n := 17) (ts := [2]) Tryz.func23 rfl rfl rfl rfl (by simp) fun B hB => VC.go 100 ?_
  simp only [push_cast, ↓reduceIte, Nat.reduceEqDiff, Nat.reduceAdd, Nat.reduceMul, Nat.reduceSub, Nat.reduceLT, Nat.reduceLeDiff, reduceCtorEq, Nat.reduceMod, Int.reduceEq, Int.reduceLT, Int.reduceLE, Int.reduceToNat, dite_true]
  intro b F1 hF1 hb
  have hb4 : F1.cells ⟨b, 0, none⟩ 4 = some [.int .i64 4, .string ⟨#[]⟩, .int .i64 n, .int .i64 0] := by
    obtain ⟨a, e, h⟩ := (Src.blk hb rfl : Src F1 _ 4 _).2 (by omega)
    cases e
    exact h
  refine CallV.pure (joinInt n hn ⟨#[]⟩ 0 F1 hb4) ?_
  rintro _ F2 hF2 rfl
  have hds := digits_size hn
  have hsz : (digitsP n ++ ⟨#[32]⟩ : ByteArray).size = (digitsP n).size + 1 := by rw [ByteArray.size_append]; rfl
  have hw : IntKind.i64.wrap (((digitsP n).size : Int) + 1 - 1) = ((digitsP n).size : Int) := by rw [IntWalk.i64_in _ (by omega)]; omega
  have hx : (digitsP n ++ ⟨#[32]⟩ : ByteArray).extract 0 (digitsP n).size = digitsP n := by simp [ByteArray.extract_append]
  simp only [push_cast, ↓reduceIte, Nat.reduceEqDiff, Nat.reduceAdd, Nat.reduceMul, Nat.reduceSub, Nat.reduceLT, Nat.reduceLeDiff, reduceCtorEq, Nat.reduceMod, Int.reduceEq, Int.reduceLT, Int.reduceLE, Int.reduceToNat, dite_true, hsz]
  simp only [push_cast, ↓reduceIte, Nat.reduceEqDiff, Nat.reduceAdd, Nat.reduceMul, Nat.reduceSub, Nat.reduceLT, Nat.reduceLeDiff, reduceCtorEq, Nat.reduceMod, Int.reduceEq, Int.reduceLT, Int.reduceLE, Int.reduceToNat, dite_true, hw, hx, Int.toNat_natCast, eq_true (show ((digitsP n).size : Int) ≤ ((digitsP n).size : Int) + 1 by omega)]
  exact RetOk.p rfl rfl
end Go.Proofs.YtmiekonofocboaaGreatDoor.Q
