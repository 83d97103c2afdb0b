/- My texts LA LB LC LD LF LG LH, in one. -/
import Derived.Test.YtmiekonofocboaaGreatDoorBA
/- The program's lexer, as a function of the text: its small functions, a byte, a run. (Written by gen/la.py.) -/
namespace Go.Proofs.YtmiekonofocboaaGreatDoor.X
open Go Go.Eng Go.Proofs Go.Proofs.YtmiekonofocboaaGreatDoor.T Go.Proofs.YtmiekonofocboaaGreatDoor.K
set_option linter.unusedSimpArgs false
set_option linter.unusedVariables false
set_option linter.unusedSectionVars false
set_option maxRecDepth 100000
set_option maxHeartbeats 4000000
theorem p_small (c : Int) (F : PH) : PFn Tryz.prog 45 [.int .u8 c] F (fun v _ => v = .bool (smallB c)) := by
  refine Fn.intro (n := 9) (ts := [2]) Tryz.func45 rfl rfl rfl rfl (by simp) fun B hB => VC.go 100 ?_
  by_cases h : c ≥ 97
  · by_cases h2 : c ≤ 122
    · simp only [push_cast, ↓reduceIte, Nat.reduceEqDiff, Nat.reduceAdd, Nat.reduceMul, Nat.reduceSub, Nat.reduceLT, Nat.reduceLeDiff, reduceCtorEq, Nat.reduceMod, Int.reduceEq, Int.reduceLT, Int.reduceLE, Int.reduceToNat, dite_true, eq_true h, eq_true h2]; rw [show smallB c = true from by simp [smallB]; omega]; exact RetOk.p rfl rfl
    · simp only [push_cast, ↓reduceIte, Nat.reduceEqDiff, Nat.reduceAdd, Nat.reduceMul, Nat.reduceSub, Nat.reduceLT, Nat.reduceLeDiff, reduceCtorEq, Nat.reduceMod, Int.reduceEq, Int.reduceLT, Int.reduceLE, Int.reduceToNat, dite_true, eq_true h, h2]; rw [show smallB c = false from by simp [smallB]; omega]; exact RetOk.p rfl rfl
  · simp only [push_cast, ↓reduceIte, Nat.reduceEqDiff, Nat.reduceAdd, Nat.reduceMul, Nat.reduceSub, Nat.reduceLT, Nat.reduceLeDiff, reduceCtorEq, Nat.reduceMod, Int.reduceEq, Int.reduceLT, Int.reduceLE, Int.reduceToNat, dite_true, h]; rw [show smallB c = false from by simp [smallB]; omega]; exact RetOk.p rfl rfl
theorem p_large (c : Int) (F : PH) : PFn Tryz.prog 49 [.int .u8 c] F (fun v _ => v = .bool (largeB c)) := by
  refine Fn.intro (n := 9) (ts := [2]) Tryz.func49 rfl rfl rfl rfl (by simp) fun B hB => VC.go 100 ?_
  by_cases h : c ≥ 65
  · by_cases h2 : c ≤ 90
    · simp only [push_cast, ↓reduceIte, Nat.reduceEqDiff, Nat.reduceAdd, Nat.reduceMul, Nat.reduceSub, Nat.reduceLT, Nat.reduceLeDiff, reduceCtorEq, Nat.reduceMod, Int.reduceEq, Int.reduceLT, Int.reduceLE, Int.reduceToNat, dite_true, eq_true h, eq_true h2]; rw [show largeB c = true from by simp [largeB]; omega]; exact RetOk.p rfl rfl
    · simp only [push_cast, ↓reduceIte, Nat.reduceEqDiff, Nat.reduceAdd, Nat.reduceMul, Nat.reduceSub, Nat.reduceLT, Nat.reduceLeDiff, reduceCtorEq, Nat.reduceMod, Int.reduceEq, Int.reduceLT, Int.reduceLE, Int.reduceToNat, dite_true, eq_true h, h2]; rw [show largeB c = false from by simp [largeB]; omega]; exact RetOk.p rfl rfl
  · simp only [push_cast, ↓reduceIte, Nat.reduceEqDiff, Nat.reduceAdd, Nat.reduceMul, Nat.reduceSub, Nat.reduceLT, Nat.reduceLeDiff, reduceCtorEq, Nat.reduceMod, Int.reduceEq, Int.reduceLT, Int.reduceLE, Int.reduceToNat, dite_true, h]; rw [show largeB c = false from by simp [largeB]; omega]; exact RetOk.p rfl rfl
theorem p_digit (c : Int) (F : PH) : PFn Tryz.prog 50 [.int .u8 c] F (fun v _ => v = .bool (digitB c)) := by
  refine Fn.intro (n := 9) (ts := [2]) Tryz.func50 rfl rfl rfl rfl (by simp) fun B hB => VC.go 100 ?_
  by_cases h : c ≥ 48
  · by_cases h2 : c ≤ 57
    · simp only [push_cast, ↓reduceIte, Nat.reduceEqDiff, Nat.reduceAdd, Nat.reduceMul, Nat.reduceSub, Nat.reduceLT, Nat.reduceLeDiff, reduceCtorEq, Nat.reduceMod, Int.reduceEq, Int.reduceLT, Int.reduceLE, Int.reduceToNat, dite_true, eq_true h, eq_true h2]; rw [show digitB c = true from by simp [digitB]; omega]; exact RetOk.p rfl rfl
    · simp only [push_cast, ↓reduceIte, Nat.reduceEqDiff, Nat.reduceAdd, Nat.reduceMul, Nat.reduceSub, Nat.reduceLT, Nat.reduceLeDiff, reduceCtorEq, Nat.reduceMod, Int.reduceEq, Int.reduceLT, Int.reduceLE, Int.reduceToNat, dite_true, eq_true h, h2]; rw [show digitB c = false from by simp [digitB]; omega]; exact RetOk.p rfl rfl
  · simp only [push_cast, ↓reduceIte, Nat.reduceEqDiff, Nat.reduceAdd, Nat.reduceMul, Nat.reduceSub, Nat.reduceLT, Nat.reduceLeDiff, reduceCtorEq, Nat.reduceMod, Int.reduceEq, Int.reduceLT, Int.reduceLE, Int.reduceToNat, dite_true, h]; rw [show digitB c = false from by simp [digitB]; omega]; exact RetOk.p rfl rfl
theorem p_reserved (s : ByteArray) (F : PH) : PFn Tryz.prog 48 [.string s] F (fun v _ => v = .bool (reservedB s)) := by
  refine Fn.intro (n := 10) (ts := [2]) Tryz.func48 rfl rfl rfl rfl (by simp) fun B hB => VC.go 100 ?_
  by_cases h1 : s = ⟨#[108, 101, 116]⟩
  · simp only [push_cast, ↓reduceIte, Nat.reduceEqDiff, Nat.reduceAdd, Nat.reduceMul, Nat.reduceSub, Nat.reduceLT, Nat.reduceLeDiff, reduceCtorEq, Nat.reduceMod, Int.reduceEq, Int.reduceLT, Int.reduceLE, Int.reduceToNat, dite_true, eq_true h1]; exact RetOk.p rfl (by simp [reservedB, reservedL, h1, rval])
  by_cases h2 : s = ⟨#[105, 110]⟩
  · simp only [push_cast, ↓reduceIte, Nat.reduceEqDiff, Nat.reduceAdd, Nat.reduceMul, Nat.reduceSub, Nat.reduceLT, Nat.reduceLeDiff, reduceCtorEq, Nat.reduceMod, Int.reduceEq, Int.reduceLT, Int.reduceLE, Int.reduceToNat, dite_true, h1, eq_true h2]; exact RetOk.p rfl (by simp [reservedB, reservedL, h2, rval])
  by_cases h3 : s = ⟨#[99, 97, 115, 101]⟩
  · simp only [push_cast, ↓reduceIte, Nat.reduceEqDiff, Nat.reduceAdd, Nat.reduceMul, Nat.reduceSub, Nat.reduceLT, Nat.reduceLeDiff, reduceCtorEq, Nat.reduceMod, Int.reduceEq, Int.reduceLT, Int.reduceLE, Int.reduceToNat, dite_true, h1, h2, eq_true h3]; exact RetOk.p rfl (by simp [reservedB, reservedL, h3, rval])
  by_cases h4 : s = ⟨#[111, 102]⟩
  · simp only [push_cast, ↓reduceIte, Nat.reduceEqDiff, Nat.reduceAdd, Nat.reduceMul, Nat.reduceSub, Nat.reduceLT, Nat.reduceLeDiff, reduceCtorEq, Nat.reduceMod, Int.reduceEq, Int.reduceLT, Int.reduceLE, Int.reduceToNat, dite_true, h1, h2, h3, eq_true h4]; exact RetOk.p rfl (by simp [reservedB, reservedL, h4, rval])
  by_cases h5 : s = ⟨#[100, 97, 116, 97]⟩
  · simp only [push_cast, ↓reduceIte, Nat.reduceEqDiff, Nat.reduceAdd, Nat.reduceMul, Nat.reduceSub, Nat.reduceLT, Nat.reduceLeDiff, reduceCtorEq, Nat.reduceMod, Int.reduceEq, Int.reduceLT, Int.reduceLE, Int.reduceToNat, dite_true, h1, h2, h3, h4, eq_true h5]; exact RetOk.p rfl (by simp [reservedB, reservedL, h5, rval])
  · simp only [push_cast, ↓reduceIte, Nat.reduceEqDiff, Nat.reduceAdd, Nat.reduceMul, Nat.reduceSub, Nat.reduceLT, Nat.reduceLeDiff, reduceCtorEq, Nat.reduceMod, Int.reduceEq, Int.reduceLT, Int.reduceLE, Int.reduceToNat, dite_true, h1, h2, h3, h4, h5]; exact RetOk.p rfl (by simp [reservedB, reservedL, h1, h2, h3, h4, h5, rval])
theorem p_sign (s : ByteArray) (F : PH) : PFn Tryz.prog 52 [.string s] F (fun v _ => v = .bool (signB s)) := by
  refine Fn.intro (n := 13) (ts := [2]) Tryz.func52 rfl rfl rfl rfl (by simp) fun B hB => VC.go 100 ?_
  by_cases h1 : s = ⟨#[45, 62]⟩
  · simp only [push_cast, ↓reduceIte, Nat.reduceEqDiff, Nat.reduceAdd, Nat.reduceMul, Nat.reduceSub, Nat.reduceLT, Nat.reduceLeDiff, reduceCtorEq, Nat.reduceMod, Int.reduceEq, Int.reduceLT, Int.reduceLE, Int.reduceToNat, dite_true, eq_true h1]; exact RetOk.p rfl (by simp [signB, signL, h1, rval])
  by_cases h2 : s = ⟨#[61]⟩
  · simp only [push_cast, ↓reduceIte, Nat.reduceEqDiff, Nat.reduceAdd, Nat.reduceMul, Nat.reduceSub, Nat.reduceLT, Nat.reduceLeDiff, reduceCtorEq, Nat.reduceMod, Int.reduceEq, Int.reduceLT, Int.reduceLE, Int.reduceToNat, dite_true, h1, eq_true h2]; exact RetOk.p rfl (by simp [signB, signL, h2, rval])
  by_cases h3 : s = ⟨#[92]⟩
  · simp only [push_cast, ↓reduceIte, Nat.reduceEqDiff, Nat.reduceAdd, Nat.reduceMul, Nat.reduceSub, Nat.reduceLT, Nat.reduceLeDiff, reduceCtorEq, Nat.reduceMod, Int.reduceEq, Int.reduceLT, Int.reduceLE, Int.reduceToNat, dite_true, h1, h2, eq_true h3]; exact RetOk.p rfl (by simp [signB, signL, h3, rval])
  by_cases h4 : s = ⟨#[123]⟩
  · simp only [push_cast, ↓reduceIte, Nat.reduceEqDiff, Nat.reduceAdd, Nat.reduceMul, Nat.reduceSub, Nat.reduceLT, Nat.reduceLeDiff, reduceCtorEq, Nat.reduceMod, Int.reduceEq, Int.reduceLT, Int.reduceLE, Int.reduceToNat, dite_true, h1, h2, h3, eq_true h4]; exact RetOk.p rfl (by simp [signB, signL, h4, rval])
  by_cases h5 : s = ⟨#[125]⟩
  · simp only [push_cast, ↓reduceIte, Nat.reduceEqDiff, Nat.reduceAdd, Nat.reduceMul, Nat.reduceSub, Nat.reduceLT, Nat.reduceLeDiff, reduceCtorEq, Nat.reduceMod, Int.reduceEq, Int.reduceLT, Int.reduceLE, Int.reduceToNat, dite_true, h1, h2, h3, h4, eq_true h5]; exact RetOk.p rfl (by simp [signB, signL, h5, rval])
  by_cases h6 : s = ⟨#[59]⟩
  · simp only [push_cast, ↓reduceIte, Nat.reduceEqDiff, Nat.reduceAdd, Nat.reduceMul, Nat.reduceSub, Nat.reduceLT, Nat.reduceLeDiff, reduceCtorEq, Nat.reduceMod, Int.reduceEq, Int.reduceLT, Int.reduceLE, Int.reduceToNat, dite_true, h1, h2, h3, h4, h5, eq_true h6]; exact RetOk.p rfl (by simp [signB, signL, h6, rval])
  by_cases h7 : s = ⟨#[40]⟩
  · simp only [push_cast, ↓reduceIte, Nat.reduceEqDiff, Nat.reduceAdd, Nat.reduceMul, Nat.reduceSub, Nat.reduceLT, Nat.reduceLeDiff, reduceCtorEq, Nat.reduceMod, Int.reduceEq, Int.reduceLT, Int.reduceLE, Int.reduceToNat, dite_true, h1, h2, h3, h4, h5, h6, eq_true h7]; exact RetOk.p rfl (by simp [signB, signL, h7, rval])
  by_cases h8 : s = ⟨#[41]⟩
  · simp only [push_cast, ↓reduceIte, Nat.reduceEqDiff, Nat.reduceAdd, Nat.reduceMul, Nat.reduceSub, Nat.reduceLT, Nat.reduceLeDiff, reduceCtorEq, Nat.reduceMod, Int.reduceEq, Int.reduceLT, Int.reduceLE, Int.reduceToNat, dite_true, h1, h2, h3, h4, h5, h6, h7, eq_true h8]; exact RetOk.p rfl (by simp [signB, signL, h8, rval])
  · simp only [push_cast, ↓reduceIte, Nat.reduceEqDiff, Nat.reduceAdd, Nat.reduceMul, Nat.reduceSub, Nat.reduceLT, Nat.reduceLeDiff, reduceCtorEq, Nat.reduceMod, Int.reduceEq, Int.reduceLT, Int.reduceLE, Int.reduceToNat, dite_true, h1, h2, h3, h4, h5, h6, h7, h8]; exact RetOk.p rfl (by simp [signB, signL, h1, h2, h3, h4, h5, h6, h7, h8, rval])
theorem p_inside (c : Int) (F : PH) : PFn Tryz.prog 47 [.int .u8 c] F (fun v _ => v = .bool (wordB c)) := by
  refine Fn.intro (n := 17) (ts := [2]) Tryz.func47 rfl rfl rfl rfl (by simp) fun B hB => VC.go 100 ?_
  simp only [push_cast, ↓reduceIte, Nat.reduceEqDiff, Nat.reduceAdd, Nat.reduceMul, Nat.reduceSub, Nat.reduceLT, Nat.reduceLeDiff, reduceCtorEq, Nat.reduceMod, Int.reduceEq, Int.reduceLT, Int.reduceLE, Int.reduceToNat, dite_true]
  refine CallV.pure (p_digit c F) ?_
  rintro _ F1 hF1 rfl
  cases h1 : digitB c with
  | true => simp only [push_cast, ↓reduceIte, Nat.reduceEqDiff, Nat.reduceAdd, Nat.reduceMul, Nat.reduceSub, Nat.reduceLT, Nat.reduceLeDiff, reduceCtorEq, Nat.reduceMod, Int.reduceEq, Int.reduceLT, Int.reduceLE, Int.reduceToNat, dite_true]; exact RetOk.p rfl (by simp [wordB, h1, rval])
  | false =>
  simp only [push_cast, ↓reduceIte, Nat.reduceEqDiff, Nat.reduceAdd, Nat.reduceMul, Nat.reduceSub, Nat.reduceLT, Nat.reduceLeDiff, reduceCtorEq, Nat.reduceMod, Int.reduceEq, Int.reduceLT, Int.reduceLE, Int.reduceToNat, dite_true]
  refine CallV.pure (p_small c F1) ?_
  rintro _ F2 hF2 rfl
  cases h2 : smallB c with
  | true => simp only [push_cast, ↓reduceIte, Nat.reduceEqDiff, Nat.reduceAdd, Nat.reduceMul, Nat.reduceSub, Nat.reduceLT, Nat.reduceLeDiff, reduceCtorEq, Nat.reduceMod, Int.reduceEq, Int.reduceLT, Int.reduceLE, Int.reduceToNat, dite_true]; exact RetOk.p rfl (by simp [wordB, h2, rval])
  | false =>
  simp only [push_cast, ↓reduceIte, Nat.reduceEqDiff, Nat.reduceAdd, Nat.reduceMul, Nat.reduceSub, Nat.reduceLT, Nat.reduceLeDiff, reduceCtorEq, Nat.reduceMod, Int.reduceEq, Int.reduceLT, Int.reduceLE, Int.reduceToNat, dite_true]
  refine CallV.pure (p_large c F2) ?_
  rintro _ F3 hF3 rfl
  cases h3 : largeB c with
  | true => simp only [push_cast, ↓reduceIte, Nat.reduceEqDiff, Nat.reduceAdd, Nat.reduceMul, Nat.reduceSub, Nat.reduceLT, Nat.reduceLeDiff, reduceCtorEq, Nat.reduceMod, Int.reduceEq, Int.reduceLT, Int.reduceLE, Int.reduceToNat, dite_true]; exact RetOk.p rfl (by simp [wordB, h3, rval])
  | false =>
  by_cases h4 : c = 95
  · simp only [push_cast, ↓reduceIte, Nat.reduceEqDiff, Nat.reduceAdd, Nat.reduceMul, Nat.reduceSub, Nat.reduceLT, Nat.reduceLeDiff, reduceCtorEq, Nat.reduceMod, Int.reduceEq, Int.reduceLT, Int.reduceLE, Int.reduceToNat, dite_true, eq_true h4]; exact RetOk.p rfl (by simp [wordB, h4, rval])
  · simp only [push_cast, ↓reduceIte, Nat.reduceEqDiff, Nat.reduceAdd, Nat.reduceMul, Nat.reduceSub, Nat.reduceLT, Nat.reduceLeDiff, reduceCtorEq, Nat.reduceMod, Int.reduceEq, Int.reduceLT, Int.reduceLE, Int.reduceToNat, dite_true, h4]; exact RetOk.p rfl (by simp [wordB, h1, h2, h3, h4, rval])
/-- A reader: a text, and a place in it. -/
def Rdr (F : PH) (p : Addr) (s : ByteArray) (a : Nat) : Prop := F.cell (p.add 0) = some (.string s) ∧ F.cell (p.add 1) = some (.int .i64 a)
theorem Rdr.mono {F G : PH} {p : Addr} {s : ByteArray} {a : Nat} (h : Rdr F p s a) (hl : F.le G) : Rdr G p s a := ⟨hl.cell h.1, hl.cell h.2⟩
/-- The byte at a place; 0: the text's end. -/
def atP (s : ByteArray) (i : Nat) : Int := if i < s.size then ch s i else 0
theorem p_byte (s : ByteArray) (a m : Nat) (hs : s.size ≤ maxLen) (hb : a + m ≤ 9223372036854775807) (F : PH) (p : Addr) (hr : Rdr F p s a) : PFn Tryz.prog 44 [.pointer (some p), .int .i64 m] F (fun v _ => v = .int .u8 (atP s (a + m))) := by
  obtain ⟨r1, r2⟩ := hr
  refine Fn.intro (n := 28) (ts := [4]) Tryz.func44 rfl rfl rfl rfl (by simp) fun B hB => VC.go 100 ?_
  simp only [push_cast, ↓reduceIte, Nat.reduceEqDiff, Nat.reduceAdd, Nat.reduceMul, Nat.reduceSub, Nat.reduceLT, Nat.reduceLeDiff, reduceCtorEq, Nat.reduceMod, Int.reduceEq, Int.reduceLT, Int.reduceLE, Int.reduceToNat, dite_true]
  refine VC.draw (.q 0 (.q 1 (.q 2 (.q 3 (.q 4 (.q 5 (.q 6 (.q 7 (.q 8 (.q 9 (.q 10 (.q 11 (.done))))))))))))) mixed (by rfl) ?_
  have hw : IntKind.i64.wrap ((a : Int) + (m : Int)) = ((a + m : Nat) : Int) := by rw [IntWalk.i64_in _ (by omega)]; omega
  simp only [push_cast, ↓reduceIte, Nat.reduceEqDiff, Nat.reduceAdd, Nat.reduceMul, Nat.reduceSub, Nat.reduceLT, Nat.reduceLeDiff, reduceCtorEq, Nat.reduceMod, Int.reduceEq, Int.reduceLT, Int.reduceLE, Int.reduceToNat, dite_true, r1, r2, hw]
  refine VC.go 100 ?_
  by_cases h : a + m < s.size
  · have h' : ((a : Int) + (m : Int)) < (s.size : Int) := by omega
    simp only [push_cast, ↓reduceIte, Nat.reduceEqDiff, Nat.reduceAdd, Nat.reduceMul, Nat.reduceSub, Nat.reduceLT, Nat.reduceLeDiff, reduceCtorEq, Nat.reduceMod, Int.reduceEq, Int.reduceLT, Int.reduceLE, Int.reduceToNat, dite_true, eq_true h']
    refine VC.draw (.q 0 (.q 1 (.q 2 (.q 3 (.q 4 (.q 5 (.q 6 (.q 7 (.q 8 (.q 9 (.q 10 (.q 11 (.done))))))))))))) mixed (by rfl) ?_
    have h0 : (0 : Int) ≤ (a : Int) + (m : Int) := by omega
    have ht : ((a : Int) + (m : Int)).toNat = a + m := by omega
    have hc : ((s.data.getD (a + m) 0).toNat : Int) = ch s (a + m) := rfl
    simp only [push_cast, ↓reduceIte, Nat.reduceEqDiff, Nat.reduceAdd, Nat.reduceMul, Nat.reduceSub, Nat.reduceLT, Nat.reduceLeDiff, reduceCtorEq, Nat.reduceMod, Int.reduceEq, Int.reduceLT, Int.reduceLE, Int.reduceToNat, dite_true, r1, r2, hw, eq_true h', eq_true h0, ht, hc]
    refine VC.go 100 ?_
    simp only [push_cast, ↓reduceIte, Nat.reduceEqDiff, Nat.reduceAdd, Nat.reduceMul, Nat.reduceSub, Nat.reduceLT, Nat.reduceLeDiff, reduceCtorEq, Nat.reduceMod, Int.reduceEq, Int.reduceLT, Int.reduceLE, Int.reduceToNat, dite_true]
    exact RetOk.p rfl (by unfold atP; rw [if_pos h]; rfl)
  · have h' : ¬ ((a : Int) + (m : Int)) < (s.size : Int) := by omega
    simp only [push_cast, ↓reduceIte, Nat.reduceEqDiff, Nat.reduceAdd, Nat.reduceMul, Nat.reduceSub, Nat.reduceLT, Nat.reduceLeDiff, reduceCtorEq, Nat.reduceMod, Int.reduceEq, Int.reduceLT, Int.reduceLE, Int.reduceToNat, dite_true, h']
    exact RetOk.p rfl (by unfold atP; rw [if_neg h]; rfl)
theorem p_run (f : FuncId) (pB : Int → Bool) (hf : ∀ (c : Int) (G : PH), PFn Tryz.prog f [.int .u8 c] G (fun v _ => v = .bool (pB c))) (s : ByteArray) (a m : Nat) (E : Nat → Nat) (hE : ∀ i, E i = if i < s.size ∧ pB (ch s i) = true then E (i + 1) else i)
    (hle : a ≤ E (a + m) ∧ E (a + m) ≤ s.size) (h1 : a + m ≤ s.size) (hs : s.size ≤ maxLen) (F : PH) (p : Addr) (hr : Rdr F p s a) : PFn Tryz.prog 46 [.pointer (some p), .int .i64 m, .func (.func f) #[] #[]] F (fun v _ => v = .string (s.extract a (E (a + m)))) := by
  obtain ⟨r1, r2⟩ := hr
  refine Fn.intro (n := 43) (ts := [6]) Tryz.func46 rfl rfl rfl rfl (by simp) fun B hB => VC.go 100 ?_
  have hw : IntKind.i64.wrap ((a : Int) + (m : Int)) = (a : Int) + (m : Int) := IntWalk.i64_in _ (by unfold maxLen at hs; omega)
  simp only [push_cast, ↓reduceIte, Nat.reduceEqDiff, Nat.reduceAdd, Nat.reduceMul, Nat.reduceSub, Nat.reduceLT, Nat.reduceLeDiff, reduceCtorEq, Nat.reduceMod, Int.reduceEq, Int.reduceLT, Int.reduceLE, Int.reduceToNat, dite_true, r1, r2, hw]
  refine VC.loopF (ι := Nat × PH) (fun i => [(7, .v (.int .i64 i.1)), (2, .v (.func (.func f) #[] #[])), (0, .v (.pointer (some p)))]) (fun i => i.2) (fun i => i.1 ≤ s.size ∧ F.le i.2 ∧ E i.1 = E (a + m)) (fun i => s.size - i.1) (a + m, F) ⟨h1, PH.le_refl _, rfl⟩ (by simp [subk, Eng.look]) rfl ?_
  rintro ⟨i, F1⟩ ⟨hi, hF1, he⟩ G hG
  dsimp only at hi hF1 he hG ⊢
  rw [hE] at he
  have q1 := hF1.cell r1
  have q2 := hF1.cell r2
  refine VC.go 100 ?_
  by_cases h : i < s.size
  case neg =>
    have h' : ¬ (i : Int) < (s.size : Int) := by omega
    rw [if_neg (fun k => h k.1)] at he
    simp only [push_cast, ↓reduceIte, Nat.reduceEqDiff, Nat.reduceAdd, Nat.reduceMul, Nat.reduceSub, Nat.reduceLT, Nat.reduceLeDiff, reduceCtorEq, Nat.reduceMod, Int.reduceEq, Int.reduceLT, Int.reduceLE, Int.reduceToNat, dite_true, q1, q2, h']
    refine VC.draw (.q 0 (.q 1 (.q 2 (.q 3 (.q 4 (.q 5 (.q 6 (.q 7 (.q 8 (.q 9 (.q 10 (.done)))))))))))) mixed (by rfl) ?_
    have hai : a ≤ i := by rw [he]; exact hle.1
    simp only [push_cast, ↓reduceIte, Nat.reduceEqDiff, Nat.reduceAdd, Nat.reduceMul, Nat.reduceSub, Nat.reduceLT, Nat.reduceLeDiff, reduceCtorEq, Nat.reduceMod, Int.reduceEq, Int.reduceLT, Int.reduceLE, Int.reduceToNat, dite_true, q1, q2, eq_true (show (0 : Int) ≤ (i : Int) by omega), eq_true (show (i : Int) ≤ (s.size : Int) by omega), eq_true (show (0 : Int) ≤ (a : Int) by omega), eq_true (show (a : Int) ≤ (i : Int) by omega)]
    trace_state
    refine VC.go 100 ?_
    simp only [push_cast, ↓reduceIte, Nat.reduceEqDiff, Nat.reduceAdd, Nat.reduceMul, Nat.reduceSub, Nat.reduceLT, Nat.reduceLeDiff, reduceCtorEq, Nat.reduceMod, Int.reduceEq, Int.reduceLT, Int.reduceLE, Int.reduceToNat, dite_true]
    exact RetOk.p rfl (by rw [← he]; rfl)
  have h' : (i : Int) < (s.size : Int) := by omega
  have h0 : (0 : Int) ≤ (i : Int) := by omega
  have hc : ((s.data.getD i 0).toNat : Int) = ch s i := rfl
  simp only [push_cast, ↓reduceIte, Nat.reduceEqDiff, Nat.reduceAdd, Nat.reduceMul, Nat.reduceSub, Nat.reduceLT, Nat.reduceLeDiff, reduceCtorEq, Nat.reduceMod, Int.reduceEq, Int.reduceLT, Int.reduceLE, Int.reduceToNat, dite_true, q1, q2, eq_true h', hc]
  refine CallV.pure (hf (ch s i) F1) ?_
  rintro _ F2 hF2 rfl
  cases hp : pB (ch s i) with
  | true =>
    rw [if_pos ⟨h, hp⟩] at he
    have e2 : IntKind.i64.wrap ((i : Int) + 1) = ((i + 1 : Nat) : Int) := wadd i h hs
    simp only [push_cast, ↓reduceIte, Nat.reduceEqDiff, Nat.reduceAdd, Nat.reduceMul, Nat.reduceSub, Nat.reduceLT, Nat.reduceLeDiff, reduceCtorEq, Nat.reduceMod, Int.reduceEq, Int.reduceLT, Int.reduceLE, Int.reduceToNat, dite_true, e2]
    exact hG (i + 1, F2) _ ⟨by dsimp only; omega, PH.le_trans hF1 hF2, he⟩ (by dsimp only; omega) (by simp [subk, Eng.look]) (List.Sublist.refl _) rfl rfl
  | false =>
    rw [if_neg (fun k => by rw [hp] at k; exact absurd k.2 (by simp))] at he
    simp only [push_cast, ↓reduceIte, Nat.reduceEqDiff, Nat.reduceAdd, Nat.reduceMul, Nat.reduceSub, Nat.reduceLT, Nat.reduceLeDiff, reduceCtorEq, Nat.reduceMod, Int.reduceEq, Int.reduceLT, Int.reduceLE, Int.reduceToNat, dite_true]
    have q3 := hF2.cell q1
    have q4 := hF2.cell q2
    refine VC.draw (.q 0 (.q 1 (.q 2 (.q 3 (.q 4 (.q 5 (.q 6 (.q 7 (.q 8 (.q 9 (.q 10 (.done)))))))))))) mixed (by rfl) ?_
    have hai : a ≤ i := by rw [he]; exact hle.1
    simp only [push_cast, ↓reduceIte, Nat.reduceEqDiff, Nat.reduceAdd, Nat.reduceMul, Nat.reduceSub, Nat.reduceLT, Nat.reduceLeDiff, reduceCtorEq, Nat.reduceMod, Int.reduceEq, Int.reduceLT, Int.reduceLE, Int.reduceToNat, dite_true, q3, q4, eq_true (show (0 : Int) ≤ (i : Int) by omega), eq_true (show (i : Int) ≤ (s.size : Int) by omega), eq_true (show (0 : Int) ≤ (a : Int) by omega), eq_true (show (a : Int) ≤ (i : Int) by omega)]
    trace_state
    refine VC.go 100 ?_
    simp only [push_cast, ↓reduceIte, Nat.reduceEqDiff, Nat.reduceAdd, Nat.reduceMul, Nat.reduceSub, Nat.reduceLT, Nat.reduceLeDiff, reduceCtorEq, Nat.reduceMod, Int.reduceEq, Int.reduceLT, Int.reduceLE, Int.reduceToNat, dite_true]
    exact RetOk.p rfl (by rw [← he]; rfl)
end Go.Proofs.YtmiekonofocboaaGreatDoor.X

/- The program's lexer, as a function of the text: numbers. -/
namespace Go.Proofs.YtmiekonofocboaaGreatDoor.X
open Go Go.Eng Go.Proofs Go.Proofs.YtmiekonofocboaaGreatDoor.T Go.Proofs.YtmiekonofocboaaGreatDoor.K
set_option linter.unusedSimpArgs false
set_option linter.unusedVariables false
set_option linter.unusedSectionVars false
set_option maxRecDepth 100000
set_option maxHeartbeats 4000000
theorem tdiv_neg10 (d : Int) (h : 0 ≤ d ∧ d ≤ 9) : (-9223372036854775808 + d).tdiv 10 = -((9223372036854775808 - d) / 10) := by
  have e : -9223372036854775808 + d = -(9223372036854775808 - d) := by omega
  rw [e, Int.neg_tdiv, Int.tdiv_eq_ediv_of_nonneg (by omega)]
theorem numP_shift (s : ByteArray) (h1 : 0 < s.size) : ∀ (n i : Nat) (x : Int), numP (s.extract 1 s.size) n i x = numP s n (i + 1) x
  | 0, i, x => rfl
  | n + 1, i, x => by
    have e : (s.extract 1 s.size).size = s.size - 1 := by rw [ByteArray.size_extract]; omega
    simp only [numP, e]
    by_cases h : i < s.size - 1
    · rw [if_pos h, ch_extract s (by omega) (Nat.le_refl _), Nat.add_comm 1 i, if_pos (show i + 1 < s.size by omega), numP_shift s h1 n (i + 1)]
    · rw [if_neg h, if_neg (show ¬ i + 1 < s.size by omega)]
theorem numE_shift (s : ByteArray) (h1 : 0 < s.size) : numE (s.extract 1 s.size) 0 0 = numE s 1 0 := by
  unfold numE
  have e : (s.extract 1 s.size).size = s.size - 1 := by rw [ByteArray.size_extract]; omega
  rw [e, Nat.sub_zero, numP_shift s h1]
theorem p_number (s : ByteArray) (h1 : 0 < s.size) (hs : s.size ≤ maxLen) (hdig : ∀ i, i < s.size → (0 < i ∨ ¬ ch s 0 = 45) → digitB (ch s i) = true) (F : PH) :
    PFn Tryz.prog 51 [.string s] F (fun v _ => ∃ m b, v = .tuple #[.int .i64 m, .bool b] ∧ intOf s = if b = true then some m else none) := by
  refine Fn.intro (n := 40) (ts := [2, 3]) Tryz.func51 rfl rfl rfl rfl (by simp) fun B hB => ?_
  have h0 : (0 : Int) < (s.size : Int) := by omega
  have hc : ((s.data.getD 0 0).toNat : Int) = ch s 0 := rfl
  refine VC.go 5 ?_
  simp only [push_cast, ↓reduceIte, Nat.reduceEqDiff, Nat.reduceAdd, Nat.reduceMul, Nat.reduceSub, Nat.reduceLT, Nat.reduceLeDiff, reduceCtorEq, Nat.reduceMod, Int.reduceEq, Int.reduceLT, Int.reduceLE, Int.reduceToNat, dite_true, h0, hc]
  obtain ⟨m, hm⟩ : ∃ m, m = decide (ch s 0 = 45) := ⟨_, rfl⟩
  rw [← hm]
  obtain ⟨t, ht⟩ : ∃ t, t = if m = true then s.extract 1 s.size else s := ⟨_, rfl⟩
  have hts : t.size ≤ s.size := by
    rw [ht]; split
    · rw [ByteArray.size_extract]; omega
    · exact Nat.le_refl _
  have htm : t.size ≤ maxLen := Nat.le_trans hts hs
  have hdt : ∀ i, i < t.size → digitB (ch t i) = true := by
    intro i hi
    cases hmm : m with
    | true =>
      rw [hmm, if_pos rfl] at ht
      rw [ht, ByteArray.size_extract] at hi
      rw [ht, ch_extract s (by omega) (Nat.le_refl _)]
      exact hdig (1 + i) (by omega) (.inl (by omega))
    | false =>
      rw [hmm, if_neg (by simp)] at ht
      rw [ht] at hi ⊢
      exact hdig i hi (.inr (by rw [hmm] at hm; simpa using hm.symm))
  have hint : intOf s = if m = true then (numE t 0 0).map fun x => -x else match numE t 0 0 with
      | some x => if x < 9223372036854775808 then some x else none
      | none => none := by
    unfold intOf
    cases hmm : m with
    | true =>
      rw [hmm, if_pos rfl] at ht
      rw [if_pos (by rw [hmm] at hm; simpa using hm.symm), if_pos rfl, ht, numE_shift s h1]
    | false =>
      rw [hmm, if_neg (by simp)] at ht
      rw [if_neg (by rw [hmm] at hm; simpa using hm.symm), if_neg (by simp), ht]
      rfl
  refine VC.cutG (ι := Unit) (fun _ => [(5, .v (.int .i64 0)), (4, .v (.bool m)), (0, .v (.string t))]) (fun _ => F) (fun _ => []) (fun _ => True) ?_ ?_
  · intro G hG
    refine VC.go 100 ?_
    cases m with
    | true =>
      rw [if_pos rfl] at ht
      simp only [push_cast, ↓reduceIte, Nat.reduceEqDiff, Nat.reduceAdd, Nat.reduceMul, Nat.reduceSub, Nat.reduceLT, Nat.reduceLeDiff, reduceCtorEq, Nat.reduceMod, Int.reduceEq, Int.reduceLT, Int.reduceLE, Int.reduceToNat, dite_true, eq_true (show (1 : Int) ≤ (s.size : Int) by omega)]
      exact hG () _ trivial (by simp [subk, Eng.look, ht]) (List.Sublist.refl _) rfl (List.Sublist.refl _)
    | false =>
      rw [if_neg (by simp)] at ht
      simp only [push_cast, ↓reduceIte, Nat.reduceEqDiff, Nat.reduceAdd, Nat.reduceMul, Nat.reduceSub, Nat.reduceLT, Nat.reduceLeDiff, reduceCtorEq, Nat.reduceMod, Int.reduceEq, Int.reduceLT, Int.reduceLE, Int.reduceToNat, dite_true]
      exact hG () _ trivial (by simp [subk, Eng.look, ht]) (List.Sublist.refl _) rfl (List.Sublist.refl _)
  intro _ _
  refine VC.go 100 ?_
  simp only [push_cast, ↓reduceIte, Nat.reduceEqDiff, Nat.reduceAdd, Nat.reduceMul, Nat.reduceSub, Nat.reduceLT, Nat.reduceLeDiff, reduceCtorEq, Nat.reduceMod, Int.reduceEq, Int.reduceLT, Int.reduceLE, Int.reduceToNat, dite_true]
  refine VC.loopL (fun i : Nat × Int => [(16, .v (.int .i64 i.1)), (15, .v (.int .i64 t.size)), (5, .v (.int .i64 (-i.2))), (4, .v (.bool m)), (0, .v (.string t))]) (fun i => i.1 ≤ t.size ∧ 0 ≤ i.2 ∧ i.2 ≤ 9223372036854775808 ∧ numE t i.1 i.2 = numE t 0 0) (fun i => t.size - i.1) (0, 0) ⟨Nat.zero_le _, Int.le_refl _, by simp, rfl⟩ (by simp [subk, Eng.look]) ?_
  rintro ⟨i, x⟩ ⟨hi, hx0, hx1, hnum⟩ G hG
  dsimp only at hi hx0 hx1 hnum hG ⊢
  rw [numE_eq] at hnum
  refine VC.go 100 ?_
  by_cases h : i < t.size
  case neg =>
    have h' : ¬ (i : Int) < (t.size : Int) := by omega
    rw [if_neg h] at hnum
    cases m with
    | true =>
      simp only [push_cast, ↓reduceIte, Nat.reduceEqDiff, Nat.reduceAdd, Nat.reduceMul, Nat.reduceSub, Nat.reduceLT, Nat.reduceLeDiff, reduceCtorEq, Nat.reduceMod, Int.reduceEq, Int.reduceLT, Int.reduceLE, Int.reduceToNat, dite_true, h']
      exact RetOk.p rfl ⟨_, _, rfl, by rw [hint, if_pos rfl, ← hnum]; rfl⟩
    | false =>
      by_cases g : x = 9223372036854775808
      · subst g
        simp only [push_cast, ↓reduceIte, Nat.reduceEqDiff, Nat.reduceAdd, Nat.reduceMul, Nat.reduceSub, Nat.reduceLT, Nat.reduceLeDiff, reduceCtorEq, Nat.reduceMod, Int.reduceEq, Int.reduceLT, Int.reduceLE, Int.reduceToNat, dite_true, h']
        exact RetOk.p rfl ⟨_, _, rfl, by rw [hint, if_neg (by simp), ← hnum]; rfl⟩
      · have e1 : IntKind.i64.wrap (0 - -x) = x := by rw [IntWalk.i64_in _ (by omega)]; omega
        simp only [push_cast, ↓reduceIte, Nat.reduceEqDiff, Nat.reduceAdd, Nat.reduceMul, Nat.reduceSub, Nat.reduceLT, Nat.reduceLeDiff, reduceCtorEq, Nat.reduceMod, Int.reduceEq, Int.reduceLT, Int.reduceLE, Int.reduceToNat, dite_true, h', e1, eq_false (show ¬ -x = -9223372036854775808 by omega)]
        refine RetOk.p rfl ⟨_, _, rfl, ?_⟩
        rw [hint, if_neg (by simp), ← hnum]
        simp
        omega
  rw [if_pos h] at hnum
  have h' : (i : Int) < (t.size : Int) := by omega
  have h00 : (0 : Int) ≤ (i : Int) := by omega
  have e2 : IntKind.i64.wrap ((i : Int) + 1) = ((i + 1 : Nat) : Int) := wadd i h htm
  have hc : ((t.data.getD i 0).toNat : Int) = ch t i := rfl
  have hd1 : 48 ≤ ch t i ∧ ch t i ≤ 57 := by simpa [digitB] using hdt i h
  have e5 : IntKind.u8.wrap (ch t i - 48) = ch t i - 48 := IntWalk.u8_in _ (by omega)
  have e8 : IntKind.i64.wrap (ch t i - 48) = ch t i - 48 := IntWalk.i64_in _ (by omega)
  have e9 : IntKind.i64.wrap (-9223372036854775808 + (ch t i - 48)) = -9223372036854775808 + (ch t i - 48) := IntWalk.i64_in _ (by omega)
  have e7 := tdiv_neg10 (ch t i - 48) (by omega)
  have e10 : IntKind.i64.wrap (-((9223372036854775808 - (ch t i - 48)) / 10)) = -((9223372036854775808 - (ch t i - 48)) / 10) := IntWalk.i64_in _ (by omega)
  by_cases hdv : (9223372036854775808 - (ch t i - 48)) / 10 < x
  · rw [if_pos (by omega)] at hnum
    simp only [push_cast, ↓reduceIte, Nat.reduceEqDiff, Nat.reduceAdd, Nat.reduceMul, Nat.reduceSub, Nat.reduceLT, Nat.reduceLeDiff, reduceCtorEq, Nat.reduceMod, Int.reduceEq, Int.reduceLT, Int.reduceLE, Int.reduceToNat, dite_true, h', h00, hc, e5, e8, e9, e7, e10, eq_true (show -x < -((9223372036854775808 - (ch t i - 48)) / 10) by omega)]
    refine RetOk.p rfl ⟨_, _, rfl, ?_⟩
    rw [hint, ← hnum]
    cases m <;> rfl
  · rw [if_neg (by omega)] at hnum
    have e11 : IntKind.i64.wrap (-x * 10) = -x * 10 := IntWalk.i64_in _ (by omega)
    have e12 : IntKind.i64.wrap (-x * 10 - (ch t i - 48)) = -(x * 10 + (ch t i - 48)) := by rw [IntWalk.i64_in _ (by omega)]; omega
    simp only [push_cast, ↓reduceIte, Nat.reduceEqDiff, Nat.reduceAdd, Nat.reduceMul, Nat.reduceSub, Nat.reduceLT, Nat.reduceLeDiff, reduceCtorEq, Nat.reduceMod, Int.reduceEq, Int.reduceLT, Int.reduceLE, Int.reduceToNat, dite_true, h', h00, hc, e5, e8, e9, e7, e10, eq_false (show ¬ -x < -((9223372036854775808 - (ch t i - 48)) / 10) by omega), e2, e11, e12]
    exact hG (i + 1, x * 10 + (ch t i - 48)) _ ⟨by dsimp only; omega, by dsimp only; omega, by dsimp only; omega, hnum⟩ (by simp; omega) (by simp [subk, Eng.look]) (List.Sublist.refl _) rfl rfl
end Go.Proofs.YtmiekonofocboaaGreatDoor.X

/- The program's lexer, as a function of the text: one token. -/
namespace Go.Proofs.YtmiekonofocboaaGreatDoor.X
open Go Go.Eng Go.Proofs Go.Proofs.YtmiekonofocboaaGreatDoor.T Go.Proofs.YtmiekonofocboaaGreatDoor.K
set_option linter.unusedSimpArgs false
set_option linter.unusedVariables false
set_option linter.unusedSectionVars false
set_option maxRecDepth 100000
set_option maxHeartbeats 4000000
/-- The token that begins at a place, its text, and what is wrong. -/
def tokP (s : ByteArray) (a : Nat) : Tok × ByteArray × Int :=
  if smallB (ch s a) = true then (if reservedB (s.extract a (runE s a)) = true then (⟨6, s.extract a (runE s a), 0, 0⟩, s.extract a (runE s a), 0) else (⟨1, s.extract a (runE s a), 0, 0⟩, s.extract a (runE s a), 0))
  else if largeB (ch s a) = true then (⟨2, s.extract a (runE s a), 0, 0⟩, s.extract a (runE s a), 0)
  else if ch s a = 35 ∧ smallB (nxt s a) = true then (⟨3, s.extract a (runE s (a + 1)), 0, 0⟩, s.extract a (runE s (a + 1)), 0)
  else if digitB (ch s a) = true ∨ (ch s a = 45 ∧ digitB (nxt s a) = true) then
    match intOf (s.extract a (digE s (a + 1))) with
    | some m => (⟨4, ⟨#[]⟩, m, 0⟩, s.extract a (digE s (a + 1)), 0)
    | none => (tok0, s.extract a (digE s (a + 1)), 22)
  else if ch s a = 45 ∧ nxt s a = 62 then (⟨5, arrow, 0, 0⟩, arrow, 0)
  else if ¬ ch s a = 45 ∧ signB (Utf8.encode (ch s a)) = true then (⟨5, Utf8.encode (ch s a), 0, 0⟩, Utf8.encode (ch s a), 0)
  else (tok0, ⟨#[]⟩, 20)
abbrev tokV (r : Tok × ByteArray × Int) : Value := .tuple #[.agg (tokC r.1).toArray, .string r.2.1, .int .i64 r.2.2]
theorem p_token (s : ByteArray) (a : Nat) (ha : a < s.size) (hs : s.size ≤ maxLen) (F : PH) (p : Addr) (hr : Rdr F p s a) : PFn Tryz.prog 37 [.pointer (some p)] F (fun v _ => v = tokV (tokP s a)) := by
  have hml : maxLen ≤ 9223372036854775807 := by decide
  have b0 : ∀ G, F.le G → PFn Tryz.prog 44 [.pointer (some p), .int .i64 0] G (fun v _ => v = .int .u8 (ch s a)) := fun G hG => by
    have := p_byte s a 0 hs (by omega) G p (hr.mono hG)
    rw [show atP s (a + 0) = ch s a from by unfold atP; rw [if_pos (by omega)]; rfl] at this
    exact this
  have b1 : ∀ G, F.le G → PFn Tryz.prog 44 [.pointer (some p), .int .i64 1] G (fun v _ => v = .int .u8 (nxt s a)) := fun G hG => p_byte s a 1 hs (by omega) G p (hr.mono hG)
  have r0 : ∀ G, F.le G → PFn Tryz.prog 46 [.pointer (some p), .int .i64 0, .func (.func 47) #[] #[]] G (fun v _ => v = .string (s.extract a (runE s a))) := fun G hG =>
    p_run _ wordB p_inside s a 0 (runE s) (fun i => runE_eq s i) (runE_le s (by omega)) (by omega) hs G p (hr.mono hG)
  have r1 : ∀ G, F.le G → PFn Tryz.prog 46 [.pointer (some p), .int .i64 1, .func (.func 47) #[] #[]] G (fun v _ => v = .string (s.extract a (runE s (a + 1)))) := fun G hG =>
    p_run _ wordB p_inside s a 1 (runE s) (fun i => runE_eq s i) (by have := runE_le s (i := a + 1) (by omega); omega) (by omega) hs G p (hr.mono hG)
  have r2 : ∀ G, F.le G → PFn Tryz.prog 46 [.pointer (some p), .int .i64 1, .func (.func 50) #[] #[]] G (fun v _ => v = .string (s.extract a (digE s (a + 1)))) := fun G hG =>
    p_run _ digitB p_digit s a 1 (digE s) (fun i => digE_eq s i) (by have := digE_le s (i := a + 1) (by omega); omega) (by omega) hs G p (hr.mono hG)
  have hdl := digE_le s (i := a + 1) (by omega)
  have hexs : (s.extract a (digE s (a + 1))).size ≤ maxLen ∧ 0 < (s.extract a (digE s (a + 1))).size := by
    rw [ByteArray.size_extract]; omega
  have hch : 0 ≤ ch s a ∧ ch s a ≤ 255 := by
    have := UInt8.toNat_lt (s.data.getD a 0)
    unfold ch; omega
  have hwr : IntKind.i32.wrap (ch s a) = ch s a := IntWalk.i32_in _ (by omega)
  refine Fn.intro (n := 100) (ts := [.cell 2 71, 3, 4]) Tryz.func37 rfl rfl rfl rfl (by simp) fun B hB => VC.go 100 ?_
  simp only [push_cast, ↓reduceIte, Nat.reduceEqDiff, Nat.reduceAdd, Nat.reduceMul, Nat.reduceSub, Nat.reduceLT, Nat.reduceLeDiff, reduceCtorEq, Nat.reduceMod, Int.reduceEq, Int.reduceLT, Int.reduceLE, Int.reduceToNat, dite_true]
  intro b2
  refine CallV.pure (b0 F (PH.le_refl _)) ?_
  rintro _ F1 hF1 rfl
  simp only [push_cast, ↓reduceIte, Nat.reduceEqDiff, Nat.reduceAdd, Nat.reduceMul, Nat.reduceSub, Nat.reduceLT, Nat.reduceLeDiff, reduceCtorEq, Nat.reduceMod, Int.reduceEq, Int.reduceLT, Int.reduceLE, Int.reduceToNat, dite_true]
  refine CallV.pure (p_small (ch s a) F1) ?_
  rintro _ F2 hF2 rfl
  have g2 := PH.le_trans hF1 hF2
  cases c1 : smallB (ch s a) with
  | true =>
    simp only [push_cast, ↓reduceIte, Nat.reduceEqDiff, Nat.reduceAdd, Nat.reduceMul, Nat.reduceSub, Nat.reduceLT, Nat.reduceLeDiff, reduceCtorEq, Nat.reduceMod, Int.reduceEq, Int.reduceLT, Int.reduceLE, Int.reduceToNat, dite_true]
    refine CallV.pure (r0 F2 g2) ?_
    rintro _ F3 hF3 rfl
    simp only [push_cast, ↓reduceIte, Nat.reduceEqDiff, Nat.reduceAdd, Nat.reduceMul, Nat.reduceSub, Nat.reduceLT, Nat.reduceLeDiff, reduceCtorEq, Nat.reduceMod, Int.reduceEq, Int.reduceLT, Int.reduceLE, Int.reduceToNat, dite_true]
    refine CallV.pure (p_reserved _ F3) ?_
    rintro _ F4 hF4 rfl
    cases c2 : reservedB (s.extract a (runE s a)) with
    | true =>
      simp only [push_cast, ↓reduceIte, Nat.reduceEqDiff, Nat.reduceAdd, Nat.reduceMul, Nat.reduceSub, Nat.reduceLT, Nat.reduceLeDiff, reduceCtorEq, Nat.reduceMod, Int.reduceEq, Int.reduceLT, Int.reduceLE, Int.reduceToNat, dite_true]
      refine ⟨[_, _, _], [], (by simp only [push_cast, ↓reduceIte, Nat.reduceEqDiff, Nat.reduceAdd, Nat.reduceMul, Nat.reduceSub, Nat.reduceLT, Nat.reduceLeDiff, reduceCtorEq, Nat.reduceMod, Int.reduceEq, Int.reduceLT, Int.reduceLE, Int.reduceToNat, dite_true, rvals, rval1]; rfl), .sub (List.nil_sublist _), rfl, ?_⟩
      rw [show tokP s a = _ from by unfold tokP; rw [if_pos c1, if_pos c2]]; rfl
    | false =>
      simp only [push_cast, ↓reduceIte, Nat.reduceEqDiff, Nat.reduceAdd, Nat.reduceMul, Nat.reduceSub, Nat.reduceLT, Nat.reduceLeDiff, reduceCtorEq, Nat.reduceMod, Int.reduceEq, Int.reduceLT, Int.reduceLE, Int.reduceToNat, dite_true]
      refine ⟨[_, _, _], [], (by simp only [push_cast, ↓reduceIte, Nat.reduceEqDiff, Nat.reduceAdd, Nat.reduceMul, Nat.reduceSub, Nat.reduceLT, Nat.reduceLeDiff, reduceCtorEq, Nat.reduceMod, Int.reduceEq, Int.reduceLT, Int.reduceLE, Int.reduceToNat, dite_true, rvals, rval1]; rfl), .sub (List.nil_sublist _), rfl, ?_⟩
      rw [show tokP s a = _ from by unfold tokP; rw [if_pos c1, if_neg (by rw [c2]; decide)]]; rfl
  | false =>
  simp only [push_cast, ↓reduceIte, Nat.reduceEqDiff, Nat.reduceAdd, Nat.reduceMul, Nat.reduceSub, Nat.reduceLT, Nat.reduceLeDiff, reduceCtorEq, Nat.reduceMod, Int.reduceEq, Int.reduceLT, Int.reduceLE, Int.reduceToNat, dite_true]
  refine CallV.pure (p_large (ch s a) F2) ?_
  rintro _ F3 hF3 rfl
  have g3 := PH.le_trans g2 hF3
  cases c2 : largeB (ch s a) with
  | true =>
    simp only [push_cast, ↓reduceIte, Nat.reduceEqDiff, Nat.reduceAdd, Nat.reduceMul, Nat.reduceSub, Nat.reduceLT, Nat.reduceLeDiff, reduceCtorEq, Nat.reduceMod, Int.reduceEq, Int.reduceLT, Int.reduceLE, Int.reduceToNat, dite_true]
    refine CallV.pure (r0 F3 g3) ?_
    rintro _ F4 hF4 rfl
    simp only [push_cast, ↓reduceIte, Nat.reduceEqDiff, Nat.reduceAdd, Nat.reduceMul, Nat.reduceSub, Nat.reduceLT, Nat.reduceLeDiff, reduceCtorEq, Nat.reduceMod, Int.reduceEq, Int.reduceLT, Int.reduceLE, Int.reduceToNat, dite_true]
    refine ⟨[_, _, _], [], (by simp only [push_cast, ↓reduceIte, Nat.reduceEqDiff, Nat.reduceAdd, Nat.reduceMul, Nat.reduceSub, Nat.reduceLT, Nat.reduceLeDiff, reduceCtorEq, Nat.reduceMod, Int.reduceEq, Int.reduceLT, Int.reduceLE, Int.reduceToNat, dite_true, rvals, rval1]; rfl), .sub (List.nil_sublist _), rfl, ?_⟩
    rw [show tokP s a = _ from by unfold tokP; rw [if_neg (by rw [c1]; decide), if_pos c2]]; rfl
  | false =>
  have tail : ∀ (F4 : PH), F.le F4 → ¬ (ch s a = 35 ∧ smallB (nxt s a) = true) → True := fun _ _ _ => trivial
  by_cases c3 : ch s a = 35
  · simp only [push_cast, ↓reduceIte, Nat.reduceEqDiff, Nat.reduceAdd, Nat.reduceMul, Nat.reduceSub, Nat.reduceLT, Nat.reduceLeDiff, reduceCtorEq, Nat.reduceMod, Int.reduceEq, Int.reduceLT, Int.reduceLE, Int.reduceToNat, dite_true, eq_true c3]
    refine CallV.pure (b1 F3 g3) ?_
    rintro _ F4 hF4 rfl
    have g4 := PH.le_trans g3 hF4
    simp only [push_cast, ↓reduceIte, Nat.reduceEqDiff, Nat.reduceAdd, Nat.reduceMul, Nat.reduceSub, Nat.reduceLT, Nat.reduceLeDiff, reduceCtorEq, Nat.reduceMod, Int.reduceEq, Int.reduceLT, Int.reduceLE, Int.reduceToNat, dite_true, eq_true c3]
    refine CallV.pure (p_small (nxt s a) F4) ?_
    rintro _ F5 hF5 rfl
    have g5 := PH.le_trans g4 hF5
    cases c4 : smallB (nxt s a) with
    | true =>
      simp only [push_cast, ↓reduceIte, Nat.reduceEqDiff, Nat.reduceAdd, Nat.reduceMul, Nat.reduceSub, Nat.reduceLT, Nat.reduceLeDiff, reduceCtorEq, Nat.reduceMod, Int.reduceEq, Int.reduceLT, Int.reduceLE, Int.reduceToNat, dite_true, eq_true c3]
      refine CallV.pure (r1 F5 g5) ?_
      rintro _ F6 hF6 rfl
      simp only [push_cast, ↓reduceIte, Nat.reduceEqDiff, Nat.reduceAdd, Nat.reduceMul, Nat.reduceSub, Nat.reduceLT, Nat.reduceLeDiff, reduceCtorEq, Nat.reduceMod, Int.reduceEq, Int.reduceLT, Int.reduceLE, Int.reduceToNat, dite_true]
      refine ⟨[_, _, _], [], (by simp only [push_cast, ↓reduceIte, Nat.reduceEqDiff, Nat.reduceAdd, Nat.reduceMul, Nat.reduceSub, Nat.reduceLT, Nat.reduceLeDiff, reduceCtorEq, Nat.reduceMod, Int.reduceEq, Int.reduceLT, Int.reduceLE, Int.reduceToNat, dite_true, rvals, rval1]; rfl), .sub (List.nil_sublist _), rfl, ?_⟩
      rw [show tokP s a = _ from by unfold tokP; rw [if_neg (by rw [c1]; decide), if_neg (by rw [c2]; decide), if_pos ⟨c3, c4⟩]]; rfl
    | false =>
      have d1 : digitB (ch s a) = false := by rw [c3]; rfl
      have n45 : ¬ ch s a = 45 := by omega
      have sg : signB (Utf8.encode (ch s a)) = false := by rw [c3]; decide
      simp only [push_cast, ↓reduceIte, Nat.reduceEqDiff, Nat.reduceAdd, Nat.reduceMul, Nat.reduceSub, Nat.reduceLT, Nat.reduceLeDiff, reduceCtorEq, Nat.reduceMod, Int.reduceEq, Int.reduceLT, Int.reduceLE, Int.reduceToNat, dite_true, eq_true c3]
      refine CallV.pure (p_digit (ch s a) F5) ?_
      rintro _ F6 hF6 rfl
      rw [d1]
      simp only [push_cast, ↓reduceIte, Nat.reduceEqDiff, Nat.reduceAdd, Nat.reduceMul, Nat.reduceSub, Nat.reduceLT, Nat.reduceLeDiff, reduceCtorEq, Nat.reduceMod, Int.reduceEq, Int.reduceLT, Int.reduceLE, Int.reduceToNat, dite_true, n45, hwr]
      refine CallV.pure (p_sign _ F6) ?_
      rintro _ F7 hF7 rfl
      rw [sg]
      simp only [push_cast, ↓reduceIte, Nat.reduceEqDiff, Nat.reduceAdd, Nat.reduceMul, Nat.reduceSub, Nat.reduceLT, Nat.reduceLeDiff, reduceCtorEq, Nat.reduceMod, Int.reduceEq, Int.reduceLT, Int.reduceLE, Int.reduceToNat, dite_true, n45, hwr]
      refine ⟨[_, _, _], [], (by simp only [push_cast, ↓reduceIte, Nat.reduceEqDiff, Nat.reduceAdd, Nat.reduceMul, Nat.reduceSub, Nat.reduceLT, Nat.reduceLeDiff, reduceCtorEq, Nat.reduceMod, Int.reduceEq, Int.reduceLT, Int.reduceLE, Int.reduceToNat, dite_true, rvals, rval1]; rfl), .sub (List.nil_sublist _), rfl, ?_⟩
      rw [show tokP s a = _ from by unfold tokP; rw [if_neg (by rw [c1]; decide), if_neg (by rw [c2]; decide), if_neg (fun k => by rw [c4] at k; exact absurd k.2 (by decide)), if_neg (fun k => by rcases k with k | k; rw [d1] at k; exact absurd k (by decide); exact n45 k.1), if_neg (fun k => n45 k.1), if_neg (fun k => by rw [sg] at k; exact absurd k.2 (by decide))]]; rfl
  have N3 : ¬ (ch s a = 35 ∧ smallB (nxt s a) = true) := fun k => c3 k.1
  simp only [push_cast, ↓reduceIte, Nat.reduceEqDiff, Nat.reduceAdd, Nat.reduceMul, Nat.reduceSub, Nat.reduceLT, Nat.reduceLeDiff, reduceCtorEq, Nat.reduceMod, Int.reduceEq, Int.reduceLT, Int.reduceLE, Int.reduceToNat, dite_true, c3]
  refine CallV.pure (p_digit (ch s a) F3) ?_
  rintro _ F4 hF4 rfl
  have g4 := PH.le_trans g3 hF4
  have fin : ∀ (F5 : PH), True := fun _ => trivial
  cases d1 : digitB (ch s a) with
  | true =>
    simp only [push_cast, ↓reduceIte, Nat.reduceEqDiff, Nat.reduceAdd, Nat.reduceMul, Nat.reduceSub, Nat.reduceLT, Nat.reduceLeDiff, reduceCtorEq, Nat.reduceMod, Int.reduceEq, Int.reduceLT, Int.reduceLE, Int.reduceToNat, dite_true]
    refine CallV.pure (r2 F4 g4) ?_
    rintro _ F5 hF5 rfl
    simp only [push_cast, ↓reduceIte, Nat.reduceEqDiff, Nat.reduceAdd, Nat.reduceMul, Nat.reduceSub, Nat.reduceLT, Nat.reduceLeDiff, reduceCtorEq, Nat.reduceMod, Int.reduceEq, Int.reduceLT, Int.reduceLE, Int.reduceToNat, dite_true]
    refine CallV.pure (p_number _ hexs.2 hexs.1 (int_pre ha (.inl d1)) F5) ?_
    rintro _ F6 hF6 ⟨m, b, rfl, hio⟩
    cases b with
    | true =>
      simp only [push_cast, ↓reduceIte, Nat.reduceEqDiff, Nat.reduceAdd, Nat.reduceMul, Nat.reduceSub, Nat.reduceLT, Nat.reduceLeDiff, reduceCtorEq, Nat.reduceMod, Int.reduceEq, Int.reduceLT, Int.reduceLE, Int.reduceToNat, dite_true]
      refine ⟨[_, _, _], [], (by simp only [push_cast, ↓reduceIte, Nat.reduceEqDiff, Nat.reduceAdd, Nat.reduceMul, Nat.reduceSub, Nat.reduceLT, Nat.reduceLeDiff, reduceCtorEq, Nat.reduceMod, Int.reduceEq, Int.reduceLT, Int.reduceLE, Int.reduceToNat, dite_true, rvals, rval1]; rfl), .sub (List.nil_sublist _), rfl, ?_⟩
      rw [show tokP s a = _ from by unfold tokP; rw [if_neg (by rw [c1]; decide), if_neg (by rw [c2]; decide), if_neg N3, if_pos (.inl d1), hio]]; rfl
    | false =>
      simp only [push_cast, ↓reduceIte, Nat.reduceEqDiff, Nat.reduceAdd, Nat.reduceMul, Nat.reduceSub, Nat.reduceLT, Nat.reduceLeDiff, reduceCtorEq, Nat.reduceMod, Int.reduceEq, Int.reduceLT, Int.reduceLE, Int.reduceToNat, dite_true]
      refine ⟨[_, _, _], [], (by simp only [push_cast, ↓reduceIte, Nat.reduceEqDiff, Nat.reduceAdd, Nat.reduceMul, Nat.reduceSub, Nat.reduceLT, Nat.reduceLeDiff, reduceCtorEq, Nat.reduceMod, Int.reduceEq, Int.reduceLT, Int.reduceLE, Int.reduceToNat, dite_true, rvals, rval1]; rfl), .sub (List.nil_sublist _), rfl, ?_⟩
      rw [show tokP s a = _ from by unfold tokP; rw [if_neg (by rw [c1]; decide), if_neg (by rw [c2]; decide), if_neg N3, if_pos (.inl d1), hio]]; rfl
  | false =>
  by_cases c5 : ch s a = 45
  · simp only [push_cast, ↓reduceIte, Nat.reduceEqDiff, Nat.reduceAdd, Nat.reduceMul, Nat.reduceSub, Nat.reduceLT, Nat.reduceLeDiff, reduceCtorEq, Nat.reduceMod, Int.reduceEq, Int.reduceLT, Int.reduceLE, Int.reduceToNat, dite_true, eq_true c5]
    refine CallV.pure (b1 F4 g4) ?_
    rintro _ F5 hF5 rfl
    have g5 := PH.le_trans g4 hF5
    simp only [push_cast, ↓reduceIte, Nat.reduceEqDiff, Nat.reduceAdd, Nat.reduceMul, Nat.reduceSub, Nat.reduceLT, Nat.reduceLeDiff, reduceCtorEq, Nat.reduceMod, Int.reduceEq, Int.reduceLT, Int.reduceLE, Int.reduceToNat, dite_true, eq_true c5]
    refine CallV.pure (p_digit (nxt s a) F5) ?_
    rintro _ F6 hF6 rfl
    have g6 := PH.le_trans g5 hF6
    cases d2 : digitB (nxt s a) with
    | true =>
      simp only [push_cast, ↓reduceIte, Nat.reduceEqDiff, Nat.reduceAdd, Nat.reduceMul, Nat.reduceSub, Nat.reduceLT, Nat.reduceLeDiff, reduceCtorEq, Nat.reduceMod, Int.reduceEq, Int.reduceLT, Int.reduceLE, Int.reduceToNat, dite_true, eq_true c5]
      refine CallV.pure (r2 F6 g6) ?_
      rintro _ F7 hF7 rfl
      simp only [push_cast, ↓reduceIte, Nat.reduceEqDiff, Nat.reduceAdd, Nat.reduceMul, Nat.reduceSub, Nat.reduceLT, Nat.reduceLeDiff, reduceCtorEq, Nat.reduceMod, Int.reduceEq, Int.reduceLT, Int.reduceLE, Int.reduceToNat, dite_true]
      refine CallV.pure (p_number _ hexs.2 hexs.1 (int_pre ha (.inr c5)) F7) ?_
      rintro _ F8 hF8 ⟨m, b, rfl, hio⟩
      cases b with
      | true =>
        simp only [push_cast, ↓reduceIte, Nat.reduceEqDiff, Nat.reduceAdd, Nat.reduceMul, Nat.reduceSub, Nat.reduceLT, Nat.reduceLeDiff, reduceCtorEq, Nat.reduceMod, Int.reduceEq, Int.reduceLT, Int.reduceLE, Int.reduceToNat, dite_true]
        refine ⟨[_, _, _], [], (by simp only [push_cast, ↓reduceIte, Nat.reduceEqDiff, Nat.reduceAdd, Nat.reduceMul, Nat.reduceSub, Nat.reduceLT, Nat.reduceLeDiff, reduceCtorEq, Nat.reduceMod, Int.reduceEq, Int.reduceLT, Int.reduceLE, Int.reduceToNat, dite_true, rvals, rval1]; rfl), .sub (List.nil_sublist _), rfl, ?_⟩
        rw [show tokP s a = _ from by unfold tokP; rw [if_neg (by rw [c1]; decide), if_neg (by rw [c2]; decide), if_neg N3, if_pos (.inr ⟨c5, d2⟩), hio]]; rfl
      | false =>
        simp only [push_cast, ↓reduceIte, Nat.reduceEqDiff, Nat.reduceAdd, Nat.reduceMul, Nat.reduceSub, Nat.reduceLT, Nat.reduceLeDiff, reduceCtorEq, Nat.reduceMod, Int.reduceEq, Int.reduceLT, Int.reduceLE, Int.reduceToNat, dite_true]
        refine ⟨[_, _, _], [], (by simp only [push_cast, ↓reduceIte, Nat.reduceEqDiff, Nat.reduceAdd, Nat.reduceMul, Nat.reduceSub, Nat.reduceLT, Nat.reduceLeDiff, reduceCtorEq, Nat.reduceMod, Int.reduceEq, Int.reduceLT, Int.reduceLE, Int.reduceToNat, dite_true, rvals, rval1]; rfl), .sub (List.nil_sublist _), rfl, ?_⟩
        rw [show tokP s a = _ from by unfold tokP; rw [if_neg (by rw [c1]; decide), if_neg (by rw [c2]; decide), if_neg N3, if_pos (.inr ⟨c5, d2⟩), hio]]; rfl
    | false =>
      have N4 : ¬ (digitB (ch s a) = true ∨ (ch s a = 45 ∧ digitB (nxt s a) = true)) := fun k => by
        rcases k with k | k
        · rw [d1] at k; exact absurd k (by decide)
        · rw [d2] at k; exact absurd k.2 (by decide)
      simp only [push_cast, ↓reduceIte, Nat.reduceEqDiff, Nat.reduceAdd, Nat.reduceMul, Nat.reduceSub, Nat.reduceLT, Nat.reduceLeDiff, reduceCtorEq, Nat.reduceMod, Int.reduceEq, Int.reduceLT, Int.reduceLE, Int.reduceToNat, dite_true, eq_true c5]
      refine CallV.pure (b1 F6 g6) ?_
      rintro _ F7 hF7 rfl
      by_cases c6 : nxt s a = 62
      · simp only [push_cast, ↓reduceIte, Nat.reduceEqDiff, Nat.reduceAdd, Nat.reduceMul, Nat.reduceSub, Nat.reduceLT, Nat.reduceLeDiff, reduceCtorEq, Nat.reduceMod, Int.reduceEq, Int.reduceLT, Int.reduceLE, Int.reduceToNat, dite_true, eq_true c5, eq_true c6]
        refine ⟨[_, _, _], [], (by simp only [push_cast, ↓reduceIte, Nat.reduceEqDiff, Nat.reduceAdd, Nat.reduceMul, Nat.reduceSub, Nat.reduceLT, Nat.reduceLeDiff, reduceCtorEq, Nat.reduceMod, Int.reduceEq, Int.reduceLT, Int.reduceLE, Int.reduceToNat, dite_true, rvals, rval1]; rfl), .sub (List.nil_sublist _), rfl, ?_⟩
        rw [show tokP s a = _ from by unfold tokP; rw [if_neg (by rw [c1]; decide), if_neg (by rw [c2]; decide), if_neg N3, if_neg N4, if_pos ⟨c5, c6⟩]]; rfl
      · simp only [push_cast, ↓reduceIte, Nat.reduceEqDiff, Nat.reduceAdd, Nat.reduceMul, Nat.reduceSub, Nat.reduceLT, Nat.reduceLeDiff, reduceCtorEq, Nat.reduceMod, Int.reduceEq, Int.reduceLT, Int.reduceLE, Int.reduceToNat, dite_true, eq_true c5, c6]
        refine ⟨[_, _, _], [], (by simp only [push_cast, ↓reduceIte, Nat.reduceEqDiff, Nat.reduceAdd, Nat.reduceMul, Nat.reduceSub, Nat.reduceLT, Nat.reduceLeDiff, reduceCtorEq, Nat.reduceMod, Int.reduceEq, Int.reduceLT, Int.reduceLE, Int.reduceToNat, dite_true, rvals, rval1]; rfl), .sub (List.nil_sublist _), rfl, ?_⟩
        rw [show tokP s a = _ from by unfold tokP; rw [if_neg (by rw [c1]; decide), if_neg (by rw [c2]; decide), if_neg N3, if_neg N4, if_neg (fun k => c6 k.2), if_neg (fun k => k.1 c5)]]; rfl
  have N4 : ¬ (digitB (ch s a) = true ∨ (ch s a = 45 ∧ digitB (nxt s a) = true)) := fun k => by
    rcases k with k | k
    · rw [d1] at k; exact absurd k (by decide)
    · exact c5 k.1
  simp only [push_cast, ↓reduceIte, Nat.reduceEqDiff, Nat.reduceAdd, Nat.reduceMul, Nat.reduceSub, Nat.reduceLT, Nat.reduceLeDiff, reduceCtorEq, Nat.reduceMod, Int.reduceEq, Int.reduceLT, Int.reduceLE, Int.reduceToNat, dite_true, c5, hwr]
  refine CallV.pure (p_sign _ F4) ?_
  rintro _ F5 hF5 rfl
  cases sg : signB (Utf8.encode (ch s a)) with
  | true =>
    simp only [push_cast, ↓reduceIte, Nat.reduceEqDiff, Nat.reduceAdd, Nat.reduceMul, Nat.reduceSub, Nat.reduceLT, Nat.reduceLeDiff, reduceCtorEq, Nat.reduceMod, Int.reduceEq, Int.reduceLT, Int.reduceLE, Int.reduceToNat, dite_true, hwr]
    have ht : tokP s a = (⟨5, Utf8.encode (ch s a), 0, 0⟩, Utf8.encode (ch s a), 0) := by
      unfold tokP; rw [if_neg (by rw [c1]; decide), if_neg (by rw [c2]; decide), if_neg N3, if_neg N4, if_neg (fun k => c5 k.1), if_pos ⟨c5, sg⟩]
    generalize Utf8.encode (ch s a) = w at ht ⊢
    refine ⟨[_, _, _], [], (by simp only [push_cast, ↓reduceIte, Nat.reduceEqDiff, Nat.reduceAdd, Nat.reduceMul, Nat.reduceSub, Nat.reduceLT, Nat.reduceLeDiff, reduceCtorEq, Nat.reduceMod, Int.reduceEq, Int.reduceLT, Int.reduceLE, Int.reduceToNat, dite_true, rvals, rval1]; rfl), .sub (List.nil_sublist _), rfl, ?_⟩
    rw [ht]; rfl
  | false =>
    simp only [push_cast, ↓reduceIte, Nat.reduceEqDiff, Nat.reduceAdd, Nat.reduceMul, Nat.reduceSub, Nat.reduceLT, Nat.reduceLeDiff, reduceCtorEq, Nat.reduceMod, Int.reduceEq, Int.reduceLT, Int.reduceLE, Int.reduceToNat, dite_true, hwr]
    refine ⟨[_, _, _], [], (by simp only [push_cast, ↓reduceIte, Nat.reduceEqDiff, Nat.reduceAdd, Nat.reduceMul, Nat.reduceSub, Nat.reduceLT, Nat.reduceLeDiff, reduceCtorEq, Nat.reduceMod, Int.reduceEq, Int.reduceLT, Int.reduceLE, Int.reduceToNat, dite_true, rvals, rval1]; rfl), .sub (List.nil_sublist _), rfl, ?_⟩
    rw [show tokP s a = _ from by unfold tokP; rw [if_neg (by rw [c1]; decide), if_neg (by rw [c2]; decide), if_neg N3, if_neg N4, if_neg (fun k => c5 k.1), if_neg (fun k => by rw [sg] at k; exact absurd k.2 (by decide))]]; rfl
end Go.Proofs.YtmiekonofocboaaGreatDoor.X

/- The program's lexer, as a function of the text: words. -/
namespace Go.Eng
open Go Go.RowKit
section
variable {P : Program} {n : Nat} {S : St} {κ : St → Prop} {f : FuncId} {args : List Value} {d : Option Tmp} {st : Bool}
/-- A call to which an own block is lent to be read, and which tells of its result alone. -/
theorem CallV.look1 {i : Nat} {m : Own} {Q : Value → Prop} (hM : ownF S.M i = some m) (ok : CallOk P f) (hc : S.F.Disj (cell1 m.b m.t m.cs) → PFn P f args (S.F.or (cell1 m.b m.t m.cs)) (fun v _ => Q v))
    (next : ∀ v F', S.F.le F' → Q v → κ ⟨setk S.L d (.v v), S.M, F', S.R, S.nx⟩) : CallV P st f args d κ S :=
  CallV.lookP (R1 := []) (Rf := S.R) (Q' := fun v F' R2 => R2 = S.R ∧ Q v) hM (List.Perm.refl _) (Fn.lend (Q' := fun v R1 => R1 = [] ∧ Q v) hc ok (fun v F' R' h => h)) (fun v F' R' _ ⟨R1, e1, e2, h⟩ => ⟨S.R, [], by subst e2 e1; rfl, List.Perm.refl _, rfl, h⟩) fun v F' R2 h ⟨e, q⟩ => by subst e; exact next v F' h q
theorem or_cell1 {F : PH} {b : Nat} {t : TypeId} {cs : List Value} (h : F.Disj (cell1 b t cs)) {j : Nat} {v : Value} (hj : cs[j]? = some v) : (F.or (cell1 b t cs)).cell ((⟨b, 0, none⟩ : Addr).add j) = some v := by
  have h1 : cell1 b t cs b = some (.cells cs.toArray t (0, 0)) := by simp [cell1, PH.one]
  have h2 : F b = none := by
    rcases h b with k | k
    · exact k
    · rw [h1] at k; cases k
  have h3 : (F.or (cell1 b t cs)) b = some (.cells cs.toArray t (0, 0)) := by simp only [PH.or, h2, h1]; rfl
  rw [add_own]
  simp only [PH.cell, h3, Nat.zero_add]
  simpa using hj
end
end Go.Eng
namespace Go.Proofs.YtmiekonofocboaaGreatDoor.X
open Go Go.Eng Go.Proofs Go.Proofs.YtmiekonofocboaaGreatDoor.T Go.Proofs.YtmiekonofocboaaGreatDoor.K
set_option linter.unusedSimpArgs false
set_option linter.unusedVariables false
set_option linter.unusedSectionVars false
set_option maxRecDepth 100000
set_option maxHeartbeats 4000000
theorem sign_bytes : ∀ n : Fin 256, signB (Utf8.encode (n.val : Int)) = signB ⟨#[UInt8.ofNat n.val]⟩ ∧ (signB ⟨#[UInt8.ofNat n.val]⟩ = true → Utf8.encode (n.val : Int) = ⟨#[UInt8.ofNat n.val]⟩) := by decide +kernel
theorem extract_one (s : ByteArray) {a : Nat} (ha : a < s.size) : s.extract a (a + 1) = ⟨#[s.data.getD a 0]⟩ := by
  have hs : s.size = s.data.size := rfl
  have h : (s.extract a (a + 1)).data = #[s.data.getD a 0] := by
    rw [ByteArray.data_extract]
    apply Array.ext
    · simp; omega
    · intro i h1 h2
      simp at h2
      subst h2
      simp [Array.getD_eq_getD_getElem?, Array.getElem?_eq_getElem (show a < s.data.size by omega)]
  calc s.extract a (a + 1) = ⟨(s.extract a (a + 1)).data⟩ := rfl
    _ = _ := by rw [h]
theorem sign_one (s : ByteArray) {a : Nat} (ha : a < s.size) : signB (Utf8.encode (ch s a)) = signB (s.extract a (a + 1)) ∧ (signB (s.extract a (a + 1)) = true → Utf8.encode (ch s a) = s.extract a (a + 1)) := by
  rw [extract_one s ha]
  have h := sign_bytes ⟨(s.data.getD a 0).toNat, UInt8.toNat_lt _⟩
  simp only [UInt8.ofNat_toNat] at h
  exact h
theorem extract_arrow (s : ByteArray) {a : Nat} (ha : a < s.size) (h1 : ch s a = 45) (h2 : nxt s a = 62) : s.extract a (a + 2) = arrow := by
  have hb : a + 1 < s.size := by
    unfold nxt at h2
    split at h2
    · assumption
    · cases h2
  have e : s.extract a (a + 2) = s.extract a (a + 1) ++ s.extract (a + 1) (a + 2) := by rw [ByteArray.extract_append_extract]; congr 1 <;> omega
  rw [e, extract_one s ha, show a + 2 = a + 1 + 1 from rfl, extract_one s hb]
  unfold nxt at h2
  rw [if_pos hb] at h2
  have k1 : s.data.getD a 0 = 45 := by
    have : (s.data.getD a 0).toNat = 45 := by unfold ch at h1; omega
    exact UInt8.toNat_inj.1 this
  have k2 : s.data.getD (a + 1) 0 = 62 := by
    have : (s.data.getD (a + 1) 0).toNat = 62 := by unfold ch at h2; omega
    exact UInt8.toNat_inj.1 this
  rw [k1, k2]
  rfl
/-- The two lexers tell the same token. -/
theorem tok_one (s : ByteArray) {a : Nat} (ha : a < s.size) : (tokP s a).2.2 = (oneP s a).2.2 ∧ ((oneP s a).2.2 = 0 → (tokP s a).1 = ⟨(oneP s a).1.k, (oneP s a).1.tx, (oneP s a).1.n, 0⟩ ∧ (tokP s a).2.1 = s.extract a (oneP s a).2.1.toNat) := by
  have hs1 := sign_one s ha
  have m45 : ch s a = 45 → signB (s.extract a (a + 1)) = false := fun h => by
    rw [extract_one s ha]
    have : s.data.getD a 0 = 45 := UInt8.toNat_inj.1 (show (s.data.getD a 0).toNat = 45 by unfold ch at h; omega)
    rw [this]; decide
  unfold tokP oneP
  by_cases c1 : smallB (ch s a) = true
  · rw [if_pos c1, if_pos c1]
    by_cases c2 : reservedB (s.extract a (runE s a)) = true
    · rw [if_pos c2, if_pos c2]; exact ⟨rfl, fun _ => ⟨rfl, rfl⟩⟩
    · rw [if_neg c2, if_neg c2]; exact ⟨rfl, fun _ => ⟨rfl, rfl⟩⟩
  rw [if_neg c1, if_neg c1]
  by_cases c2 : largeB (ch s a) = true
  · rw [if_pos c2, if_pos c2]; exact ⟨rfl, fun _ => ⟨rfl, rfl⟩⟩
  rw [if_neg c2, if_neg c2]
  by_cases c3 : ch s a = 35 ∧ smallB (nxt s a) = true
  · rw [if_pos c3, if_pos c3]; exact ⟨rfl, fun _ => ⟨rfl, rfl⟩⟩
  rw [if_neg c3, if_neg c3]
  by_cases c4 : digitB (ch s a) = true ∨ (ch s a = 45 ∧ digitB (nxt s a) = true)
  · rw [if_pos c4, if_pos c4]
    cases intOf (s.extract a (digE s (a + 1))) with
    | some m => exact ⟨rfl, fun _ => ⟨rfl, rfl⟩⟩
    | none => exact ⟨rfl, fun h => absurd (show (22 : Int) = 0 from h) (by decide)⟩
  rw [if_neg c4, if_neg c4]
  by_cases c5 : ch s a = 45 ∧ nxt s a = 62
  · rw [if_pos c5, if_pos c5]; exact ⟨rfl, fun _ => ⟨rfl, (extract_arrow s ha c5.1 c5.2).symm⟩⟩
  rw [if_neg c5, if_neg c5]
  by_cases c6 : signB (s.extract a (a + 1)) = true
  · have n45 : ¬ ch s a = 45 := fun h => by rw [m45 h] at c6; cases c6
    rw [if_pos ⟨n45, by rw [hs1.1]; exact c6⟩, if_pos c6, hs1.2 c6]
    exact ⟨rfl, fun _ => ⟨rfl, rfl⟩⟩
  · rw [if_neg (fun k => c6 (by rw [← hs1.1]; exact k.2)), if_neg c6]
    exact ⟨rfl, fun h => absurd (show (20 : Int) = 0 from h) (by decide)⟩
theorem extract_self (s : ByteArray) {j : Nat} (hj : j ≤ s.size) : s.extract 0 j = s ↔ j = s.size := by
  constructor
  · intro h
    have := congrArg ByteArray.size h
    rw [ByteArray.size_extract] at this
    omega
  · rintro rfl; exact ByteArray.extract_zero_size
theorem word_tok {s : ByteArray} {k : Int} (h0 : ¬ s = ⟨#[]⟩) (h32 : s.size ≤ 32) (hk : k = 1 ∨ k = 2 ∨ k = 3) : WordP s k ↔ (tokP s 0).2.2 = 0 ∧ (tokP s 0).1.k = k ∧ (tokP s 0).2.1 = s := by
  have hpos : 0 < s.size := by
    rcases Nat.eq_zero_or_pos s.size with h | h
    · exact absurd (ByteArray.size_eq_zero_iff.1 h) h0
    · exact h
  obtain ⟨t1, t2⟩ := tok_one s (a := 0) hpos
  unfold WordP
  rw [t1]
  constructor
  · rintro ⟨_, _, _, e1, e2, e3⟩
    obtain ⟨k1, k2⟩ := t2 e1
    refine ⟨e1, by rw [k1]; exact e2, ?_⟩
    rw [k2, e3, Int.toNat_natCast]
    exact ByteArray.extract_zero_size
  · rintro ⟨e1, e2, e3⟩
    obtain ⟨k1, k2⟩ := t2 e1
    rw [k1] at e2
    refine ⟨h0, h32, hk, e1, e2, ?_⟩
    obtain ⟨j, j1, j2, j3⟩ := oneP_next hpos e1
    rw [k2, j1, Int.toNat_natCast] at e3
    rw [j1, (extract_self s j3).1 e3]
theorem p_word (s : ByteArray) (k : Int) (hs : s.size ≤ maxLen) (F : PH) : PFn Tryz.prog 30 [.string s, .int .i64 k] F (fun v _ => v = .bool (decide (WordP s k))) := by
  refine Fn.intro (n := 48) (ts := [4]) Tryz.func30 rfl rfl rfl rfl (by simp) fun B hB => VC.go 3 ?_
  simp only [push_cast, ↓reduceIte, Nat.reduceEqDiff, Nat.reduceAdd, Nat.reduceMul, Nat.reduceSub, Nat.reduceLT, Nat.reduceLeDiff, reduceCtorEq, Nat.reduceMod, Int.reduceEq, Int.reduceLT, Int.reduceLE, Int.reduceToNat, dite_true]
  have no : ¬ (¬ s = ⟨#[]⟩ ∧ s.size ≤ 32 ∧ (k = 1 ∨ k = 2 ∨ k = 3)) → Value.bool false = .bool (decide (WordP s k)) := fun h => by
    rw [decide_eq_false (fun w => h ⟨w.1, w.2.1, w.2.2.1⟩)]
  refine VC.cutG (ι := Unit) (fun _ => [(1, .v (.int .i64 k)), (0, .v (.string s))]) (fun _ => F) (fun _ => []) (fun _ => ¬ s = ⟨#[]⟩ ∧ s.size ≤ 32 ∧ (k = 1 ∨ k = 2 ∨ k = 3)) ?_ ?_
  · intro G hG
    refine VC.go 100 ?_
    by_cases hk : k = 1 ∨ k = 2 ∨ k = 3
    · by_cases h0 : s = ⟨#[]⟩
      · rcases hk with rfl | rfl | rfl
        · simp only [push_cast, ↓reduceIte, Nat.reduceEqDiff, Nat.reduceAdd, Nat.reduceMul, Nat.reduceSub, Nat.reduceLT, Nat.reduceLeDiff, reduceCtorEq, Nat.reduceMod, Int.reduceEq, Int.reduceLT, Int.reduceLE, Int.reduceToNat, dite_true, eq_true h0]; exact RetOk.p rfl (no fun h => h.1 h0)
        · simp only [push_cast, ↓reduceIte, Nat.reduceEqDiff, Nat.reduceAdd, Nat.reduceMul, Nat.reduceSub, Nat.reduceLT, Nat.reduceLeDiff, reduceCtorEq, Nat.reduceMod, Int.reduceEq, Int.reduceLT, Int.reduceLE, Int.reduceToNat, dite_true, eq_true h0]; exact RetOk.p rfl (no fun h => h.1 h0)
        · simp only [push_cast, ↓reduceIte, Nat.reduceEqDiff, Nat.reduceAdd, Nat.reduceMul, Nat.reduceSub, Nat.reduceLT, Nat.reduceLeDiff, reduceCtorEq, Nat.reduceMod, Int.reduceEq, Int.reduceLT, Int.reduceLE, Int.reduceToNat, dite_true, eq_true h0]; exact RetOk.p rfl (no fun h => h.1 h0)
      · by_cases h32 : s.size ≤ 32
        · rcases hk with rfl | rfl | rfl
          · simp only [push_cast, ↓reduceIte, Nat.reduceEqDiff, Nat.reduceAdd, Nat.reduceMul, Nat.reduceSub, Nat.reduceLT, Nat.reduceLeDiff, reduceCtorEq, Nat.reduceMod, Int.reduceEq, Int.reduceLT, Int.reduceLE, Int.reduceToNat, dite_true, h0, eq_false (show ¬ (32 : Int) < (s.size : Int) by omega)]
            exact hG () _ ⟨h0, h32, .inl rfl⟩ (by simp [subk, Eng.look]) (List.Sublist.refl _) rfl (List.Sublist.refl _)
          · simp only [push_cast, ↓reduceIte, Nat.reduceEqDiff, Nat.reduceAdd, Nat.reduceMul, Nat.reduceSub, Nat.reduceLT, Nat.reduceLeDiff, reduceCtorEq, Nat.reduceMod, Int.reduceEq, Int.reduceLT, Int.reduceLE, Int.reduceToNat, dite_true, h0, eq_false (show ¬ (32 : Int) < (s.size : Int) by omega)]
            exact hG () _ ⟨h0, h32, .inr (.inl rfl)⟩ (by simp [subk, Eng.look]) (List.Sublist.refl _) rfl (List.Sublist.refl _)
          · simp only [push_cast, ↓reduceIte, Nat.reduceEqDiff, Nat.reduceAdd, Nat.reduceMul, Nat.reduceSub, Nat.reduceLT, Nat.reduceLeDiff, reduceCtorEq, Nat.reduceMod, Int.reduceEq, Int.reduceLT, Int.reduceLE, Int.reduceToNat, dite_true, h0, eq_false (show ¬ (32 : Int) < (s.size : Int) by omega)]
            exact hG () _ ⟨h0, h32, .inr (.inr rfl)⟩ (by simp [subk, Eng.look]) (List.Sublist.refl _) rfl (List.Sublist.refl _)
        · rcases hk with rfl | rfl | rfl
          · simp only [push_cast, ↓reduceIte, Nat.reduceEqDiff, Nat.reduceAdd, Nat.reduceMul, Nat.reduceSub, Nat.reduceLT, Nat.reduceLeDiff, reduceCtorEq, Nat.reduceMod, Int.reduceEq, Int.reduceLT, Int.reduceLE, Int.reduceToNat, dite_true, h0, eq_true (show (32 : Int) < (s.size : Int) by omega)]; exact RetOk.p rfl (no fun h => h32 h.2.1)
          · simp only [push_cast, ↓reduceIte, Nat.reduceEqDiff, Nat.reduceAdd, Nat.reduceMul, Nat.reduceSub, Nat.reduceLT, Nat.reduceLeDiff, reduceCtorEq, Nat.reduceMod, Int.reduceEq, Int.reduceLT, Int.reduceLE, Int.reduceToNat, dite_true, h0, eq_true (show (32 : Int) < (s.size : Int) by omega)]; exact RetOk.p rfl (no fun h => h32 h.2.1)
          · simp only [push_cast, ↓reduceIte, Nat.reduceEqDiff, Nat.reduceAdd, Nat.reduceMul, Nat.reduceSub, Nat.reduceLT, Nat.reduceLeDiff, reduceCtorEq, Nat.reduceMod, Int.reduceEq, Int.reduceLT, Int.reduceLE, Int.reduceToNat, dite_true, h0, eq_true (show (32 : Int) < (s.size : Int) by omega)]; exact RetOk.p rfl (no fun h => h32 h.2.1)
    · have k1 : ¬ k = 1 := fun h => hk (.inl h)
      have k2 : ¬ k = 2 := fun h => hk (.inr (.inl h))
      have k3 : ¬ k = 3 := fun h => hk (.inr (.inr h))
      simp only [push_cast, ↓reduceIte, Nat.reduceEqDiff, Nat.reduceAdd, Nat.reduceMul, Nat.reduceSub, Nat.reduceLT, Nat.reduceLeDiff, reduceCtorEq, Nat.reduceMod, Int.reduceEq, Int.reduceLT, Int.reduceLE, Int.reduceToNat, dite_true, k1, k2, k3]
      exact RetOk.p rfl (no fun h => hk h.2.2)
  rintro _ ⟨h0, h32, hk⟩
  have hpos : 0 < s.size := by
    rcases Nat.eq_zero_or_pos s.size with h | h
    · exact absurd (ByteArray.size_eq_zero_iff.1 h) h0
    · exact h
  have hw := word_tok h0 h32 hk
  refine VC.go 100 ?_
  simp only [push_cast, ↓reduceIte, Nat.reduceEqDiff, Nat.reduceAdd, Nat.reduceMul, Nat.reduceSub, Nat.reduceLT, Nat.reduceLeDiff, reduceCtorEq, Nat.reduceMod, Int.reduceEq, Int.reduceLT, Int.reduceLE, Int.reduceToNat, dite_true]
  intro b30
  refine CallV.look1 (i := 0) rfl (p_token s 0 hpos hs (fun b => if b = 0 then some (.cells #[.string s, .int .i64 0] 0 (0, 0)) else none) ⟨0, 0, none⟩ ⟨rfl, rfl⟩).1 (fun hd => p_token s 0 hpos hs _ ⟨b30, 0, none⟩ ⟨or_cell1 hd rfl, or_cell1 hd rfl⟩) ?_
  rintro _ F1 hF1 rfl
  simp only [push_cast, ↓reduceIte, Nat.reduceEqDiff, Nat.reduceAdd, Nat.reduceMul, Nat.reduceSub, Nat.reduceLT, Nat.reduceLeDiff, reduceCtorEq, Nat.reduceMod, Int.reduceEq, Int.reduceLT, Int.reduceLE, Int.reduceToNat, dite_true]
  intro b5
  generalize tokP s 0 = r at hw ⊢
  obtain ⟨⟨tk, tx, tn, ta⟩, text, e⟩ := r
  simp only at hw
  by_cases w1 : e = 0
  · by_cases w2 : tk = k
    · by_cases w3 : text = s
      · simp only [push_cast, ↓reduceIte, Nat.reduceEqDiff, Nat.reduceAdd, Nat.reduceMul, Nat.reduceSub, Nat.reduceLT, Nat.reduceLeDiff, reduceCtorEq, Nat.reduceMod, Int.reduceEq, Int.reduceLT, Int.reduceLE, Int.reduceToNat, dite_true, eq_true w1, eq_true w2, eq_true w3]
        exact RetOk.p rfl (by rw [decide_eq_true (hw.2 ⟨w1, w2, w3⟩)]; rfl)
      · simp only [push_cast, ↓reduceIte, Nat.reduceEqDiff, Nat.reduceAdd, Nat.reduceMul, Nat.reduceSub, Nat.reduceLT, Nat.reduceLeDiff, reduceCtorEq, Nat.reduceMod, Int.reduceEq, Int.reduceLT, Int.reduceLE, Int.reduceToNat, dite_true, eq_true w1, eq_true w2, w3]
        exact RetOk.p rfl (by rw [decide_eq_false (fun h => w3 (hw.1 h).2.2)]; rfl)
    · simp only [push_cast, ↓reduceIte, Nat.reduceEqDiff, Nat.reduceAdd, Nat.reduceMul, Nat.reduceSub, Nat.reduceLT, Nat.reduceLeDiff, reduceCtorEq, Nat.reduceMod, Int.reduceEq, Int.reduceLT, Int.reduceLE, Int.reduceToNat, dite_true, eq_true w1, w2]
      exact RetOk.p rfl (by rw [decide_eq_false (fun h => w2 (hw.1 h).2.1)]; rfl)
  · simp only [push_cast, ↓reduceIte, Nat.reduceEqDiff, Nat.reduceAdd, Nat.reduceMul, Nat.reduceSub, Nat.reduceLT, Nat.reduceLeDiff, reduceCtorEq, Nat.reduceMod, Int.reduceEq, Int.reduceLT, Int.reduceLE, Int.reduceToNat, dite_true, w1]
    exact RetOk.p rfl (by rw [decide_eq_false (fun h => w1 (hw.1 h).1)]; rfl)
end Go.Proofs.YtmiekonofocboaaGreatDoor.X

/- The program's lexer, as a function of the text: blanks and remarks. -/
namespace Go.Proofs.YtmiekonofocboaaGreatDoor.X
open Go Go.Eng Go.Proofs Go.Proofs.YtmiekonofocboaaGreatDoor.T Go.Proofs.YtmiekonofocboaaGreatDoor.K
set_option linter.unusedSimpArgs false
set_option linter.unusedVariables false
set_option linter.unusedSectionVars false
set_option maxRecDepth 100000
set_option maxHeartbeats 4000000
abbrev rdC (s : ByteArray) (a : Nat) : List Value := [.string s, .int .i64 a]
theorem p_blanks (s : ByteArray) (a : Nat) (ha : a ≤ s.size) (hs : s.size ≤ maxLen) (F : PH) (b : Nat) : OFn Tryz.prog 73 [.pointer (some ⟨b, 0, none⟩)] F b 76 (rdC s a) (fun v F' cs' => cs' = rdC s (skipE s a)) := by
  have hml : maxLen ≤ 9223372036854775807 := by decide
  refine OFn.intro (n := 81) (ts := []) Tryz.func73 rfl rfl rfl rfl (by simp) fun B hB => ?_
  refine VC.scope (VC.seq (VC.label (VC.block ?_)))
  refine VC.loopM (ι := Nat × PH) (fun _ => [(0, .o 0 b 0)]) (fun i => [⟨0, b, 76, rdC s i.1⟩]) (fun i => i.2) (fun i => i.1 ≤ s.size ∧ skipE s i.1 = skipE s a) (fun i => s.size - i.1) (a, F) ⟨ha, rfl⟩ (by simp [subk, Eng.look, initL]) (List.Sublist.refl _) rfl ?_
  rintro ⟨i, F1⟩ ⟨hi, hsk⟩ G hG
  dsimp only at hi hsk hG ⊢
  rw [skipE_eq] at hsk
  refine VC.go 100 ?_
  simp only [push_cast, ↓reduceIte, Nat.reduceEqDiff, Nat.reduceAdd, Nat.reduceMul, Nat.reduceSub, Nat.reduceLT, Nat.reduceLeDiff, reduceCtorEq, Nat.reduceMod, Int.reduceEq, Int.reduceLT, Int.reduceLE, Int.reduceToNat, dite_true]
  refine VC.draw (.q 0 (.q 1 (.q 2 (.q 3 (.q 4 (.q 5 (.q 6 (.q 7 (.q 8 (.q 9 (.done))))))))))) mixed (by rfl) ?_
  simp only [push_cast, ↓reduceIte, Nat.reduceEqDiff, Nat.reduceAdd, Nat.reduceMul, Nat.reduceSub, Nat.reduceLT, Nat.reduceLeDiff, reduceCtorEq, Nat.reduceMod, Int.reduceEq, Int.reduceLT, Int.reduceLE, Int.reduceToNat, dite_true]
  refine VC.go 100 ?_
  have fin : ∀ (F2 : PH) (L : KL) (M : List Own) (nx : Nat), skipE s a = i → RetOk Tryz.prog [] (fun v F' R' => ∃ cs', R' = [cell1 b 76 cs'] ∧ cs' = rdC s (skipE s a)) ⟨L, ⟨0, b, 76, rdC s i⟩ :: M, F2, [], nx⟩ := fun F2 L M nx e => by
    rw [e]
    exact RetOk.own (m := ⟨0, b, 76, rdC s i⟩) (Q := fun v F' cs' => cs' = rdC s i) 0 rfl rfl rfl
  by_cases h : i < s.size
  case neg =>
    rw [if_neg h] at hsk
    simp only [push_cast, ↓reduceIte, Nat.reduceEqDiff, Nat.reduceAdd, Nat.reduceMul, Nat.reduceSub, Nat.reduceLT, Nat.reduceLeDiff, reduceCtorEq, Nat.reduceMod, Int.reduceEq, Int.reduceLT, Int.reduceLE, Int.reduceToNat, dite_true, h]
    exact fin _ _ _ _ hsk.symm
  rw [if_pos h] at hsk
  have hc : ((s.data.getD i 0).toNat : Int) = ch s i := rfl
  simp only [push_cast, ↓reduceIte, Nat.reduceEqDiff, Nat.reduceAdd, Nat.reduceMul, Nat.reduceSub, Nat.reduceLT, Nat.reduceLeDiff, reduceCtorEq, Nat.reduceMod, Int.reduceEq, Int.reduceLT, Int.reduceLE, Int.reduceToNat, dite_true, eq_true h]
  refine VC.draw (.q 0 (.q 1 (.q 2 (.q 3 (.q 4 (.q 5 (.q 6 (.q 7 (.q 8 (.q 9 (.done))))))))))) mixed (by rfl) ?_
  simp only [push_cast, ↓reduceIte, Nat.reduceEqDiff, Nat.reduceAdd, Nat.reduceMul, Nat.reduceSub, Nat.reduceLT, Nat.reduceLeDiff, reduceCtorEq, Nat.reduceMod, Int.reduceEq, Int.reduceLT, Int.reduceLE, Int.reduceToNat, dite_true, eq_true h, eq_true (show (i : Int) < (s.size : Int) by omega), eq_true (show (0 : Int) ≤ (i : Int) by omega), hc]
  refine VC.go 100 ?_
  have hw1 : IntKind.i64.wrap ((i : Int) + 1) = ((i + 1 : Nat) : Int) := wadd i h hs
  by_cases c1 : ch s i = 32
  · rw [if_pos (by rw [c1]; decide)] at hsk
    simp only [push_cast, ↓reduceIte, Nat.reduceEqDiff, Nat.reduceAdd, Nat.reduceMul, Nat.reduceSub, Nat.reduceLT, Nat.reduceLeDiff, reduceCtorEq, Nat.reduceMod, Int.reduceEq, Int.reduceLT, Int.reduceLE, Int.reduceToNat, dite_true, eq_true c1, hw1]
    exact hG (i + 1, F1) _ ⟨by dsimp only; omega, hsk⟩ (by dsimp only; omega) (by simp [subk, Eng.look]) (List.Sublist.refl _) rfl rfl
  by_cases c2 : ch s i = 9
  · rw [if_pos (by rw [c2]; decide)] at hsk
    simp only [push_cast, ↓reduceIte, Nat.reduceEqDiff, Nat.reduceAdd, Nat.reduceMul, Nat.reduceSub, Nat.reduceLT, Nat.reduceLeDiff, reduceCtorEq, Nat.reduceMod, Int.reduceEq, Int.reduceLT, Int.reduceLE, Int.reduceToNat, dite_true, c1, eq_true c2, hw1]
    exact hG (i + 1, F1) _ ⟨by dsimp only; omega, hsk⟩ (by dsimp only; omega) (by simp [subk, Eng.look]) (List.Sublist.refl _) rfl rfl
  by_cases c3 : ch s i = 10
  · rw [if_pos (by rw [c3]; decide)] at hsk
    simp only [push_cast, ↓reduceIte, Nat.reduceEqDiff, Nat.reduceAdd, Nat.reduceMul, Nat.reduceSub, Nat.reduceLT, Nat.reduceLeDiff, reduceCtorEq, Nat.reduceMod, Int.reduceEq, Int.reduceLT, Int.reduceLE, Int.reduceToNat, dite_true, c1, c2, eq_true c3, hw1]
    exact hG (i + 1, F1) _ ⟨by dsimp only; omega, hsk⟩ (by dsimp only; omega) (by simp [subk, Eng.look]) (List.Sublist.refl _) rfl rfl
  by_cases c4 : ch s i = 13
  · rw [if_pos (by rw [c4]; decide)] at hsk
    simp only [push_cast, ↓reduceIte, Nat.reduceEqDiff, Nat.reduceAdd, Nat.reduceMul, Nat.reduceSub, Nat.reduceLT, Nat.reduceLeDiff, reduceCtorEq, Nat.reduceMod, Int.reduceEq, Int.reduceLT, Int.reduceLE, Int.reduceToNat, dite_true, c1, c2, c3, eq_true c4, hw1]
    exact hG (i + 1, F1) _ ⟨by dsimp only; omega, hsk⟩ (by dsimp only; omega) (by simp [subk, Eng.look]) (List.Sublist.refl _) rfl rfl
  rw [if_neg (by simp [blankB, c1, c2, c3, c4])] at hsk
  by_cases c5 : ch s i = 45
  case neg =>
    rw [if_neg (fun k => c5 k.1)] at hsk
    simp only [push_cast, ↓reduceIte, Nat.reduceEqDiff, Nat.reduceAdd, Nat.reduceMul, Nat.reduceSub, Nat.reduceLT, Nat.reduceLeDiff, reduceCtorEq, Nat.reduceMod, Int.reduceEq, Int.reduceLT, Int.reduceLE, Int.reduceToNat, dite_true, c1, c2, c3, c4, c5]
    exact fin _ _ _ _ hsk.symm
  simp only [push_cast, ↓reduceIte, Nat.reduceEqDiff, Nat.reduceAdd, Nat.reduceMul, Nat.reduceSub, Nat.reduceLT, Nat.reduceLeDiff, reduceCtorEq, Nat.reduceMod, Int.reduceEq, Int.reduceLT, Int.reduceLE, Int.reduceToNat, dite_true, c1, c2, c3, c4, eq_true c5]
  refine CallV.look1 (i := 0) rfl (p_byte s i 1 hs (by omega) (fun b => if b = 0 then some (.cells #[.string s, .int .i64 i] 0 (0, 0)) else none) ⟨0, 0, none⟩ ⟨rfl, rfl⟩).1 (fun hd => p_byte s i 1 hs (by omega) _ ⟨b, 0, none⟩ ⟨or_cell1 hd rfl, or_cell1 hd rfl⟩) ?_
  rintro _ F2 hF2 rfl
  by_cases c6 : atP s (i + 1) = 45
  case neg =>
    rw [if_neg (fun k => c6 (by unfold atP; rw [if_pos k.2.1]; exact k.2.2))] at hsk
    simp only [push_cast, ↓reduceIte, Nat.reduceEqDiff, Nat.reduceAdd, Nat.reduceMul, Nat.reduceSub, Nat.reduceLT, Nat.reduceLeDiff, reduceCtorEq, Nat.reduceMod, Int.reduceEq, Int.reduceLT, Int.reduceLE, Int.reduceToNat, dite_true, eq_true c5, c6]
    exact fin _ _ _ _ hsk.symm
  have hdash : dashB s i := by
    unfold atP at c6
    split at c6
    · exact ⟨c5, by assumption, c6⟩
    · cases c6
  rw [if_pos hdash] at hsk
  simp only [push_cast, ↓reduceIte, Nat.reduceEqDiff, Nat.reduceAdd, Nat.reduceMul, Nat.reduceSub, Nat.reduceLT, Nat.reduceLeDiff, reduceCtorEq, Nat.reduceMod, Int.reduceEq, Int.reduceLT, Int.reduceLE, Int.reduceToNat, dite_true, eq_true c5, eq_true c6]
  refine VC.loopM (ι := Nat × PH) (fun _ => [(0, .o 0 b 0)]) (fun i => [⟨0, b, 76, rdC s i.1⟩]) (fun i => i.2) (fun j => i ≤ j.1 ∧ j.1 ≤ s.size ∧ lineE s j.1 = lineE s i) (fun i => s.size - i.1) (i, F2) ⟨Nat.le_refl _, hi, rfl⟩ (by simp [subk, Eng.look]) (List.Sublist.refl _) rfl ?_
  rintro ⟨j, F3⟩ ⟨hij, hj, hle⟩ G2 hG2
  dsimp only at hij hj hle hG2 ⊢
  rw [lineE_eq] at hle
  have hlt : i < lineE s i := lineE_lt s h c5
  refine VC.go 100 ?_
  simp only [push_cast, ↓reduceIte, Nat.reduceEqDiff, Nat.reduceAdd, Nat.reduceMul, Nat.reduceSub, Nat.reduceLT, Nat.reduceLeDiff, reduceCtorEq, Nat.reduceMod, Int.reduceEq, Int.reduceLT, Int.reduceLE, Int.reduceToNat, dite_true]
  refine VC.draw (.q 0 (.q 1 (.q 2 (.q 3 (.q 4 (.q 5 (.q 6 (.q 7 (.q 8 (.q 9 (.q 10 (.q 11 (.q 12 (.q 13 (.q 14 (.q 15 (.q 16 (.q 17 (.q 18 (.q 19 (.q 20 (.q 21 (.done))))))))))))))))))))))) mixed (by rfl) ?_
  by_cases g : j < s.size
  case neg =>
    rw [if_neg (fun k => g k.1)] at hle
    simp only [push_cast, ↓reduceIte, Nat.reduceEqDiff, Nat.reduceAdd, Nat.reduceMul, Nat.reduceSub, Nat.reduceLT, Nat.reduceLeDiff, reduceCtorEq, Nat.reduceMod, Int.reduceEq, Int.reduceLT, Int.reduceLE, Int.reduceToNat, dite_true, g]
    refine VC.go 100 ?_
    simp only [push_cast, ↓reduceIte, Nat.reduceEqDiff, Nat.reduceAdd, Nat.reduceMul, Nat.reduceSub, Nat.reduceLT, Nat.reduceLeDiff, reduceCtorEq, Nat.reduceMod, Int.reduceEq, Int.reduceLT, Int.reduceLE, Int.reduceToNat, dite_true]
    exact hG (j, F3) _ ⟨hj, by rw [hle]; exact hsk⟩ (by dsimp only; omega) (by simp [subk, Eng.look]) (List.Sublist.refl _) rfl rfl
  have hcj : ((s.data.getD j 0).toNat : Int) = ch s j := rfl
  by_cases g2 : ch s j = 10
  · rw [if_neg (fun k => k.2 g2)] at hle
    simp only [push_cast, ↓reduceIte, Nat.reduceEqDiff, Nat.reduceAdd, Nat.reduceMul, Nat.reduceSub, Nat.reduceLT, Nat.reduceLeDiff, reduceCtorEq, Nat.reduceMod, Int.reduceEq, Int.reduceLT, Int.reduceLE, Int.reduceToNat, dite_true, eq_true g, eq_true (show (j : Int) < (s.size : Int) by omega), eq_true (show (0 : Int) ≤ (j : Int) by omega), hcj, eq_true g2]
    refine VC.go 100 ?_
    simp only [push_cast, ↓reduceIte, Nat.reduceEqDiff, Nat.reduceAdd, Nat.reduceMul, Nat.reduceSub, Nat.reduceLT, Nat.reduceLeDiff, reduceCtorEq, Nat.reduceMod, Int.reduceEq, Int.reduceLT, Int.reduceLE, Int.reduceToNat, dite_true]
    exact hG (j, F3) _ ⟨hj, by rw [hle]; exact hsk⟩ (by dsimp only; omega) (by simp [subk, Eng.look]) (List.Sublist.refl _) rfl rfl
  · rw [if_pos ⟨g, g2⟩] at hle
    have hw2 : IntKind.i64.wrap ((j : Int) + 1) = ((j + 1 : Nat) : Int) := wadd j g hs
    simp only [push_cast, ↓reduceIte, Nat.reduceEqDiff, Nat.reduceAdd, Nat.reduceMul, Nat.reduceSub, Nat.reduceLT, Nat.reduceLeDiff, reduceCtorEq, Nat.reduceMod, Int.reduceEq, Int.reduceLT, Int.reduceLE, Int.reduceToNat, dite_true, eq_true g, eq_true (show (j : Int) < (s.size : Int) by omega), eq_true (show (0 : Int) ≤ (j : Int) by omega), hcj, g2]
    refine VC.go 100 ?_
    simp only [push_cast, ↓reduceIte, Nat.reduceEqDiff, Nat.reduceAdd, Nat.reduceMul, Nat.reduceSub, Nat.reduceLT, Nat.reduceLeDiff, reduceCtorEq, Nat.reduceMod, Int.reduceEq, Int.reduceLT, Int.reduceLE, Int.reduceToNat, dite_true, hw2]
    exact hG2 (j + 1, F3) _ ⟨by dsimp only; omega, by dsimp only; omega, hle⟩ (by dsimp only; omega) (by simp [subk, Eng.look]) (List.Sublist.refl _) rfl rfl
end Go.Proofs.YtmiekonofocboaaGreatDoor.X

/- The program's lexer, as a function of the text: all tokens. -/
namespace Go.Proofs.YtmiekonofocboaaGreatDoor.X
open Go Go.Eng Go.Proofs Go.Proofs.YtmiekonofocboaaGreatDoor.T Go.Proofs.YtmiekonofocboaaGreatDoor.K
set_option linter.unusedSimpArgs false
set_option linter.unusedVariables false
set_option linter.unusedSectionVars false
set_option maxRecDepth 100000
set_option maxHeartbeats 4000000
theorem oneP_at {s : ByteArray} {a : Nat} (he : (oneP s a).2.2 = 0) : (oneP s a).1.at_ = a := by
  unfold oneP at he ⊢
  by_cases c1 : smallB (ch s a) = true
  · rw [if_pos c1]; split <;> rfl
  rw [if_neg c1] at he ⊢
  by_cases c2 : largeB (ch s a) = true
  · rw [if_pos c2]
  rw [if_neg c2] at he ⊢
  by_cases c3 : ch s a = 35 ∧ smallB (nxt s a) = true
  · rw [if_pos c3]
  rw [if_neg c3] at he ⊢
  by_cases c4 : digitB (ch s a) = true ∨ (ch s a = 45 ∧ digitB (nxt s a) = true)
  · rw [if_pos c4] at he ⊢
    cases hi : intOf (s.extract a (digE s (a + 1))) with
    | some m => rfl
    | none => rw [hi] at he; exact absurd (show (22 : Int) = 0 from he) (by decide)
  rw [if_neg c4] at he ⊢
  by_cases c5 : ch s a = 45 ∧ nxt s a = 62
  · rw [if_pos c5]
  rw [if_neg c5] at he ⊢
  by_cases c6 : signB (s.extract a (a + 1)) = true
  · rw [if_pos c6]
  · rw [if_neg c6] at he; exact absurd (show (20 : Int) = 0 from he) (by decide)
theorem p_scan (s : ByteArray) (hsz : s.size ≤ maxLen) (F : PH) : PFn Tryz.prog 43 [.string s] F
    (fun v F' => ∃ sl, v = .tuple #[sl, .int .i64 (scanAll s).2.1, .int .i64 (scanAll s).2.2] ∧ Toks F' sl (scanAll s).1 ∧ (scanAll s).1.length ≤ 16384) := by
  refine Fn.intro (n := 67) (ts := [2, 3, 4]) Tryz.func43 rfl rfl rfl rfl (by simp) fun B hB => VC.go 100 ?_
  by_cases g : (s.size : Int) > 16384
  · have hA : scanAll s = ([], 0, 3) := by unfold scanAll; rw [if_pos (by omega)]
    rw [hA]
    simp only [push_cast, ↓reduceIte, Nat.reduceEqDiff, Nat.reduceAdd, Nat.reduceMul, Nat.reduceSub, Nat.reduceLT, Nat.reduceLeDiff, reduceCtorEq, Nat.reduceMod, Int.reduceEq, Int.reduceLT, Int.reduceLE, Int.reduceToNat, dite_true, eq_true g]
    exact RetOk.p rfl ⟨_, rfl, nil_sle _ _ _⟩
  have hs : s.size ≤ 16384 := by omega
  have hA : scanAll s = scanE s (skipE s 0) [] := by unfold scanAll; rw [if_neg (by omega)]
  rw [hA]
  simp only [push_cast, ↓reduceIte, Nat.reduceEqDiff, Nat.reduceAdd, Nat.reduceMul, Nat.reduceSub, Nat.reduceLT, Nat.reduceLeDiff, reduceCtorEq, Nat.reduceMod, Int.reduceEq, Int.reduceLT, Int.reduceLE, Int.reduceToNat, dite_true, g]
  intro b6
  refine CallV.own (i := 0) rfl (p_blanks s 0 (Nat.zero_le _) hsz F b6) ?_
  rintro _ F1 _ hF1 rfl
  simp only [push_cast, ↓reduceIte, Nat.reduceEqDiff, Nat.reduceAdd, Nat.reduceMul, Nat.reduceSub, Nat.reduceLT, Nat.reduceLeDiff, reduceCtorEq, Nat.reduceMod, Int.reduceEq, Int.reduceLT, Int.reduceLE, Int.reduceToNat, dite_true]
  refine VC.emp ?_
  have hj0 := (skipE_le s (i := 0) (by omega)).2
  refine VC.loopW (ι := Nat × Value × List Tok × PH × PH) (fun i => [(6, .o 0 b6 0), (5, .v i.2.1), (0, .v (.string s))]) (fun i => [⟨0, b6, 76, rdC s i.1⟩]) (fun i => i.2.2.2.1) (fun i => [i.2.2.2.2]) (fun i => i.1 ≤ s.size ∧ scanE s i.1 i.2.2.1 = scanE s (skipE s 0) [] ∧ i.2.2.1.length ≤ i.1 ∧ ∃ xs, Row i.2.2.2.2 71 4 i.2.1 xs ∧ Each RTok i.2.2.1 xs) (fun i => s.size - i.1) (skipE s 0, .slice none 0 0, [], F1, PH.emp) ⟨hj0, rfl, Nat.zero_le _, [], Row.nil _ _, rfl⟩ (by simp [subk, Eng.look]) (List.Sublist.refl _) rfl (subR_refl _) ?_
  rintro ⟨a, v5, l, F2, r⟩ ⟨ha, hsc, hl, xs, hr, hea⟩ G hG
  dsimp only at ha hsc hl hr hea hG ⊢
  rw [scanE_eq] at hsc
  have hxl := Each.len RTok.len hea
  obtain ⟨p5, n5, c5, rfl⟩ := hr.val
  by_cases h : a < s.size
  case neg =>
    refine VC.freezeR (List.Perm.refl _) fun F3 hF3 hrF => ?_
    refine VC.go 100 ?_
    simp only [push_cast, ↓reduceIte, Nat.reduceEqDiff, Nat.reduceAdd, Nat.reduceMul, Nat.reduceSub, Nat.reduceLT, Nat.reduceLeDiff, reduceCtorEq, Nat.reduceMod, Int.reduceEq, Int.reduceLT, Int.reduceLE, Int.reduceToNat, dite_true, h]
    rw [if_neg h] at hsc
    rw [← hsc]
    exact RetOk.p rfl ⟨_, rfl, row_sle (by decide) RTok.len hr hea hrF, by dsimp only; omega⟩
  rw [if_pos h] at hsc
  refine VC.go 100 ?_
  simp only [push_cast, ↓reduceIte, Nat.reduceEqDiff, Nat.reduceAdd, Nat.reduceMul, Nat.reduceSub, Nat.reduceLT, Nat.reduceLeDiff, reduceCtorEq, Nat.reduceMod, Int.reduceEq, Int.reduceLT, Int.reduceLE, Int.reduceToNat, dite_true, eq_true h]
  refine CallV.look1 (i := 0) rfl (p_token s a h hsz (fun b => if b = 0 then some (.cells #[.string s, .int .i64 a] 0 (0, 0)) else none) ⟨0, 0, none⟩ ⟨rfl, rfl⟩).1 (fun hd => p_token s a h hsz _ ⟨b6, 0, none⟩ ⟨or_cell1 hd rfl, or_cell1 hd rfl⟩) ?_
  rintro _ F3 hF3 rfl
  obtain ⟨t1, t2⟩ := tok_one s (a := a) h
  have hnx := fun he => oneP_next (s := s) (a := a) h he
  have hat := fun he => oneP_at (s := s) (a := a) he
  generalize tokP s a = q at t1 t2 ⊢
  obtain ⟨⟨tk, ttx, tn, ta⟩, tx, e⟩ := q
  generalize oneP s a = o1 at hsc t1 t2 hnx hat
  obtain ⟨⟨ok, otx, on_, oa⟩, nx, oe⟩ := o1
  dsimp only at t1 t2 hsc hnx hat ⊢
  subst t1
  simp only [push_cast, ↓reduceIte, Nat.reduceEqDiff, Nat.reduceAdd, Nat.reduceMul, Nat.reduceSub, Nat.reduceLT, Nat.reduceLeDiff, reduceCtorEq, Nat.reduceMod, Int.reduceEq, Int.reduceLT, Int.reduceLE, Int.reduceToNat, dite_true]
  intro b7
  by_cases he : e = 0
  case neg =>
    rw [if_pos he] at hsc
    rw [← hsc]
    simp only [push_cast, ↓reduceIte, Nat.reduceEqDiff, Nat.reduceAdd, Nat.reduceMul, Nat.reduceSub, Nat.reduceLT, Nat.reduceLeDiff, reduceCtorEq, Nat.reduceMod, Int.reduceEq, Int.reduceLT, Int.reduceLE, Int.reduceToNat, dite_true, he]
    refine VC.draw (.q 0 (.q 1 (.q 2 (.q 3 (.q 4 (.q 5 (.q 6 (.q 7 (.done))))))))) mixed (by rfl) ?_
    simp only [push_cast, ↓reduceIte, Nat.reduceEqDiff, Nat.reduceAdd, Nat.reduceMul, Nat.reduceSub, Nat.reduceLT, Nat.reduceLeDiff, reduceCtorEq, Nat.reduceMod, Int.reduceEq, Int.reduceLT, Int.reduceLE, Int.reduceToNat, dite_true]
    refine VC.go 100 ?_
    simp only [push_cast, ↓reduceIte, Nat.reduceEqDiff, Nat.reduceAdd, Nat.reduceMul, Nat.reduceSub, Nat.reduceLT, Nat.reduceLeDiff, reduceCtorEq, Nat.reduceMod, Int.reduceEq, Int.reduceLT, Int.reduceLE, Int.reduceToNat, dite_true]
    exact RetOk.p rfl ⟨_, rfl, nil_sle _ _ _⟩
  rw [if_neg (show ¬ ¬ e = 0 from fun k => k he)] at hsc
  obtain ⟨j, rfl, hj1, hj2⟩ := hnx he
  obtain ⟨k1, k2⟩ := t2 he
  have hoa := hat he
  cases k1
  subst hoa
  rw [Int.toNat_natCast] at k2 hsc
  subst k2
  by_cases g3 : (ttx.size : Int) > 32
  · rw [if_pos (by omega)] at hsc
    rw [← hsc]
    simp only [push_cast, ↓reduceIte, Nat.reduceEqDiff, Nat.reduceAdd, Nat.reduceMul, Nat.reduceSub, Nat.reduceLT, Nat.reduceLeDiff, reduceCtorEq, Nat.reduceMod, Int.reduceEq, Int.reduceLT, Int.reduceLE, Int.reduceToNat, dite_true, eq_true he, eq_true g3]
    refine VC.draw (.q 0 (.q 1 (.q 2 (.q 3 (.q 4 (.q 5 (.q 6 (.q 7 (.done))))))))) mixed (by rfl) ?_
    simp only [push_cast, ↓reduceIte, Nat.reduceEqDiff, Nat.reduceAdd, Nat.reduceMul, Nat.reduceSub, Nat.reduceLT, Nat.reduceLeDiff, reduceCtorEq, Nat.reduceMod, Int.reduceEq, Int.reduceLT, Int.reduceLE, Int.reduceToNat, dite_true]
    refine VC.go 100 ?_
    simp only [push_cast, ↓reduceIte, Nat.reduceEqDiff, Nat.reduceAdd, Nat.reduceMul, Nat.reduceSub, Nat.reduceLT, Nat.reduceLeDiff, reduceCtorEq, Nat.reduceMod, Int.reduceEq, Int.reduceLT, Int.reduceLE, Int.reduceToNat, dite_true]
    exact RetOk.p rfl ⟨_, rfl, nil_sle _ _ _⟩
  rw [if_neg (by omega)] at hsc
  have hex : (s.extract a j).size = j - a := by rw [ByteArray.size_extract]; omega
  have hw : IntKind.i64.wrap ((a : Int) + ((s.extract a j).size : Int)) = (j : Int) := by rw [hex, IntWalk.i64_in _ (by omega)]; omega
  simp only [push_cast, ↓reduceIte, Nat.reduceEqDiff, Nat.reduceAdd, Nat.reduceMul, Nat.reduceSub, Nat.reduceLT, Nat.reduceLeDiff, reduceCtorEq, Nat.reduceMod, Int.reduceEq, Int.reduceLT, Int.reduceLE, Int.reduceToNat, dite_true, eq_true he, g3, hw]
  intro b40 F4 hF4 hb40
  refine Eff.append (xs := xs) (ys := tokC ⟨tk, ttx, tn, a⟩) rfl rfl rfl ty72 rfl ty71 rfl (by decide) rfl rfl (List.Perm.refl _) hr (Src.blk hb40 rfl) (by simp [Value.oneCell']) (by simp; omega) (by decide) ?_
  intro v' r' hr'
  obtain ⟨p6, n6, c6, rfl⟩ := hr'.val
  simp only [push_cast, ↓reduceIte, Nat.reduceEqDiff, Nat.reduceAdd, Nat.reduceMul, Nat.reduceSub, Nat.reduceLT, Nat.reduceLeDiff, reduceCtorEq, Nat.reduceMod, Int.reduceEq, Int.reduceLT, Int.reduceLE, Int.reduceToNat, dite_true]
  refine CallV.own (i := 0) rfl (p_blanks s j hj2 hsz F4 b6) ?_
  rintro _ F5 _ hF5 rfl
  obtain ⟨hj5, hj6⟩ := skipE_le s hj2
  simp only [push_cast, ↓reduceIte, Nat.reduceEqDiff, Nat.reduceAdd, Nat.reduceMul, Nat.reduceSub, Nat.reduceLT, Nat.reduceLeDiff, reduceCtorEq, Nat.reduceMod, Int.reduceEq, Int.reduceLT, Int.reduceLE, Int.reduceToNat, dite_true]
  exact hG (skipE s j, _, l ++ [⟨tk, ttx, tn, a⟩], F5, r') _ ⟨hj6, hsc, by simp; omega, _, hr', each_snoc hea (show RTok (⟨tk, ttx, tn, (a : Int)⟩ : Tok) _ from rfl)⟩ (by dsimp only; omega) (by simp [subk, Eng.look]) (by simp) rfl (subR_refl _)
end Go.Proofs.YtmiekonofocboaaGreatDoor.X

/- The number that a word is: what the program and the definition tell. -/
namespace Go.Proofs.YtmiekonofocboaaGreatDoor.X
open Go Go.Eng Go.Proofs Go.Proofs.YtmiekonofocboaaGreatDoor.T Go.Proofs.YtmiekonofocboaaGreatDoor.K
set_option linter.unusedSimpArgs false
set_option linter.unusedVariables false
set_option linter.unusedSectionVars false
set_option maxRecDepth 100000
set_option maxHeartbeats 4000000
def okC (w : ByteArray) (i : Nat) : Prop := digitB (ch w i) = true ∨ (ch w i = 45 ∧ i = 0)
/-- Digits, perhaps with - ahead. -/
def validW (w : ByteArray) : Prop := (∀ i, i < w.size → okC w i) ∧ ∃ i, i < w.size ∧ digitB (ch w i) = true
open Classical in
noncomputable def numberP (w : ByteArray) : Option Int := if validW w ∧ w.size ≤ 16384 then intOf w else none
abbrev numV : Option Int → Value
  | some n => .tuple #[.int .i64 n, .bool true]
  | none => .tuple #[.int .i64 0, .bool false]
theorem okC_not {w : ByteArray} {i : Nat} (h : okC w i) : smallB (ch w i) = false ∧ largeB (ch w i) = false ∧ blankB (ch w i) = false ∧ ¬ ch w i = 35 := by
  rcases h with h | h
  · simp only [digitB, Bool.and_eq_true, decide_eq_true_eq] at h
    simp only [smallB, largeB, blankB, Bool.and_eq_false_iff, Bool.or_eq_false_iff, decide_eq_false_iff_not]
    omega
  · rw [h.1]; decide
theorem valid_first {w : ByteArray} (h : validW w) : 0 < w.size ∧ (digitB (ch w 0) = true ∨ (ch w 0 = 45 ∧ digitB (nxt w 0) = true)) ∧ ¬ dashB w 0 := by
  obtain ⟨h1, i, hi, hd⟩ := h
  have h0 := h1 0 (by omega)
  have hz : 0 < w.size := by omega
  rcases h0 with h0 | h0
  · exact ⟨hz, .inl h0, fun k => by rw [k.1] at h0; exact absurd h0 (by decide)⟩
  · have hne : i ≠ 0 := fun e => by subst e; rw [h0.1] at hd; exact absurd hd (by decide)
    have h2 := h1 1 (by omega)
    rcases h2 with h2 | h2
    · refine ⟨hz, .inr ⟨h0.1, by unfold nxt; rw [if_pos (by omega)]; exact h2⟩, fun k => ?_⟩
      rw [k.2.2] at h2; exact absurd h2 (by decide)
    · exact absurd h2.2 (by decide)
theorem digE_all {w : ByteArray} (h : ∀ i, i < w.size → okC w i) : ∀ n k, n = w.size - k → 0 < k → k ≤ w.size → digE w k = w.size
  | n, k, hn, h0, hk => by
    rw [digE_eq]
    by_cases hlt : k < w.size
    · have := h k hlt
      rcases this with g | g
      · rw [if_pos ⟨hlt, g⟩]
        exact digE_all h (w.size - (k + 1)) (k + 1) rfl (by omega) (by omega)
      · omega
    · rw [if_neg (fun g => hlt g.1)]; omega
  termination_by n k => w.size - k
theorem skip_end (w : ByteArray) : skipE w w.size = w.size := by rw [skipE_eq, if_neg (by omega)]
theorem one_valid {w : ByteArray} (h : validW w) : oneP w 0 = match intOf w with
    | some m => (⟨4, ⟨#[]⟩, m, 0⟩, (w.size : Int), 0)
    | none => (tok0, 0, 22) := by
  obtain ⟨hz, hd, _⟩ := valid_first h
  obtain ⟨o1, o2, _, o4⟩ := okC_not (h.1 0 hz)
  have hde := digE_all h.1 _ 1 rfl (by decide) hz
  unfold oneP
  rw [if_neg (by rw [o1]; decide), if_neg (by rw [o2]; decide), if_neg (fun k => o4 k.1), if_pos hd]
  simp only [Nat.zero_add, hde, ByteArray.extract_zero_size]
  rfl
theorem scan_valid {w : ByteArray} (h : validW w) (hs : w.size ≤ 16384) : scanAll w = match intOf w with
    | some m => ([⟨4, ⟨#[]⟩, m, 0⟩], 0, 0)
    | none => ([], 0, 22) := by
  obtain ⟨hz, hd, hda⟩ := valid_first h
  obtain ⟨_, _, o3, _⟩ := okC_not (h.1 0 hz)
  unfold scanAll
  rw [if_neg (by omega), skipE_eq, if_pos hz, if_neg (by rw [o3]; decide), if_neg hda, scanE_eq, if_pos hz, one_valid h]
  cases intOf w with
  | none => rfl
  | some m =>
    dsimp only
    rw [if_neg (fun k => k rfl), if_neg (by decide), Int.toNat_natCast, skip_end, scanE_eq, if_neg (by omega)]
    rfl
/-- What holds signs of numbers alone, and no digit, is no number. -/
theorem scan_none {w : ByteArray} (h : ∀ i, i < w.size → okC w i) (hn : ¬ validW w) : ¬ ((scanAll w).2.2 = 0 ∧ (scanAll w).1.length = 1) := by
  have hnd : ∀ i, i < w.size → ¬ digitB (ch w i) = true := fun i hi hd => hn ⟨h, i, hi, hd⟩
  have h1 : w.size ≤ 1 := by
    rcases Nat.lt_or_ge 1 w.size with g | g
    · rcases h 1 g with k | k
      · exact absurd k (hnd 1 g)
      · exact absurd k.2 (by decide)
    · exact g
  unfold scanAll
  rw [if_neg (by omega)]
  rcases Nat.eq_zero_or_pos w.size with hz | hz
  · rw [skipE_eq, if_neg (by omega), scanE_eq, if_neg (by omega)]
    rintro ⟨_, k⟩
    exact absurd (show (0 : Nat) = 1 from k) (by decide)
  · have h0 : ch w 0 = 45 := by
      rcases h 0 hz with k | k
      · exact absurd k (hnd 0 hz)
      · exact k.1
    have hnx : nxt w 0 = 0 := by unfold nxt; rw [if_neg (by omega)]
    have hsg : signB (w.extract 0 (0 + 1)) = false := by
      rw [extract_one w hz]
      have : w.data.getD 0 0 = 45 := UInt8.toNat_inj.1 (show (w.data.getD 0 0).toNat = 45 by unfold ch at h0; omega)
      rw [this]; decide
    have ho : oneP w 0 = (tok0, 0, 20) := by
      unfold oneP
      rw [if_neg (by rw [h0]; decide), if_neg (by rw [h0]; decide), if_neg (fun k => by rw [h0] at k; exact absurd k.1 (by decide)), if_neg (by rw [h0, hnx]; decide), if_neg (by rw [hnx]; exact fun k => absurd k.2 (by decide)), if_neg (by rw [hsg]; decide)]
    rw [skipE_eq, if_pos hz, if_neg (by rw [h0]; decide), if_neg (fun k => by have := k.2.1; omega), scanE_eq, if_pos hz, ho, if_pos (by decide)]
    rintro ⟨k, _⟩
    exact absurd (show (20 : Int) = 0 from k) (by decide)
theorem num_no {w : ByteArray} (h : ¬ validW w) : numberP w = none := by unfold numberP; rw [if_neg (fun k => h k.1)]
theorem not_valid_at {w : ByteArray} {i : Nat} (hi : i < w.size) (h : ¬ okC w i) : ¬ validW w := fun k => h (k.1 i hi)
/-- Its digits, so far. -/
def cntD (w : ByteArray) : Nat → Nat
  | 0 => 0
  | i + 1 => cntD w i + if digitB (ch w i) = true then 1 else 0
theorem cntD_le (w : ByteArray) : ∀ i, cntD w i ≤ i
  | 0 => Nat.le_refl _
  | i + 1 => by have := cntD_le w i; simp only [cntD]; split <;> omega
theorem cntD_pos {w : ByteArray} : ∀ {i : Nat}, 0 < cntD w i ↔ ∃ j, j < i ∧ digitB (ch w j) = true
  | 0 => by simp [cntD]
  | i + 1 => by
    simp only [cntD]
    constructor
    · intro h
      by_cases hd : digitB (ch w i) = true
      · exact ⟨i, by omega, hd⟩
      · rw [if_neg hd] at h
        obtain ⟨j, h1, h2⟩ := cntD_pos.1 h
        exact ⟨j, by omega, h2⟩
    · rintro ⟨j, h1, h2⟩
      by_cases e : j = i
      · subst e; rw [if_pos h2]; omega
      · have := (cntD_pos (w := w) (i := i)).2 ⟨j, by omega, h2⟩
        omega
theorem ref_number (w : ByteArray) (hsz : w.size ≤ 100000000) (F : PH) : PFn Tryz.prog 32 [.string w] F (fun v _ => v = numV (numberP w)) := by
  refine Fn.intro (n := 49) (ts := [2, 3]) Tryz.func32 rfl rfl rfl rfl (by simp) fun B hB => VC.go 100 ?_
  simp only [push_cast, ↓reduceIte, Nat.reduceEqDiff, Nat.reduceAdd, Nat.reduceMul, Nat.reduceSub, Nat.reduceLT, Nat.reduceLeDiff, reduceCtorEq, Nat.reduceMod, Int.reduceEq, Int.reduceLT, Int.reduceLE, Int.reduceToNat, dite_true]
  refine VC.loopL (fun i : Nat => [(5, .v (.int .i64 (i : Int))), (4, .v (.int .i64 (cntD w i : Int))), (0, .v (.string w))]) (fun i => i ≤ w.size ∧ ∀ j, j < i → okC w j) (fun i => w.size - i) 0 ⟨Nat.zero_le _, fun j h => absurd h (by omega)⟩ (by simp [subk, Eng.look, cntD]) ?_
  rintro i ⟨hi, hok⟩ G hG
  refine VC.go 100 ?_
  have hcl := cntD_le w i
  rcases Nat.lt_or_ge i w.size with hlt | hge
  · have hc : ((w.data.getD i 0).toNat : Int) = ch w i := rfl
    have hw1 : IntKind.i64.wrap ((i : Int) + 1) = (i : Int) + 1 := IntWalk.i64_in _ (by omega)
    have hw2 : IntKind.i64.wrap ((cntD w i : Int) + 1) = (cntD w i : Int) + 1 := IntWalk.i64_in _ (by omega)
    have step : okC w i → ∀ j, j < i + 1 → okC w j := fun h j hj => by
      by_cases e : j = i
      · subst e; exact h
      · exact hok j (by omega)
    have f1 := eq_true (show (i : Int) < (w.size : Int) by omega)
    have f2 := eq_true (show (0 : Int) ≤ (i : Int) by omega)
    have h45 : ¬ digitB (ch w i) = true → (ch w i = 45 ∧ i = 0) ∨ ¬ okC w i := fun hd => by
      by_cases h : ch w i = 45 ∧ i = 0
      · exact .inl h
      · exact .inr fun k => by rcases k with k | k; exact hd k; exact h k
    have rest : ¬ digitB (ch w i) = true → cntD w (i + 1) = cntD w i := fun hd => by simp only [cntD]; rw [if_neg hd]; rfl
    by_cases c1 : ch w i ≥ 48
    · by_cases c2 : ch w i ≤ 57
      · have hd : digitB (ch w i) = true := by simp [digitB]; omega
        have hcn : cntD w (i + 1) = cntD w i + 1 := by simp only [cntD]; rw [if_pos hd]
        simp only [push_cast, ↓reduceIte, Nat.reduceEqDiff, Nat.reduceAdd, Nat.reduceMul, Nat.reduceSub, Nat.reduceLT, Nat.reduceLeDiff, reduceCtorEq, Nat.reduceMod, Int.reduceEq, Int.reduceLT, Int.reduceLE, Int.reduceToNat, dite_true, f1, f2, hc, eq_true c1, eq_true c2, hw2, hw1]
        exact hG (i + 1) _ ⟨by omega, step (.inl hd)⟩ (by omega) (by simp [subk, Eng.look, hcn]) (List.Sublist.refl _) rfl rfl
      · have hd : ¬ digitB (ch w i) = true := by simp [digitB]; omega
        have n45 : ¬ ch w i = 45 := by omega
        have hbad : ¬ okC w i := fun k => by rcases k with k | k; exact hd k; exact n45 k.1
        simp only [push_cast, ↓reduceIte, Nat.reduceEqDiff, Nat.reduceAdd, Nat.reduceMul, Nat.reduceSub, Nat.reduceLT, Nat.reduceLeDiff, reduceCtorEq, Nat.reduceMod, Int.reduceEq, Int.reduceLT, Int.reduceLE, Int.reduceToNat, dite_true, f1, f2, hc, eq_true c1, c2, n45]
        exact RetOk.p rfl (by rw [num_no (not_valid_at hlt hbad)]; rfl)
    · have hd : ¬ digitB (ch w i) = true := by simp [digitB]; omega
      by_cases c3 : ch w i = 45
      · by_cases c4 : (i : Int) > 0
        · have hbad : ¬ okC w i := fun k => by rcases k with k | k; exact hd k; omega
          simp only [push_cast, ↓reduceIte, Nat.reduceEqDiff, Nat.reduceAdd, Nat.reduceMul, Nat.reduceSub, Nat.reduceLT, Nat.reduceLeDiff, reduceCtorEq, Nat.reduceMod, Int.reduceEq, Int.reduceLT, Int.reduceLE, Int.reduceToNat, dite_true, f1, f2, hc, c1, eq_true c3, eq_true (show (0 : Int) < (i : Int) by omega)]
          exact RetOk.p rfl (by rw [num_no (not_valid_at hlt hbad)]; rfl)
        · simp only [push_cast, ↓reduceIte, Nat.reduceEqDiff, Nat.reduceAdd, Nat.reduceMul, Nat.reduceSub, Nat.reduceLT, Nat.reduceLeDiff, reduceCtorEq, Nat.reduceMod, Int.reduceEq, Int.reduceLT, Int.reduceLE, Int.reduceToNat, dite_true, f1, f2, hc, c1, eq_true c3, eq_false (show ¬ (0 : Int) < (i : Int) by omega), hw1]
          exact hG (i + 1) _ ⟨by omega, step (.inr ⟨c3, by omega⟩)⟩ (by omega) (by simp [subk, Eng.look, rest hd]) (List.Sublist.refl _) rfl rfl
      · have hbad : ¬ okC w i := fun k => by rcases k with k | k; exact hd k; exact c3 k.1
        simp only [push_cast, ↓reduceIte, Nat.reduceEqDiff, Nat.reduceAdd, Nat.reduceMul, Nat.reduceSub, Nat.reduceLT, Nat.reduceLeDiff, reduceCtorEq, Nat.reduceMod, Int.reduceEq, Int.reduceLT, Int.reduceLE, Int.reduceToNat, dite_true, f1, f2, hc, c1, c3]
        exact RetOk.p rfl (by rw [num_no (not_valid_at hlt hbad)]; rfl)
  · obtain rfl : i = w.size := by omega
    have f1 := eq_false (show ¬ (w.size : Int) < (w.size : Int) by omega)
    by_cases hz : cntD w w.size = 0
    · have hnv : ¬ validW w := fun k => by have := cntD_pos.2 k.2; omega
      simp only [push_cast, ↓reduceIte, Nat.reduceEqDiff, Nat.reduceAdd, Nat.reduceMul, Nat.reduceSub, Nat.reduceLT, Nat.reduceLeDiff, reduceCtorEq, Nat.reduceMod, Int.reduceEq, Int.reduceLT, Int.reduceLE, Int.reduceToNat, dite_true, f1, eq_true (show (cntD w w.size : Int) = 0 by omega)]
      exact RetOk.p rfl (by rw [num_no hnv]; rfl)
    · have hv : validW w := ⟨hok, cntD_pos.1 (by omega)⟩
      simp only [push_cast, ↓reduceIte, Nat.reduceEqDiff, Nat.reduceAdd, Nat.reduceMul, Nat.reduceSub, Nat.reduceLT, Nat.reduceLeDiff, reduceCtorEq, Nat.reduceMod, Int.reduceEq, Int.reduceLT, Int.reduceLE, Int.reduceToNat, dite_true, f1, eq_false (show ¬ (cntD w w.size : Int) = 0 by omega)]
      refine CallV.pure (scan w F) ?_
      rintro _ F1 hF1 ⟨sl, rfl, htk, _, _⟩
      by_cases hs : w.size ≤ 16384
      · rw [scan_valid hv hs] at htk ⊢
        have hnp : numberP w = intOf w := by unfold numberP; rw [if_pos ⟨hv, hs⟩]
        cases hio : intOf w with
        | none =>
          simp only [push_cast, ↓reduceIte, Nat.reduceEqDiff, Nat.reduceAdd, Nat.reduceMul, Nat.reduceSub, Nat.reduceLT, Nat.reduceLeDiff, reduceCtorEq, Nat.reduceMod, Int.reduceEq, Int.reduceLT, Int.reduceLE, Int.reduceToNat, dite_true]
          exact RetOk.p rfl (by rw [hnp, hio]; rfl)
        | some m =>
          rw [hio] at htk
          dsimp only at htk
          obtain ⟨xs, ⟨p, c, rfl, _, _, hsrc⟩, hx, ys, rfl, hx1, hx2⟩ := htk
          simp only [Each] at hx2
          subst hx2
          cases hx1
          obtain ⟨a, rfl, hcl⟩ := hsrc.2 (by simp)
          have hcl' : F1.cells a 4 = some (tokC ⟨4, ⟨#[]⟩, m, 0⟩) := by simpa using hcl
          have h2 := cell_at hcl' (o := 2) rfl
          have n1 : ((0 : Nat) < 0 + 1) = True := eq_true (by decide)
          have n2 : ((0 : Int) < 0 + 1) = True := eq_true (by decide)
          have n3 : ((0 : Nat) < 1) = True := eq_true (by decide)
          have n4 : ((0 : Int) < 1) = True := eq_true (by decide)
          simp only [push_cast, ↓reduceIte, Nat.reduceEqDiff, Nat.reduceAdd, Nat.reduceMul, Nat.reduceSub, Nat.reduceLT, Nat.reduceLeDiff, reduceCtorEq, Nat.reduceMod, Int.reduceEq, Int.reduceLT, Int.reduceLE, Int.reduceToNat, dite_true, n1, n2, n3, n4, Nat.zero_mul, add_zero', h2]
          exact RetOk.p rfl (by rw [hnp, hio]; rfl)
      · have hsc : scanAll w = ([], 0, 3) := by unfold scanAll; rw [if_pos (by omega)]
        rw [hsc]
        simp only [push_cast, ↓reduceIte, Nat.reduceEqDiff, Nat.reduceAdd, Nat.reduceMul, Nat.reduceSub, Nat.reduceLT, Nat.reduceLeDiff, reduceCtorEq, Nat.reduceMod, Int.reduceEq, Int.reduceLT, Int.reduceLE, Int.reduceToNat, dite_true]
        exact RetOk.p rfl (by unfold numberP; rw [if_neg (fun k => hs k.2)]; rfl)
theorem num_scan {w : ByteArray} {m : Int} (h : numberP w = some m) : scanAll w = ([⟨4, ⟨#[]⟩, m, 0⟩], 0, 0) := by
  unfold numberP at h
  split at h
  · rename_i k
    rw [scan_valid k.1 k.2, h]
  · cases h
theorem scan_num {w : ByteArray} (hok : ∀ i, i < w.size → okC w i) {l : List Tok} {a e : Int} (hs : scanAll w = (l, a, e)) (he : e = 0) (hl : l.length = 1) : ∃ m, numberP w = some m ∧ l = [⟨4, ⟨#[]⟩, m, 0⟩] := by
  have hv : validW w := Classical.byContradiction fun hn => scan_none hok hn (by rw [hs]; exact ⟨he, hl⟩)
  have hsz : w.size ≤ 16384 := by
    rcases Nat.lt_or_ge 16384 w.size with h | h
    · unfold scanAll at hs
      rw [if_pos h] at hs
      cases hs
      exact absurd he (by decide)
    · exact h
  have h2 := scan_valid hv hsz
  rw [hs] at h2
  cases hio : intOf w with
  | none =>
    rw [hio] at h2
    cases h2
    exact absurd he (by decide)
  | some m =>
    rw [hio] at h2
    cases h2
    exact ⟨m, by unfold numberP; rw [if_pos ⟨hv, hsz⟩, hio], rfl⟩
theorem p_num (w : ByteArray) (hsz : w.size ≤ 100000000) (F : PH) : PFn Tryz.prog 36 [.string w] F (fun v _ => v = numV (numberP w)) := by
  have hml : w.size ≤ maxLen := Nat.le_trans hsz (by decide)
  refine Fn.intro (n := 59) (ts := [2, 3]) Tryz.func36 rfl rfl rfl rfl (by simp) fun B hB => VC.go 100 ?_
  simp only [push_cast, ↓reduceIte, Nat.reduceEqDiff, Nat.reduceAdd, Nat.reduceMul, Nat.reduceSub, Nat.reduceLT, Nat.reduceLeDiff, reduceCtorEq, Nat.reduceMod, Int.reduceEq, Int.reduceLT, Int.reduceLE, Int.reduceToNat, dite_true]
  have hsc := p_scan w hml F
  have hno : ∀ {l : List Tok} {a e : Int}, scanAll w = (l, a, e) → ¬ (e = 0 ∧ ∃ t, l = [t] ∧ t.k = 4) → numberP w = none := fun hs hn => by
    cases hq : numberP w with
    | none => rfl
    | some m =>
      have := num_scan hq
      rw [hs] at this
      cases this
      exact absurd ⟨rfl, _, rfl, rfl⟩ hn
  obtain ⟨⟨l, a, e⟩, hs⟩ : ∃ r, scanAll w = r := ⟨_, rfl⟩
  have hno1 := hno hs
  rw [hs] at hsc
  dsimp only at hsc
  refine CallV.pure hsc ?_
  rintro _ F1 hF1 ⟨sl, rfl, htk, hlen⟩
  obtain ⟨xs, ⟨p, c, rfl, _, _, hsrc⟩, hx⟩ := htk
  by_cases he : e = 0
  case neg =>
    simp only [push_cast, ↓reduceIte, Nat.reduceEqDiff, Nat.reduceAdd, Nat.reduceMul, Nat.reduceSub, Nat.reduceLT, Nat.reduceLeDiff, reduceCtorEq, Nat.reduceMod, Int.reduceEq, Int.reduceLT, Int.reduceLE, Int.reduceToNat, dite_true, he]
    exact RetOk.p rfl (by rw [hno1 (fun k => he k.1)]; rfl)
  by_cases hl1 : l.length = 1
  case neg =>
    simp only [push_cast, ↓reduceIte, Nat.reduceEqDiff, Nat.reduceAdd, Nat.reduceMul, Nat.reduceSub, Nat.reduceLT, Nat.reduceLeDiff, reduceCtorEq, Nat.reduceMod, Int.reduceEq, Int.reduceLT, Int.reduceLE, Int.reduceToNat, dite_true, eq_true he, eq_false (show ¬ (l.length : Int) = 1 by omega)]
    exact RetOk.p rfl (by rw [hno1 (fun k => by obtain ⟨_, t, rfl, _⟩ := k; exact hl1 rfl)]; rfl)
  obtain ⟨t, rfl⟩ : ∃ t, l = [t] := by
    match l, hl1 with
    | [t], _ => exact ⟨t, rfl⟩
  obtain ⟨cs, ys, rfl, hx1, hx2⟩ := hx
  simp only [Each] at hx2
  subst hx2
  cases hx1
  obtain ⟨q, rfl, hcl⟩ := hsrc.2 (by simp)
  have hcl' : F1.cells q 4 = some (tokC t) := by simpa using hcl
  have h0 := cell_at hcl' (o := 0) rfl
  have h2 := cell_at hcl' (o := 2) rfl
  have n1 : ((0 : Nat) < 0 + 1) = True := eq_true (by decide)
  have n2 : ((0 : Int) < 0 + 1) = True := eq_true (by decide)
  have n3 : ((0 : Nat) < 1) = True := eq_true (by decide)
  have n4 : ((0 : Int) < 1) = True := eq_true (by decide)
  have n5 : ((0 : Int) + 1 = 1) = True := eq_true (by decide)
  rw [add_zero'] at h0
  by_cases hk : t.k = 4
  case neg =>
    simp only [push_cast, ↓reduceIte, Nat.reduceEqDiff, Nat.reduceAdd, Nat.reduceMul, Nat.reduceSub, Nat.reduceLT, Nat.reduceLeDiff, reduceCtorEq, Nat.reduceMod, Int.reduceEq, Int.reduceLT, Int.reduceLE, Int.reduceToNat, dite_true, eq_true he, n1, n2, n3, n4, n5, Nat.zero_mul, add_zero', h0, hk]
    exact RetOk.p rfl (by rw [hno1 (fun k => by obtain ⟨_, t', e', k'⟩ := k; cases e'; exact hk k')]; rfl)
  simp only [push_cast, ↓reduceIte, Nat.reduceEqDiff, Nat.reduceAdd, Nat.reduceMul, Nat.reduceSub, Nat.reduceLT, Nat.reduceLeDiff, reduceCtorEq, Nat.reduceMod, Int.reduceEq, Int.reduceLT, Int.reduceLE, Int.reduceToNat, dite_true, eq_true he, n1, n2, n3, n4, n5, Nat.zero_mul, add_zero', h0, eq_true hk]
  refine VC.loopL (fun i : Nat => [(30, .v (.int .i64 (i : Int))), (29, .v (.int .i64 (w.size : Int))), (4, .v (.slice (some q) 1 c)), (0, .v (.string w))]) (fun i => i ≤ w.size ∧ ∀ j, j < i → okC w j) (fun i => w.size - i) 0 ⟨Nat.zero_le _, fun j h => absurd h (by omega)⟩ (by simp [subk, Eng.look]) ?_
  rintro i ⟨hi, hok⟩ G hG
  refine VC.go 100 ?_
  rcases Nat.lt_or_ge i w.size with hlt | hge
  · have hc : ((w.data.getD i 0).toNat : Int) = ch w i := rfl
    have hw1 : IntKind.i64.wrap ((i : Int) + 1) = (i : Int) + 1 := IntWalk.i64_in _ (by omega)
    have step : okC w i → ∀ j, j < i + 1 → okC w j := fun h j hj => by
      by_cases e : j = i
      · subst e; exact h
      · exact hok j (by omega)
    have f1 := eq_true (show (i : Int) < (w.size : Int) by omega)
    have f2 := eq_true (show (0 : Int) ≤ (i : Int) by omega)
    by_cases c1 : ch w i ≥ 48
    · by_cases c2 : ch w i ≤ 57
      · have hd : digitB (ch w i) = true := by simp [digitB]; omega
        simp only [push_cast, ↓reduceIte, Nat.reduceEqDiff, Nat.reduceAdd, Nat.reduceMul, Nat.reduceSub, Nat.reduceLT, Nat.reduceLeDiff, reduceCtorEq, Nat.reduceMod, Int.reduceEq, Int.reduceLT, Int.reduceLE, Int.reduceToNat, dite_true, f1, f2, hc, eq_true c1, eq_true c2, hw1]
        exact hG (i + 1) _ ⟨by omega, step (.inl hd)⟩ (by omega) (by simp [subk, Eng.look]) (List.Sublist.refl _) rfl rfl
      · have hd : ¬ digitB (ch w i) = true := by simp [digitB]; omega
        have n45 : ¬ ch w i = 45 := by omega
        have hbad : ¬ okC w i := fun k => by rcases k with k | k; exact hd k; exact n45 k.1
        simp only [push_cast, ↓reduceIte, Nat.reduceEqDiff, Nat.reduceAdd, Nat.reduceMul, Nat.reduceSub, Nat.reduceLT, Nat.reduceLeDiff, reduceCtorEq, Nat.reduceMod, Int.reduceEq, Int.reduceLT, Int.reduceLE, Int.reduceToNat, dite_true, f1, f2, hc, eq_true c1, c2, n45]
        exact RetOk.p rfl (by rw [num_no (not_valid_at hlt hbad)]; rfl)
    · have hd : ¬ digitB (ch w i) = true := by simp [digitB]; omega
      by_cases c3 : ch w i = 45
      · by_cases c4 : (i : Int) = 0
        · simp only [push_cast, ↓reduceIte, Nat.reduceEqDiff, Nat.reduceAdd, Nat.reduceMul, Nat.reduceSub, Nat.reduceLT, Nat.reduceLeDiff, reduceCtorEq, Nat.reduceMod, Int.reduceEq, Int.reduceLT, Int.reduceLE, Int.reduceToNat, dite_true, f1, f2, hc, c1, eq_true c3, eq_true c4, hw1]
          exact hG (i + 1) _ ⟨by omega, step (.inr ⟨c3, by omega⟩)⟩ (by omega) (by simp [subk, Eng.look]) (List.Sublist.refl _) rfl rfl
        · have hbad : ¬ okC w i := fun k => by rcases k with k | k; exact hd k; omega
          simp only [push_cast, ↓reduceIte, Nat.reduceEqDiff, Nat.reduceAdd, Nat.reduceMul, Nat.reduceSub, Nat.reduceLT, Nat.reduceLeDiff, reduceCtorEq, Nat.reduceMod, Int.reduceEq, Int.reduceLT, Int.reduceLE, Int.reduceToNat, dite_true, f1, f2, hc, c1, eq_true c3, c4]
          exact RetOk.p rfl (by rw [num_no (not_valid_at hlt hbad)]; rfl)
      · have hbad : ¬ okC w i := fun k => by rcases k with k | k; exact hd k; exact c3 k.1
        simp only [push_cast, ↓reduceIte, Nat.reduceEqDiff, Nat.reduceAdd, Nat.reduceMul, Nat.reduceSub, Nat.reduceLT, Nat.reduceLeDiff, reduceCtorEq, Nat.reduceMod, Int.reduceEq, Int.reduceLT, Int.reduceLE, Int.reduceToNat, dite_true, f1, f2, hc, c1, c3]
        exact RetOk.p rfl (by rw [num_no (not_valid_at hlt hbad)]; rfl)
  · obtain rfl : i = w.size := by omega
    obtain ⟨m, hm, hlm⟩ := scan_num hok hs he hl1
    cases hlm
    simp only [push_cast, ↓reduceIte, Nat.reduceEqDiff, Nat.reduceAdd, Nat.reduceMul, Nat.reduceSub, Nat.reduceLT, Nat.reduceLeDiff, reduceCtorEq, Nat.reduceMod, Int.reduceEq, Int.reduceLT, Int.reduceLE, Int.reduceToNat, dite_true, eq_false (show ¬ (w.size : Int) < (w.size : Int) by omega), n1, n2, n3, n4, n5, Nat.zero_mul, add_zero', h2]
    exact RetOk.p rfl (by rw [hm]; rfl)
end Go.Proofs.YtmiekonofocboaaGreatDoor.X
