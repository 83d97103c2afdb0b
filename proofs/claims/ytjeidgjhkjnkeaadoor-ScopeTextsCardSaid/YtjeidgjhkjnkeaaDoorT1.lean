/- The lexer of the definition: what is needed of it. -/
import Derived.Test.YtjeidgjhkjnkeaaDoorM2
namespace Go.Proofs.YtjeidgjhkjnkeaaDoor.X
open Go Go.Eng Go.Proofs Go.Proofs.YtjeidgjhkjnkeaaDoor.T Go.Proofs.YtjeidgjhkjnkeaaDoor.K
open Go.Proofs.YtjeidgjhkjnkeaaDoor.M (each_snoc row_sle)
set_option linter.unusedSimpArgs false
set_option linter.unusedVariables false
set_option maxRecDepth 100000
set_option maxHeartbeats 4000000
def ch (s : ByteArray) (i : Nat) : Int := ((s.data.getD i 0).toNat : Int)
def smallB (c : Int) : Bool := decide (97 ≤ c) && decide (c ≤ 122)
def largeB (c : Int) : Bool := decide (65 ≤ c) && decide (c ≤ 90)
def digitB (c : Int) : Bool := decide (48 ≤ c) && decide (c ≤ 57)
theorem small (c : Int) (F : PH) : PFn Tryd.prog 58 [.int .u8 c] F (fun v _ => v = .bool (smallB c)) := by
  refine Fn.intro (n := 9) (ts := [2]) Tryd.func58 rfl rfl rfl rfl (by simp) fun B hB => VC.go 100 ?_
  by_cases h : c ≥ 97
  · by_cases h2 : c ≤ 122
    · simp only [push_cast, ↓reduceIte, Nat.reduceEqDiff, Nat.reduceAdd, Nat.reduceMul, Nat.reduceSub, Nat.reduceLT, Nat.reduceLeDiff, reduceCtorEq, Nat.reduceMod, Int.reduceEq, Int.reduceLT, Int.reduceLE, Int.reduceToNat, dite_true, eq_true h, eq_true h2]; rw [show smallB c = true from by simp [smallB]; omega]; exact RetOk.p rfl rfl
    · simp only [push_cast, ↓reduceIte, Nat.reduceEqDiff, Nat.reduceAdd, Nat.reduceMul, Nat.reduceSub, Nat.reduceLT, Nat.reduceLeDiff, reduceCtorEq, Nat.reduceMod, Int.reduceEq, Int.reduceLT, Int.reduceLE, Int.reduceToNat, dite_true, eq_true h, h2]; rw [show smallB c = false from by simp [smallB]; omega]; exact RetOk.p rfl rfl
  · simp only [push_cast, ↓reduceIte, Nat.reduceEqDiff, Nat.reduceAdd, Nat.reduceMul, Nat.reduceSub, Nat.reduceLT, Nat.reduceLeDiff, reduceCtorEq, Nat.reduceMod, Int.reduceEq, Int.reduceLT, Int.reduceLE, Int.reduceToNat, dite_true, h]; rw [show smallB c = false from by simp [smallB]; omega]; exact RetOk.p rfl rfl
theorem large (c : Int) (F : PH) : PFn Tryd.prog 60 [.int .u8 c] F (fun v _ => v = .bool (largeB c)) := by
  refine Fn.intro (n := 9) (ts := [2]) Tryd.func60 rfl rfl rfl rfl (by simp) fun B hB => VC.go 100 ?_
  by_cases h : c ≥ 65
  · by_cases h2 : c ≤ 90
    · simp only [push_cast, ↓reduceIte, Nat.reduceEqDiff, Nat.reduceAdd, Nat.reduceMul, Nat.reduceSub, Nat.reduceLT, Nat.reduceLeDiff, reduceCtorEq, Nat.reduceMod, Int.reduceEq, Int.reduceLT, Int.reduceLE, Int.reduceToNat, dite_true, eq_true h, eq_true h2]; rw [show largeB c = true from by simp [largeB]; omega]; exact RetOk.p rfl rfl
    · simp only [push_cast, ↓reduceIte, Nat.reduceEqDiff, Nat.reduceAdd, Nat.reduceMul, Nat.reduceSub, Nat.reduceLT, Nat.reduceLeDiff, reduceCtorEq, Nat.reduceMod, Int.reduceEq, Int.reduceLT, Int.reduceLE, Int.reduceToNat, dite_true, eq_true h, h2]; rw [show largeB c = false from by simp [largeB]; omega]; exact RetOk.p rfl rfl
  · simp only [push_cast, ↓reduceIte, Nat.reduceEqDiff, Nat.reduceAdd, Nat.reduceMul, Nat.reduceSub, Nat.reduceLT, Nat.reduceLeDiff, reduceCtorEq, Nat.reduceMod, Int.reduceEq, Int.reduceLT, Int.reduceLE, Int.reduceToNat, dite_true, h]; rw [show largeB c = false from by simp [largeB]; omega]; exact RetOk.p rfl rfl
theorem digit (c : Int) (F : PH) : PFn Tryd.prog 61 [.int .u8 c] F (fun v _ => v = .bool (digitB c)) := by
  refine Fn.intro (n := 9) (ts := [2]) Tryd.func61 rfl rfl rfl rfl (by simp) fun B hB => VC.go 100 ?_
  by_cases h : c ≥ 48
  · by_cases h2 : c ≤ 57
    · simp only [push_cast, ↓reduceIte, Nat.reduceEqDiff, Nat.reduceAdd, Nat.reduceMul, Nat.reduceSub, Nat.reduceLT, Nat.reduceLeDiff, reduceCtorEq, Nat.reduceMod, Int.reduceEq, Int.reduceLT, Int.reduceLE, Int.reduceToNat, dite_true, eq_true h, eq_true h2]; rw [show digitB c = true from by simp [digitB]; omega]; exact RetOk.p rfl rfl
    · simp only [push_cast, ↓reduceIte, Nat.reduceEqDiff, Nat.reduceAdd, Nat.reduceMul, Nat.reduceSub, Nat.reduceLT, Nat.reduceLeDiff, reduceCtorEq, Nat.reduceMod, Int.reduceEq, Int.reduceLT, Int.reduceLE, Int.reduceToNat, dite_true, eq_true h, h2]; rw [show digitB c = false from by simp [digitB]; omega]; exact RetOk.p rfl rfl
  · simp only [push_cast, ↓reduceIte, Nat.reduceEqDiff, Nat.reduceAdd, Nat.reduceMul, Nat.reduceSub, Nat.reduceLT, Nat.reduceLeDiff, reduceCtorEq, Nat.reduceMod, Int.reduceEq, Int.reduceLT, Int.reduceLE, Int.reduceToNat, dite_true, h]; rw [show digitB c = false from by simp [digitB]; omega]; exact RetOk.p rfl rfl
theorem blank (c : Int) (F : PH) : PFn Tryd.prog 56 [.int .u8 c] F (fun v _ => ∃ b, v = .bool b) := by
  refine Fn.intro (n := 17) (ts := [2]) Tryd.func56 rfl rfl rfl rfl (by simp) fun B hB => VC.go 100 ?_
  by_cases h1 : c = 9
  · simp only [push_cast, ↓reduceIte, Nat.reduceEqDiff, Nat.reduceAdd, Nat.reduceMul, Nat.reduceSub, Nat.reduceLT, Nat.reduceLeDiff, reduceCtorEq, Nat.reduceMod, Int.reduceEq, Int.reduceLT, Int.reduceLE, Int.reduceToNat, dite_true, eq_true h1]; exact RetOk.p rfl ⟨_, rfl⟩
  by_cases h2 : c = 10
  · simp only [push_cast, ↓reduceIte, Nat.reduceEqDiff, Nat.reduceAdd, Nat.reduceMul, Nat.reduceSub, Nat.reduceLT, Nat.reduceLeDiff, reduceCtorEq, Nat.reduceMod, Int.reduceEq, Int.reduceLT, Int.reduceLE, Int.reduceToNat, dite_true, h1, eq_true h2]; exact RetOk.p rfl ⟨_, rfl⟩
  by_cases h3 : c = 13
  · simp only [push_cast, ↓reduceIte, Nat.reduceEqDiff, Nat.reduceAdd, Nat.reduceMul, Nat.reduceSub, Nat.reduceLT, Nat.reduceLeDiff, reduceCtorEq, Nat.reduceMod, Int.reduceEq, Int.reduceLT, Int.reduceLE, Int.reduceToNat, dite_true, h1, h2, eq_true h3]; exact RetOk.p rfl ⟨_, rfl⟩
  · simp only [push_cast, ↓reduceIte, Nat.reduceEqDiff, Nat.reduceAdd, Nat.reduceMul, Nat.reduceSub, Nat.reduceLT, Nat.reduceLeDiff, reduceCtorEq, Nat.reduceMod, Int.reduceEq, Int.reduceLT, Int.reduceLE, Int.reduceToNat, dite_true, h1, h2, h3]; exact RetOk.p rfl ⟨_, rfl⟩
theorem reserved (s : ByteArray) (F : PH) : PFn Tryd.prog 59 [.string s] F (fun v _ => ∃ b, v = .bool b) := by
  refine Fn.intro (n := 21) (ts := [2]) Tryd.func59 rfl rfl rfl rfl (by simp) fun B hB => VC.go 100 ?_
  by_cases h1 : s = ⟨#[108, 101, 116]⟩
  · simp only [push_cast, ↓reduceIte, Nat.reduceEqDiff, Nat.reduceAdd, Nat.reduceMul, Nat.reduceSub, Nat.reduceLT, Nat.reduceLeDiff, reduceCtorEq, Nat.reduceMod, Int.reduceEq, Int.reduceLT, Int.reduceLE, Int.reduceToNat, dite_true, eq_true h1]; exact RetOk.p rfl ⟨_, rfl⟩
  by_cases h2 : s = ⟨#[105, 110]⟩
  · simp only [push_cast, ↓reduceIte, Nat.reduceEqDiff, Nat.reduceAdd, Nat.reduceMul, Nat.reduceSub, Nat.reduceLT, Nat.reduceLeDiff, reduceCtorEq, Nat.reduceMod, Int.reduceEq, Int.reduceLT, Int.reduceLE, Int.reduceToNat, dite_true, h1, eq_true h2]; exact RetOk.p rfl ⟨_, rfl⟩
  by_cases h3 : s = ⟨#[99, 97, 115, 101]⟩
  · simp only [push_cast, ↓reduceIte, Nat.reduceEqDiff, Nat.reduceAdd, Nat.reduceMul, Nat.reduceSub, Nat.reduceLT, Nat.reduceLeDiff, reduceCtorEq, Nat.reduceMod, Int.reduceEq, Int.reduceLT, Int.reduceLE, Int.reduceToNat, dite_true, h1, h2, eq_true h3]; exact RetOk.p rfl ⟨_, rfl⟩
  by_cases h4 : s = ⟨#[111, 102]⟩
  · simp only [push_cast, ↓reduceIte, Nat.reduceEqDiff, Nat.reduceAdd, Nat.reduceMul, Nat.reduceSub, Nat.reduceLT, Nat.reduceLeDiff, reduceCtorEq, Nat.reduceMod, Int.reduceEq, Int.reduceLT, Int.reduceLE, Int.reduceToNat, dite_true, h1, h2, h3, eq_true h4]; exact RetOk.p rfl ⟨_, rfl⟩
  · simp only [push_cast, ↓reduceIte, Nat.reduceEqDiff, Nat.reduceAdd, Nat.reduceMul, Nat.reduceSub, Nat.reduceLT, Nat.reduceLeDiff, reduceCtorEq, Nat.reduceMod, Int.reduceEq, Int.reduceLT, Int.reduceLE, Int.reduceToNat, dite_true, h1, h2, h3, h4]; exact RetOk.p rfl ⟨_, rfl⟩
theorem sign (s : ByteArray) (F : PH) : PFn Tryd.prog 63 [.string s] F (fun v _ => ∃ b, v = .bool b) := by
  refine Fn.intro (n := 33) (ts := [2]) Tryd.func63 rfl rfl rfl rfl (by simp) fun B hB => VC.go 100 ?_
  by_cases h1 : s = ⟨#[45, 62]⟩
  · simp only [push_cast, ↓reduceIte, Nat.reduceEqDiff, Nat.reduceAdd, Nat.reduceMul, Nat.reduceSub, Nat.reduceLT, Nat.reduceLeDiff, reduceCtorEq, Nat.reduceMod, Int.reduceEq, Int.reduceLT, Int.reduceLE, Int.reduceToNat, dite_true, eq_true h1]; exact RetOk.p rfl ⟨_, rfl⟩
  by_cases h2 : s = ⟨#[61]⟩
  · simp only [push_cast, ↓reduceIte, Nat.reduceEqDiff, Nat.reduceAdd, Nat.reduceMul, Nat.reduceSub, Nat.reduceLT, Nat.reduceLeDiff, reduceCtorEq, Nat.reduceMod, Int.reduceEq, Int.reduceLT, Int.reduceLE, Int.reduceToNat, dite_true, h1, eq_true h2]; exact RetOk.p rfl ⟨_, rfl⟩
  by_cases h3 : s = ⟨#[92]⟩
  · simp only [push_cast, ↓reduceIte, Nat.reduceEqDiff, Nat.reduceAdd, Nat.reduceMul, Nat.reduceSub, Nat.reduceLT, Nat.reduceLeDiff, reduceCtorEq, Nat.reduceMod, Int.reduceEq, Int.reduceLT, Int.reduceLE, Int.reduceToNat, dite_true, h1, h2, eq_true h3]; exact RetOk.p rfl ⟨_, rfl⟩
  by_cases h4 : s = ⟨#[123]⟩
  · simp only [push_cast, ↓reduceIte, Nat.reduceEqDiff, Nat.reduceAdd, Nat.reduceMul, Nat.reduceSub, Nat.reduceLT, Nat.reduceLeDiff, reduceCtorEq, Nat.reduceMod, Int.reduceEq, Int.reduceLT, Int.reduceLE, Int.reduceToNat, dite_true, h1, h2, h3, eq_true h4]; exact RetOk.p rfl ⟨_, rfl⟩
  by_cases h5 : s = ⟨#[125]⟩
  · simp only [push_cast, ↓reduceIte, Nat.reduceEqDiff, Nat.reduceAdd, Nat.reduceMul, Nat.reduceSub, Nat.reduceLT, Nat.reduceLeDiff, reduceCtorEq, Nat.reduceMod, Int.reduceEq, Int.reduceLT, Int.reduceLE, Int.reduceToNat, dite_true, h1, h2, h3, h4, eq_true h5]; exact RetOk.p rfl ⟨_, rfl⟩
  by_cases h6 : s = ⟨#[59]⟩
  · simp only [push_cast, ↓reduceIte, Nat.reduceEqDiff, Nat.reduceAdd, Nat.reduceMul, Nat.reduceSub, Nat.reduceLT, Nat.reduceLeDiff, reduceCtorEq, Nat.reduceMod, Int.reduceEq, Int.reduceLT, Int.reduceLE, Int.reduceToNat, dite_true, h1, h2, h3, h4, h5, eq_true h6]; exact RetOk.p rfl ⟨_, rfl⟩
  by_cases h7 : s = ⟨#[40]⟩
  · simp only [push_cast, ↓reduceIte, Nat.reduceEqDiff, Nat.reduceAdd, Nat.reduceMul, Nat.reduceSub, Nat.reduceLT, Nat.reduceLeDiff, reduceCtorEq, Nat.reduceMod, Int.reduceEq, Int.reduceLT, Int.reduceLE, Int.reduceToNat, dite_true, h1, h2, h3, h4, h5, h6, eq_true h7]; exact RetOk.p rfl ⟨_, rfl⟩
  · simp only [push_cast, ↓reduceIte, Nat.reduceEqDiff, Nat.reduceAdd, Nat.reduceMul, Nat.reduceSub, Nat.reduceLT, Nat.reduceLeDiff, reduceCtorEq, Nat.reduceMod, Int.reduceEq, Int.reduceLT, Int.reduceLE, Int.reduceToNat, dite_true, h1, h2, h3, h4, h5, h6, h7]; exact RetOk.p rfl ⟨_, rfl⟩
theorem small_max {n : Nat} (h : n ≤ 16384) : n ≤ maxLen := Nat.le_trans h (by decide)
theorem run (s : ByteArray) (a : Nat) (ha : a ≤ s.size) (hs : s.size ≤ 16384) (F : PH) : PFn Tryd.prog 57 [.string s, .int .i64 a] F (fun v _ => ∃ j : Nat, v = .int .i64 j ∧ a ≤ j ∧ j ≤ s.size ∧ (a < s.size → (smallB (ch s a) = true ∨ largeB (ch s a) = true) → a < j)) := by
  refine Fn.intro (n := 36) (ts := [4]) Tryd.func57 rfl rfl rfl rfl (by simp) fun B hB => VC.go 100 ?_
  simp only [push_cast, ↓reduceIte, Nat.reduceEqDiff, Nat.reduceAdd, Nat.reduceMul, Nat.reduceSub, Nat.reduceLT, Nat.reduceLeDiff, reduceCtorEq, Nat.reduceMod, Int.reduceEq, Int.reduceLT, Int.reduceLE, Int.reduceToNat, dite_true]
  refine VC.loopF (ι := Nat × PH) (fun i => [(1, .v (.int .i64 i.1)), (0, .v (.string s))]) (fun i => i.2) (fun i => a ≤ i.1 ∧ i.1 ≤ s.size) (fun i => s.size - i.1) (a, F) ⟨Nat.le_refl _, ha⟩ (by simp [subk, Eng.look]) rfl ?_
  rintro ⟨i, F1⟩ ⟨hi, hi2⟩ G hG
  dsimp only at hi hi2 hG ⊢
  refine VC.go 100 ?_
  by_cases h : i < s.size
  case neg =>
    have h' : ¬ (i : Int) < (s.size : Int) := by omega
    simp only [push_cast, ↓reduceIte, Nat.reduceEqDiff, Nat.reduceAdd, Nat.reduceMul, Nat.reduceSub, Nat.reduceLT, Nat.reduceLeDiff, reduceCtorEq, Nat.reduceMod, Int.reduceEq, Int.reduceLT, Int.reduceLE, Int.reduceToNat, dite_true, h']
    exact RetOk.p rfl ⟨i, rfl, hi, hi2, fun h1 _ => by omega⟩
  have h' : (i : Int) < (s.size : Int) := by omega
  have h0 : (0 : Int) ≤ (i : Int) := by omega
  have e2 : IntKind.i64.wrap ((i : Int) + 1) = ((i + 1 : Nat) : Int) := wadd i h (small_max hs)
  have hc : ((s.data.getD i 0).toNat : Int) = ch s i := rfl
  have go : ∀ (F2 : PH) S', subk S'.L [(1, .v (.int .i64 (i + 1 : Nat))), (0, .v (.string s))] → S'.M = [] → S'.F = F2 → S'.R = [] → G S' := fun F2 S' k1 k2 k3 k4 => hG (i + 1, F2) S' ⟨by omega, by omega⟩ (by simp; omega) k1 (by rw [k2]; exact List.Sublist.refl _) k3 k4
  simp only [push_cast, ↓reduceIte, Nat.reduceEqDiff, Nat.reduceAdd, Nat.reduceMul, Nat.reduceSub, Nat.reduceLT, Nat.reduceLeDiff, reduceCtorEq, Nat.reduceMod, Int.reduceEq, Int.reduceLT, Int.reduceLE, Int.reduceToNat, dite_true, h', h0, hc]
  refine CallV.pure (small (ch s i) F1) ?_
  rintro _ F2 hF2 rfl
  cases h1 : smallB (ch s i) with
  | true =>
    simp only [push_cast, ↓reduceIte, Nat.reduceEqDiff, Nat.reduceAdd, Nat.reduceMul, Nat.reduceSub, Nat.reduceLT, Nat.reduceLeDiff, reduceCtorEq, Nat.reduceMod, Int.reduceEq, Int.reduceLT, Int.reduceLE, Int.reduceToNat, dite_true, h', h0, hc, e2]
    exact go F2 _ (by simp [subk, Eng.look]) rfl rfl rfl
  | false =>
  simp only [push_cast, ↓reduceIte, Nat.reduceEqDiff, Nat.reduceAdd, Nat.reduceMul, Nat.reduceSub, Nat.reduceLT, Nat.reduceLeDiff, reduceCtorEq, Nat.reduceMod, Int.reduceEq, Int.reduceLT, Int.reduceLE, Int.reduceToNat, dite_true, h', h0, hc]
  refine CallV.pure (large (ch s i) F2) ?_
  rintro _ F3 hF3 rfl
  cases h2 : largeB (ch s i) with
  | true =>
    simp only [push_cast, ↓reduceIte, Nat.reduceEqDiff, Nat.reduceAdd, Nat.reduceMul, Nat.reduceSub, Nat.reduceLT, Nat.reduceLeDiff, reduceCtorEq, Nat.reduceMod, Int.reduceEq, Int.reduceLT, Int.reduceLE, Int.reduceToNat, dite_true, h', h0, hc, e2]
    exact go F3 _ (by simp [subk, Eng.look]) rfl rfl rfl
  | false =>
  simp only [push_cast, ↓reduceIte, Nat.reduceEqDiff, Nat.reduceAdd, Nat.reduceMul, Nat.reduceSub, Nat.reduceLT, Nat.reduceLeDiff, reduceCtorEq, Nat.reduceMod, Int.reduceEq, Int.reduceLT, Int.reduceLE, Int.reduceToNat, dite_true, h', h0, hc]
  refine CallV.pure (digit (ch s i) F3) ?_
  rintro _ F4 hF4 rfl
  cases h3 : digitB (ch s i) with
  | true =>
    simp only [push_cast, ↓reduceIte, Nat.reduceEqDiff, Nat.reduceAdd, Nat.reduceMul, Nat.reduceSub, Nat.reduceLT, Nat.reduceLeDiff, reduceCtorEq, Nat.reduceMod, Int.reduceEq, Int.reduceLT, Int.reduceLE, Int.reduceToNat, dite_true, h', h0, hc, e2]
    exact go F4 _ (by simp [subk, Eng.look]) rfl rfl rfl
  | false =>
  by_cases h4 : ch s i = 95
  · simp only [push_cast, ↓reduceIte, Nat.reduceEqDiff, Nat.reduceAdd, Nat.reduceMul, Nat.reduceSub, Nat.reduceLT, Nat.reduceLeDiff, reduceCtorEq, Nat.reduceMod, Int.reduceEq, Int.reduceLT, Int.reduceLE, Int.reduceToNat, dite_true, h', h0, hc, eq_true h4, e2]
    exact go F4 _ (by simp [subk, Eng.look]) rfl rfl rfl
  · simp only [push_cast, ↓reduceIte, Nat.reduceEqDiff, Nat.reduceAdd, Nat.reduceMul, Nat.reduceSub, Nat.reduceLT, Nat.reduceLeDiff, reduceCtorEq, Nat.reduceMod, Int.reduceEq, Int.reduceLT, Int.reduceLE, Int.reduceToNat, dite_true, h', h0, hc, h4, e2]
    refine RetOk.p rfl ⟨i, rfl, hi, hi2, fun k1 k2 => ?_⟩
    by_cases e : i = a
    · subst e; rw [h1, h2] at k2; simp at k2
    · omega
theorem skip (s : ByteArray) (a : Nat) (ha : a ≤ s.size) (hs : s.size ≤ 16384) (F : PH) : PFn Tryd.prog 40 [.string s, .int .i64 a] F (fun v _ => ∃ j : Nat, v = .int .i64 j ∧ a ≤ j ∧ j ≤ s.size) := by
  refine Fn.intro (n := 47) (ts := [4]) Tryd.func40 rfl rfl rfl rfl (by simp) fun B hB => VC.go 100 ?_
  simp only [push_cast, ↓reduceIte, Nat.reduceEqDiff, Nat.reduceAdd, Nat.reduceMul, Nat.reduceSub, Nat.reduceLT, Nat.reduceLeDiff, reduceCtorEq, Nat.reduceMod, Int.reduceEq, Int.reduceLT, Int.reduceLE, Int.reduceToNat, dite_true]
  refine VC.loopF (ι := Nat × PH) (fun i => [(1, .v (.int .i64 i.1)), (0, .v (.string s))]) (fun i => i.2) (fun i => a ≤ i.1 ∧ i.1 ≤ s.size) (fun i => s.size - i.1) (a, F) ⟨Nat.le_refl _, ha⟩ (by simp [subk, Eng.look]) rfl ?_
  rintro ⟨i, F1⟩ ⟨hi, hi2⟩ G hG
  dsimp only at hi hi2 hG ⊢
  refine VC.go 100 ?_
  by_cases h : i < s.size
  case neg =>
    have h' : ¬ (i : Int) < (s.size : Int) := by omega
    simp only [push_cast, ↓reduceIte, Nat.reduceEqDiff, Nat.reduceAdd, Nat.reduceMul, Nat.reduceSub, Nat.reduceLT, Nat.reduceLeDiff, reduceCtorEq, Nat.reduceMod, Int.reduceEq, Int.reduceLT, Int.reduceLE, Int.reduceToNat, dite_true, h']
    exact RetOk.p rfl ⟨i, rfl, hi, hi2⟩
  have h' : (i : Int) < (s.size : Int) := by omega
  have h0 : (0 : Int) ≤ (i : Int) := by omega
  have e2 : IntKind.i64.wrap ((i : Int) + 1) = ((i + 1 : Nat) : Int) := wadd i h (small_max hs)
  have hc : ((s.data.getD i 0).toNat : Int) = ch s i := rfl
  simp only [push_cast, ↓reduceIte, Nat.reduceEqDiff, Nat.reduceAdd, Nat.reduceMul, Nat.reduceSub, Nat.reduceLT, Nat.reduceLeDiff, reduceCtorEq, Nat.reduceMod, Int.reduceEq, Int.reduceLT, Int.reduceLE, Int.reduceToNat, dite_true, h', h0, hc]
  refine CallV.pure (blank (ch s i) F1) ?_
  rintro _ F2 hF2 ⟨bl, rfl⟩
  cases bl with
  | true =>
    simp only [push_cast, ↓reduceIte, Nat.reduceEqDiff, Nat.reduceAdd, Nat.reduceMul, Nat.reduceSub, Nat.reduceLT, Nat.reduceLeDiff, reduceCtorEq, Nat.reduceMod, Int.reduceEq, Int.reduceLT, Int.reduceLE, Int.reduceToNat, dite_true, h', h0, hc, e2]
    exact hG (i + 1, F2) _ ⟨by omega, by omega⟩ (by simp; omega) (by simp [subk, Eng.look]) (List.Sublist.refl _) rfl rfl
  | false =>
  by_cases g1 : ch s i = 45
  case neg =>
    simp only [push_cast, ↓reduceIte, Nat.reduceEqDiff, Nat.reduceAdd, Nat.reduceMul, Nat.reduceSub, Nat.reduceLT, Nat.reduceLeDiff, reduceCtorEq, Nat.reduceMod, Int.reduceEq, Int.reduceLT, Int.reduceLE, Int.reduceToNat, dite_true, h', h0, hc, g1]
    exact RetOk.p rfl ⟨i, rfl, hi, hi2⟩
  have e4 : IntKind.i64.wrap ((i : Int) + 1) = (i : Int) + 1 := by rw [e2]; rfl
  by_cases g2 : i + 1 < s.size
  case neg =>
    have g2' : ¬ (i : Int) + 1 < (s.size : Int) := by omega
    simp only [push_cast, ↓reduceIte, Nat.reduceEqDiff, Nat.reduceAdd, Nat.reduceMul, Nat.reduceSub, Nat.reduceLT, Nat.reduceLeDiff, reduceCtorEq, Nat.reduceMod, Int.reduceEq, Int.reduceLT, Int.reduceLE, Int.reduceToNat, dite_true, h', h0, hc, eq_true g1, e4, g2']
    exact RetOk.p rfl ⟨i, rfl, hi, hi2⟩
  have g2' : (i : Int) + 1 < (s.size : Int) := by omega
  have h01 : (0 : Int) ≤ (i : Int) + 1 := by omega
  have ht : ((i : Int) + 1).toNat = i + 1 := by omega
  have hc1 : ((s.data.getD (i + 1) 0).toNat : Int) = ch s (i + 1) := rfl
  by_cases g3 : ch s (i + 1) = 45
  case neg =>
    simp only [push_cast, ↓reduceIte, Nat.reduceEqDiff, Nat.reduceAdd, Nat.reduceMul, Nat.reduceSub, Nat.reduceLT, Nat.reduceLeDiff, reduceCtorEq, Nat.reduceMod, Int.reduceEq, Int.reduceLT, Int.reduceLE, Int.reduceToNat, dite_true, h', h0, hc, eq_true g1, e4, g2', h01, ht, hc1, g3]
    exact RetOk.p rfl ⟨i, rfl, hi, hi2⟩
  simp only [push_cast, ↓reduceIte, Nat.reduceEqDiff, Nat.reduceAdd, Nat.reduceMul, Nat.reduceSub, Nat.reduceLT, Nat.reduceLeDiff, reduceCtorEq, Nat.reduceMod, Int.reduceEq, Int.reduceLT, Int.reduceLE, Int.reduceToNat, dite_true, h', h0, hc, eq_true g1, e4, g2', h01, ht, hc1, eq_true g3]
  refine VC.loopF (ι := Nat × PH) (fun i => [(1, .v (.int .i64 i.1)), (0, .v (.string s))]) (fun i => i.2) (fun k => i ≤ k.1 ∧ k.1 ≤ s.size) (fun i => s.size - i.1) (i, F2) ⟨Nat.le_refl _, hi2⟩ (by simp [subk, Eng.look]) rfl ?_
  rintro ⟨k, F3⟩ ⟨hk, hk2⟩ G1 hG1
  dsimp only at hk hk2 hG1 ⊢
  refine VC.go 100 ?_
  by_cases p : k < s.size
  case neg =>
    have p' : ¬ (k : Int) < (s.size : Int) := by omega
    simp only [push_cast, ↓reduceIte, Nat.reduceEqDiff, Nat.reduceAdd, Nat.reduceMul, Nat.reduceSub, Nat.reduceLT, Nat.reduceLeDiff, reduceCtorEq, Nat.reduceMod, Int.reduceEq, Int.reduceLT, Int.reduceLE, Int.reduceToNat, dite_true, p']
    exact hG (k, F3) _ ⟨by omega, by omega⟩ (by simp; omega) (by simp [subk, Eng.look]) (List.Sublist.refl _) rfl rfl
  have p' : (k : Int) < (s.size : Int) := by omega
  have p0 : (0 : Int) ≤ (k : Int) := by omega
  have e3 : IntKind.i64.wrap ((k : Int) + 1) = ((k + 1 : Nat) : Int) := wadd k p (small_max hs)
  have hck : ((s.data.getD k 0).toNat : Int) = ch s k := rfl
  by_cases q : ch s k = 10
  · simp only [push_cast, ↓reduceIte, Nat.reduceEqDiff, Nat.reduceAdd, Nat.reduceMul, Nat.reduceSub, Nat.reduceLT, Nat.reduceLeDiff, reduceCtorEq, Nat.reduceMod, Int.reduceEq, Int.reduceLT, Int.reduceLE, Int.reduceToNat, dite_true, p', p0, hck, eq_true q]
    have hne : k ≠ i := by rintro rfl; rw [g1] at q; cases q
    exact hG (k, F3) _ ⟨by omega, by omega⟩ (by simp; omega) (by simp [subk, Eng.look]) (List.Sublist.refl _) rfl rfl
  · simp only [push_cast, ↓reduceIte, Nat.reduceEqDiff, Nat.reduceAdd, Nat.reduceMul, Nat.reduceSub, Nat.reduceLT, Nat.reduceLeDiff, reduceCtorEq, Nat.reduceMod, Int.reduceEq, Int.reduceLT, Int.reduceLE, Int.reduceToNat, dite_true, p', p0, hck, q, e3]
    exact hG1 (k + 1, F3) _ ⟨by omega, by omega⟩ (by simp; omega) (by simp [subk, Eng.look]) (List.Sublist.refl _) rfl rfl
theorem number (s : ByteArray) (h1 : 0 < s.size) (hs : s.size ≤ 16384) (F : PH) : PFn Tryd.prog 62 [.string s] F (fun v _ => ∃ m b, v = .tuple #[.int .i64 m, .bool b]) := by
  refine Fn.intro (n := 43) (ts := [2, 3]) Tryd.func62 rfl rfl rfl rfl (by simp) fun B hB => ?_
  have h0 : (0 : Int) < (s.size : Int) := by omega
  have hc : ((s.data.getD 0 0).toNat : Int) = ch s 0 := rfl
  refine VC.go 7 ?_
  simp only [push_cast, ↓reduceIte, Nat.reduceEqDiff, Nat.reduceAdd, Nat.reduceMul, Nat.reduceSub, Nat.reduceLT, Nat.reduceLeDiff, reduceCtorEq, Nat.reduceMod, Int.reduceEq, Int.reduceLT, Int.reduceLE, Int.reduceToNat, dite_true, h0, hc]
  generalize decide (ch s 0 = 45) = m
  refine VC.cutG (ι := Nat) (fun a => [(5, .v (.bool m)), (4, .v (.int .i64 a)), (0, .v (.string s))]) (fun _ => F) (fun _ => []) (fun a => a ≤ s.size) ?_ ?_
  · intro G hG
    refine VC.go 100 ?_
    cases m with
    | true =>
      simp only [push_cast, ↓reduceIte, Nat.reduceEqDiff, Nat.reduceAdd, Nat.reduceMul, Nat.reduceSub, Nat.reduceLT, Nat.reduceLeDiff, reduceCtorEq, Nat.reduceMod, Int.reduceEq, Int.reduceLT, Int.reduceLE, Int.reduceToNat, dite_true]
      exact hG 1 _ h1 (by simp [subk, Eng.look]) (List.Sublist.refl _) rfl (List.Sublist.refl _)
    | false =>
      simp only [push_cast, ↓reduceIte, Nat.reduceEqDiff, Nat.reduceAdd, Nat.reduceMul, Nat.reduceSub, Nat.reduceLT, Nat.reduceLeDiff, reduceCtorEq, Nat.reduceMod, Int.reduceEq, Int.reduceLT, Int.reduceLE, Int.reduceToNat, dite_true]
      exact hG 0 _ (Nat.zero_le _) (by simp [subk, Eng.look]) (List.Sublist.refl _) rfl (List.Sublist.refl _)
  intro a ha
  refine VC.go 100 ?_
  simp only [push_cast, ↓reduceIte, Nat.reduceEqDiff, Nat.reduceAdd, Nat.reduceMul, Nat.reduceSub, Nat.reduceLT, Nat.reduceLeDiff, reduceCtorEq, Nat.reduceMod, Int.reduceEq, Int.reduceLT, Int.reduceLE, Int.reduceToNat, dite_true]
  refine VC.loopL (fun i : Nat × Int => [(6, .v (.int .u64 i.2)), (5, .v (.bool m)), (4, .v (.int .i64 i.1)), (0, .v (.string s))]) (fun i => i.1 ≤ s.size) (fun i => s.size - i.1) (a, 0) ha (by simp [subk, Eng.look]) ?_
  rintro ⟨i, x⟩ hi G hG
  dsimp only at hi hG ⊢
  refine VC.go 100 ?_
  by_cases h : i < s.size
  case neg =>
    have h' : ¬ (i : Int) < (s.size : Int) := by omega
    cases m with
    | false =>
      simp only [push_cast, ↓reduceIte, Nat.reduceEqDiff, Nat.reduceAdd, Nat.reduceMul, Nat.reduceSub, Nat.reduceLT, Nat.reduceLeDiff, reduceCtorEq, Nat.reduceMod, Int.reduceEq, Int.reduceLT, Int.reduceLE, Int.reduceToNat, dite_true, h']
      exact RetOk.p rfl ⟨_, _, rfl⟩
    | true =>
      by_cases g : x = 9223372036854775808
      · simp only [push_cast, ↓reduceIte, Nat.reduceEqDiff, Nat.reduceAdd, Nat.reduceMul, Nat.reduceSub, Nat.reduceLT, Nat.reduceLeDiff, reduceCtorEq, Nat.reduceMod, Int.reduceEq, Int.reduceLT, Int.reduceLE, Int.reduceToNat, dite_true, h', eq_true g]
        exact RetOk.p rfl ⟨_, _, rfl⟩
      · simp only [push_cast, ↓reduceIte, Nat.reduceEqDiff, Nat.reduceAdd, Nat.reduceMul, Nat.reduceSub, Nat.reduceLT, Nat.reduceLeDiff, reduceCtorEq, Nat.reduceMod, Int.reduceEq, Int.reduceLT, Int.reduceLE, Int.reduceToNat, dite_true, h', g]
        exact RetOk.p rfl ⟨_, _, rfl⟩
  have h' : (i : Int) < (s.size : Int) := by omega
  have h0 : (0 : Int) ≤ (i : Int) := by omega
  have e2 : IntKind.i64.wrap ((i : Int) + 1) = ((i + 1 : Nat) : Int) := wadd i h (small_max hs)
  have hc : ((s.data.getD i 0).toNat : Int) = ch s i := rfl
  by_cases hd : IntKind.u64.wrap ((IntKind.u64.wrap (9223372036854775808 - IntKind.u64.wrap (IntKind.u8.wrap (ch s i - 48)))).tdiv 10) < x
  · simp only [push_cast, ↓reduceIte, Nat.reduceEqDiff, Nat.reduceAdd, Nat.reduceMul, Nat.reduceSub, Nat.reduceLT, Nat.reduceLeDiff, reduceCtorEq, Nat.reduceMod, Int.reduceEq, Int.reduceLT, Int.reduceLE, Int.reduceToNat, dite_true, h', h0, hc, eq_true hd]
    exact RetOk.p rfl ⟨_, _, rfl⟩
  · simp only [push_cast, ↓reduceIte, Nat.reduceEqDiff, Nat.reduceAdd, Nat.reduceMul, Nat.reduceSub, Nat.reduceLT, Nat.reduceLeDiff, reduceCtorEq, Nat.reduceMod, Int.reduceEq, Int.reduceLT, Int.reduceLE, Int.reduceToNat, dite_true, h', h0, hc, hd, e2]
    exact hG (i + 1, IntKind.u64.wrap (IntKind.u64.wrap (x * 10) + IntKind.u64.wrap (IntKind.u8.wrap (ch s i - 48)))) _ (by simp; omega) (by simp; omega) (by simp [subk, Eng.look]) (List.Sublist.refl _) rfl rfl
structure Tok where
  k : Int
  tx : ByteArray
  n : Int
  at_ : Int
abbrev tokC (t : Tok) : List Value := [.int .i64 t.k, .string t.tx, .int .i64 t.n, .int .i64 t.at_]
def RTok (t : Tok) (cs : List Value) : Prop := cs = tokC t
abbrev Toks (F : PH) (v : Value) (l : List Tok) : Prop := SlE F 4 RTok v l
theorem one (s : ByteArray) (a : Nat) (ha : a < s.size) (hs : s.size ≤ 16384) (F : PH) : PFn Tryd.prog 41 [.string s, .int .i64 a] F
    (fun v _ => ∃ t nx e, v = .tuple #[.agg (tokC t).toArray, .int .i64 nx, .int .i64 e] ∧ (e = 0 → ∃ j : Nat, nx = j ∧ a < j ∧ j ≤ s.size)) := by
  refine Fn.intro (n := 150) (ts := [.cell 4 79, 5, 6]) Tryd.func41 rfl rfl rfl rfl (by simp) fun B hB => ?_
  have h' : (a : Int) < (s.size : Int) := by omega
  have h0 : (0 : Int) ≤ (a : Int) := by omega
  have e2 : IntKind.i64.wrap ((a : Int) + 1) = (a : Int) + 1 := by rw [wadd a ha (small_max hs)]; rfl
  have hc : ((s.data.getD a 0).toNat : Int) = ch s a := rfl
  have h01 : (0 : Int) ≤ (a : Int) + 1 := by omega
  have ht : ((a : Int) + 1).toNat = a + 1 := by omega
  have hc1 : ((s.data.getD (a + 1) 0).toNat : Int) = ch s (a + 1) := rfl
  refine VC.go 7 ?_
  simp only [push_cast, ↓reduceIte, Nat.reduceEqDiff, Nat.reduceAdd, Nat.reduceMul, Nat.reduceSub, Nat.reduceLT, Nat.reduceLeDiff, reduceCtorEq, Nat.reduceMod, Int.reduceEq, Int.reduceLT, Int.reduceLE, Int.reduceToNat, dite_true, h', h0, hc]
  intro b4
  refine VC.cutM (ι := Int) (fun c8 => [(8, .v (.int .u8 c8)), (7, .v (.int .u8 (ch s a))), (4, .o 0 b4 0), (1, .v (.int .i64 a)), (0, .v (.string s))]) (fun _ => [⟨0, b4, 79, tokC ⟨0, ⟨#[]⟩, 0, 0⟩⟩]) (fun _ => F) (fun c8 => c8 = 62 → a + 1 < s.size) ?_ ?_
  · intro G hG
    refine VC.go 100 ?_
    by_cases g : a + 1 < s.size
    · have g' : (a : Int) + 1 < (s.size : Int) := by omega
      simp only [push_cast, ↓reduceIte, Nat.reduceEqDiff, Nat.reduceAdd, Nat.reduceMul, Nat.reduceSub, Nat.reduceLT, Nat.reduceLeDiff, reduceCtorEq, Nat.reduceMod, Int.reduceEq, Int.reduceLT, Int.reduceLE, Int.reduceToNat, dite_true, h', h0, e2, h01, ht, hc1, g']
      exact hG (ch s (a + 1)) _ (fun _ => g) (by simp [subk, Eng.look]) (List.Sublist.refl _) rfl rfl
    · have g' : ¬ (a : Int) + 1 < (s.size : Int) := by omega
      simp only [push_cast, ↓reduceIte, Nat.reduceEqDiff, Nat.reduceAdd, Nat.reduceMul, Nat.reduceSub, Nat.reduceLT, Nat.reduceLeDiff, reduceCtorEq, Nat.reduceMod, Int.reduceEq, Int.reduceLT, Int.reduceLE, Int.reduceToNat, dite_true, e2, g']
      exact hG 0 _ (fun h => absurd h (by decide)) (by simp [subk, Eng.look]) (List.Sublist.refl _) rfl rfl
  intro c8 hc8
  dsimp only at hc8 ⊢
  refine VC.go 100 ?_
  simp only [push_cast, ↓reduceIte, Nat.reduceEqDiff, Nat.reduceAdd, Nat.reduceMul, Nat.reduceSub, Nat.reduceLT, Nat.reduceLeDiff, reduceCtorEq, Nat.reduceMod, Int.reduceEq, Int.reduceLT, Int.reduceLE, Int.reduceToNat, dite_true]
  refine CallV.pure (run s a (by omega) hs F) ?_
  rintro _ F1 hF1 ⟨j, rfl, hj1, hj2, hj3⟩
  have c1 : (0 : Int) ≤ (j : Int) ∧ (j : Int) ≤ (s.size : Int) := by omega
  have c2 : (0 : Int) ≤ (a : Int) ∧ (a : Int) ≤ (j : Int) := by omega
  have c11 : (0 : Int) ≤ (j : Int) := c1.1
  have c12 : (j : Int) ≤ (s.size : Int) := c1.2
  have c22 : (a : Int) ≤ (j : Int) := c2.2
  simp only [push_cast, ↓reduceIte, Nat.reduceEqDiff, Nat.reduceAdd, Nat.reduceMul, Nat.reduceSub, Nat.reduceLT, Nat.reduceLeDiff, reduceCtorEq, Nat.reduceMod, Int.reduceEq, Int.reduceLT, Int.reduceLE, Int.reduceToNat, dite_true]
  refine CallV.pure (small (ch s a) F1) ?_
  rintro _ F2 hF2 rfl
  cases h1 : smallB (ch s a) with
  | true =>
    have hj := hj3 ha (.inl h1)
    simp only [push_cast, ↓reduceIte, Nat.reduceEqDiff, Nat.reduceAdd, Nat.reduceMul, Nat.reduceSub, Nat.reduceLT, Nat.reduceLeDiff, reduceCtorEq, Nat.reduceMod, Int.reduceEq, Int.reduceLT, Int.reduceLE, Int.reduceToNat, dite_true, h0, c11, c12, c22]
    refine CallV.pure (reserved _ F2) ?_
    rintro _ F3 hF3 ⟨rb, rfl⟩
    cases rb with
    | true =>
      simp only [push_cast, ↓reduceIte, Nat.reduceEqDiff, Nat.reduceAdd, Nat.reduceMul, Nat.reduceSub, Nat.reduceLT, Nat.reduceLeDiff, reduceCtorEq, Nat.reduceMod, Int.reduceEq, Int.reduceLT, Int.reduceLE, Int.reduceToNat, dite_true, h0, c11, c12, c22]
      refine ⟨[_, _, _], [], (by simp only [push_cast, ↓reduceIte, Nat.reduceEqDiff, Nat.reduceAdd, Nat.reduceMul, Nat.reduceSub, Nat.reduceLT, Nat.reduceLeDiff, reduceCtorEq, Nat.reduceMod, Int.reduceEq, Int.reduceLT, Int.reduceLE, Int.reduceToNat, dite_true, rvals, rval1]; rfl), .sub (List.nil_sublist _), rfl, ?_⟩
      exact ⟨⟨_, _, _, _⟩, _, _, rfl, fun _ => ⟨j, rfl, hj, hj2⟩⟩
    | false =>
      simp only [push_cast, ↓reduceIte, Nat.reduceEqDiff, Nat.reduceAdd, Nat.reduceMul, Nat.reduceSub, Nat.reduceLT, Nat.reduceLeDiff, reduceCtorEq, Nat.reduceMod, Int.reduceEq, Int.reduceLT, Int.reduceLE, Int.reduceToNat, dite_true, h0, c11, c12, c22]
      refine CallV.pure (small (ch s a) F3) ?_
      rintro _ F4 hF4 rfl
      rw [h1]
      simp only [push_cast, ↓reduceIte, Nat.reduceEqDiff, Nat.reduceAdd, Nat.reduceMul, Nat.reduceSub, Nat.reduceLT, Nat.reduceLeDiff, reduceCtorEq, Nat.reduceMod, Int.reduceEq, Int.reduceLT, Int.reduceLE, Int.reduceToNat, dite_true, h0, c11, c12, c22]
      refine ⟨[_, _, _], [], (by simp only [push_cast, ↓reduceIte, Nat.reduceEqDiff, Nat.reduceAdd, Nat.reduceMul, Nat.reduceSub, Nat.reduceLT, Nat.reduceLeDiff, reduceCtorEq, Nat.reduceMod, Int.reduceEq, Int.reduceLT, Int.reduceLE, Int.reduceToNat, dite_true, rvals, rval1]; rfl), .sub (List.nil_sublist _), rfl, ?_⟩
      exact ⟨⟨_, _, _, _⟩, _, _, rfl, fun _ => ⟨j, rfl, hj, hj2⟩⟩
  | false =>
  simp only [push_cast, ↓reduceIte, Nat.reduceEqDiff, Nat.reduceAdd, Nat.reduceMul, Nat.reduceSub, Nat.reduceLT, Nat.reduceLeDiff, reduceCtorEq, Nat.reduceMod, Int.reduceEq, Int.reduceLT, Int.reduceLE, Int.reduceToNat, dite_true]
  refine CallV.pure (small (ch s a) F2) ?_
  rintro _ F3 hF3 rfl
  rw [h1]
  simp only [push_cast, ↓reduceIte, Nat.reduceEqDiff, Nat.reduceAdd, Nat.reduceMul, Nat.reduceSub, Nat.reduceLT, Nat.reduceLeDiff, reduceCtorEq, Nat.reduceMod, Int.reduceEq, Int.reduceLT, Int.reduceLE, Int.reduceToNat, dite_true]
  refine CallV.pure (large (ch s a) F3) ?_
  rintro _ F4 hF4 rfl
  cases h2 : largeB (ch s a) with
  | true =>
    have hj := hj3 ha (.inr h2)
    simp only [push_cast, ↓reduceIte, Nat.reduceEqDiff, Nat.reduceAdd, Nat.reduceMul, Nat.reduceSub, Nat.reduceLT, Nat.reduceLeDiff, reduceCtorEq, Nat.reduceMod, Int.reduceEq, Int.reduceLT, Int.reduceLE, Int.reduceToNat, dite_true, h0, c11, c12, c22]
    refine ⟨[_, _, _], [], (by simp only [push_cast, ↓reduceIte, Nat.reduceEqDiff, Nat.reduceAdd, Nat.reduceMul, Nat.reduceSub, Nat.reduceLT, Nat.reduceLeDiff, reduceCtorEq, Nat.reduceMod, Int.reduceEq, Int.reduceLT, Int.reduceLE, Int.reduceToNat, dite_true, rvals, rval1]; rfl), .sub (List.nil_sublist _), rfl, ?_⟩
    exact ⟨⟨_, _, _, _⟩, _, _, rfl, fun _ => ⟨j, rfl, hj, hj2⟩⟩
  | false =>
  clear hj3 hj1 hj2 c1 c2 c11 c12 c22
  have k1 : (a : Int) + 1 ≤ (s.size : Int) := by omega
  have k2 : (a : Int) ≤ (a : Int) + 1 := by omega
  by_cases g1 : ch s a = 35
  case pos =>
    simp only [push_cast, ↓reduceIte, Nat.reduceEqDiff, Nat.reduceAdd, Nat.reduceMul, Nat.reduceSub, Nat.reduceLT, Nat.reduceLeDiff, reduceCtorEq, Nat.reduceMod, Int.reduceEq, Int.reduceLT, Int.reduceLE, Int.reduceToNat, dite_true, eq_true g1]
    refine CallV.pure (small c8 F4) ?_
    rintro _ F5 hF5 rfl
    cases h3 : smallB c8 with
    | true =>
      simp only [push_cast, ↓reduceIte, Nat.reduceEqDiff, Nat.reduceAdd, Nat.reduceMul, Nat.reduceSub, Nat.reduceLT, Nat.reduceLeDiff, reduceCtorEq, Nat.reduceMod, Int.reduceEq, Int.reduceLT, Int.reduceLE, Int.reduceToNat, dite_true, e2]
      refine CallV.pure (run s (a + 1) ha hs F5) ?_
      rintro _ F6 hF6 ⟨j, rfl, hj1, hj2, hj3⟩
      have c11 : (0 : Int) ≤ (j : Int) := by omega
      have c12 : (j : Int) ≤ (s.size : Int) := by omega
      have c22 : (a : Int) ≤ (j : Int) := by omega
      simp only [push_cast, ↓reduceIte, Nat.reduceEqDiff, Nat.reduceAdd, Nat.reduceMul, Nat.reduceSub, Nat.reduceLT, Nat.reduceLeDiff, reduceCtorEq, Nat.reduceMod, Int.reduceEq, Int.reduceLT, Int.reduceLE, Int.reduceToNat, dite_true, h0, c11, c12, c22]
      refine ⟨[_, _, _], [], (by simp only [push_cast, ↓reduceIte, Nat.reduceEqDiff, Nat.reduceAdd, Nat.reduceMul, Nat.reduceSub, Nat.reduceLT, Nat.reduceLeDiff, reduceCtorEq, Nat.reduceMod, Int.reduceEq, Int.reduceLT, Int.reduceLE, Int.reduceToNat, dite_true, rvals, rval1]; rfl), .sub (List.nil_sublist _), rfl, ?_⟩
      exact ⟨⟨_, _, _, _⟩, _, _, rfl, fun _ => ⟨j, rfl, by omega, hj2⟩⟩
    | false =>
      have g2 : digitB (ch s a) = false := by rw [g1]; decide
      have g3 : ¬ ch s a = 45 := by rw [g1]; decide
      simp only [push_cast, ↓reduceIte, Nat.reduceEqDiff, Nat.reduceAdd, Nat.reduceMul, Nat.reduceSub, Nat.reduceLT, Nat.reduceLeDiff, reduceCtorEq, Nat.reduceMod, Int.reduceEq, Int.reduceLT, Int.reduceLE, Int.reduceToNat, dite_true]
      refine CallV.pure (digit (ch s a) F5) ?_
      rintro _ F6 hF6 rfl
      rw [g2]
      simp only [push_cast, ↓reduceIte, Nat.reduceEqDiff, Nat.reduceAdd, Nat.reduceMul, Nat.reduceSub, Nat.reduceLT, Nat.reduceLeDiff, reduceCtorEq, Nat.reduceMod, Int.reduceEq, Int.reduceLT, Int.reduceLE, Int.reduceToNat, dite_true, g3, e2, h0, h01, ht, k1, k2]
      refine CallV.pure (sign _ F6) ?_
      rintro _ F7 hF7 ⟨rb, rfl⟩
      cases rb with
      | true =>
        simp only [push_cast, ↓reduceIte, Nat.reduceEqDiff, Nat.reduceAdd, Nat.reduceMul, Nat.reduceSub, Nat.reduceLT, Nat.reduceLeDiff, reduceCtorEq, Nat.reduceMod, Int.reduceEq, Int.reduceLT, Int.reduceLE, Int.reduceToNat, dite_true, e2, h0, h01, ht, k1, k2]
        refine ⟨[_, _, _], [], (by simp only [push_cast, ↓reduceIte, Nat.reduceEqDiff, Nat.reduceAdd, Nat.reduceMul, Nat.reduceSub, Nat.reduceLT, Nat.reduceLeDiff, reduceCtorEq, Nat.reduceMod, Int.reduceEq, Int.reduceLT, Int.reduceLE, Int.reduceToNat, dite_true, rvals, rval1]; rfl), .sub (List.nil_sublist _), rfl, ?_⟩
        exact ⟨⟨_, _, _, _⟩, _, _, rfl, fun _ => ⟨a + 1, rfl, by omega, by omega⟩⟩
      | false =>
        simp only [push_cast, ↓reduceIte, Nat.reduceEqDiff, Nat.reduceAdd, Nat.reduceMul, Nat.reduceSub, Nat.reduceLT, Nat.reduceLeDiff, reduceCtorEq, Nat.reduceMod, Int.reduceEq, Int.reduceLT, Int.reduceLE, Int.reduceToNat, dite_true]
        refine ⟨[_, _, _], [], (by simp only [push_cast, ↓reduceIte, Nat.reduceEqDiff, Nat.reduceAdd, Nat.reduceMul, Nat.reduceSub, Nat.reduceLT, Nat.reduceLeDiff, reduceCtorEq, Nat.reduceMod, Int.reduceEq, Int.reduceLT, Int.reduceLE, Int.reduceToNat, dite_true, rvals, rval1]; rfl), .sub (List.nil_sublist _), rfl, ?_⟩
        exact ⟨⟨_, _, _, _⟩, _, _, rfl, fun h => absurd h (by decide)⟩
  have e3 : IntKind.i64.wrap ((a : Int) + 2) = (a : Int) + 2 := IntWalk.i64_in _ (by omega)
  simp only [push_cast, ↓reduceIte, Nat.reduceEqDiff, Nat.reduceAdd, Nat.reduceMul, Nat.reduceSub, Nat.reduceLT, Nat.reduceLeDiff, reduceCtorEq, Nat.reduceMod, Int.reduceEq, Int.reduceLT, Int.reduceLE, Int.reduceToNat, dite_true, g1]
  refine CallV.pure (digit (ch s a) F4) ?_
  rintro _ F5 hF5 rfl
  cases g2 : digitB (ch s a) with
  | true =>
    simp only [push_cast, ↓reduceIte, Nat.reduceEqDiff, Nat.reduceAdd, Nat.reduceMul, Nat.reduceSub, Nat.reduceLT, Nat.reduceLeDiff, reduceCtorEq, Nat.reduceMod, Int.reduceEq, Int.reduceLT, Int.reduceLE, Int.reduceToNat, dite_true, e2]
    refine VC.loopM (ι := Nat × PH) (fun i => [(9, .v (.int .i64 i.1)), (4, .o 0 b4 0), (1, .v (.int .i64 a)), (0, .v (.string s))]) (fun _ => [⟨0, b4, 79, tokC ⟨0, ⟨#[]⟩, 0, 0⟩⟩]) (fun i => i.2) (fun i => a < i.1 ∧ i.1 ≤ s.size) (fun i => s.size - i.1) (a + 1, F5) ⟨by omega, ha⟩ (by simp [subk, Eng.look]) (List.Sublist.refl _) rfl ?_
    rintro ⟨i, F8⟩ ⟨hi, hi2⟩ G hG
    dsimp only at hi hi2 hG ⊢
    have c11 : (0 : Int) ≤ (i : Int) := by omega
    have c12 : (i : Int) ≤ (s.size : Int) := by omega
    have c22 : (a : Int) ≤ (i : Int) := by omega
    refine VC.go 100 ?_
    by_cases p : i < s.size
    case neg =>
      have p' : ¬ (i : Int) < (s.size : Int) := by omega
      simp only [push_cast, ↓reduceIte, Nat.reduceEqDiff, Nat.reduceAdd, Nat.reduceMul, Nat.reduceSub, Nat.reduceLT, Nat.reduceLeDiff, reduceCtorEq, Nat.reduceMod, Int.reduceEq, Int.reduceLT, Int.reduceLE, Int.reduceToNat, dite_true, p', h0, c11, c12, c22]
      refine CallV.pure (number (s.extract a i) (by rw [ByteArray.size_extract]; omega) (by rw [ByteArray.size_extract]; omega) F8) ?_
      rintro _ F9 hF9 ⟨m, ok, rfl⟩
      cases ok with
      | true =>
        simp only [push_cast, ↓reduceIte, Nat.reduceEqDiff, Nat.reduceAdd, Nat.reduceMul, Nat.reduceSub, Nat.reduceLT, Nat.reduceLeDiff, reduceCtorEq, Nat.reduceMod, Int.reduceEq, Int.reduceLT, Int.reduceLE, Int.reduceToNat, dite_true]
        refine ⟨[_, _, _], [], (by simp only [push_cast, ↓reduceIte, Nat.reduceEqDiff, Nat.reduceAdd, Nat.reduceMul, Nat.reduceSub, Nat.reduceLT, Nat.reduceLeDiff, reduceCtorEq, Nat.reduceMod, Int.reduceEq, Int.reduceLT, Int.reduceLE, Int.reduceToNat, dite_true, rvals, rval1]; rfl), .sub (List.nil_sublist _), rfl, ?_⟩
        exact ⟨⟨_, _, _, _⟩, _, _, rfl, fun _ => ⟨i, rfl, hi, hi2⟩⟩
      | false =>
        simp only [push_cast, ↓reduceIte, Nat.reduceEqDiff, Nat.reduceAdd, Nat.reduceMul, Nat.reduceSub, Nat.reduceLT, Nat.reduceLeDiff, reduceCtorEq, Nat.reduceMod, Int.reduceEq, Int.reduceLT, Int.reduceLE, Int.reduceToNat, dite_true]
        refine ⟨[_, _, _], [], (by simp only [push_cast, ↓reduceIte, Nat.reduceEqDiff, Nat.reduceAdd, Nat.reduceMul, Nat.reduceSub, Nat.reduceLT, Nat.reduceLeDiff, reduceCtorEq, Nat.reduceMod, Int.reduceEq, Int.reduceLT, Int.reduceLE, Int.reduceToNat, dite_true, rvals, rval1]; rfl), .sub (List.nil_sublist _), rfl, ?_⟩
        exact ⟨⟨_, _, _, _⟩, _, _, rfl, fun h => absurd h (by decide)⟩
    have p' : (i : Int) < (s.size : Int) := by omega
    have hci : ((s.data.getD i 0).toNat : Int) = ch s i := rfl
    have e4 : IntKind.i64.wrap ((i : Int) + 1) = ((i + 1 : Nat) : Int) := wadd i p (small_max hs)
    simp only [push_cast, ↓reduceIte, Nat.reduceEqDiff, Nat.reduceAdd, Nat.reduceMul, Nat.reduceSub, Nat.reduceLT, Nat.reduceLeDiff, reduceCtorEq, Nat.reduceMod, Int.reduceEq, Int.reduceLT, Int.reduceLE, Int.reduceToNat, dite_true, p', c11, hci]
    refine CallV.pure (digit (ch s i) F8) ?_
    rintro _ F10 hF10 rfl
    cases digitB (ch s i) with
    | true =>
      simp only [push_cast, ↓reduceIte, Nat.reduceEqDiff, Nat.reduceAdd, Nat.reduceMul, Nat.reduceSub, Nat.reduceLT, Nat.reduceLeDiff, reduceCtorEq, Nat.reduceMod, Int.reduceEq, Int.reduceLT, Int.reduceLE, Int.reduceToNat, dite_true, e4]
      exact hG (i + 1, F10) _ ⟨by omega, by omega⟩ (by simp; omega) (by simp [subk, Eng.look]) (List.Sublist.refl _) rfl rfl
    | false =>
      simp only [push_cast, ↓reduceIte, Nat.reduceEqDiff, Nat.reduceAdd, Nat.reduceMul, Nat.reduceSub, Nat.reduceLT, Nat.reduceLeDiff, reduceCtorEq, Nat.reduceMod, Int.reduceEq, Int.reduceLT, Int.reduceLE, Int.reduceToNat, dite_true, h0, c11, c12, c22]
      refine CallV.pure (number (s.extract a i) (by rw [ByteArray.size_extract]; omega) (by rw [ByteArray.size_extract]; omega) F10) ?_
      rintro _ F9 hF9 ⟨m, ok, rfl⟩
      cases ok with
      | true =>
        simp only [push_cast, ↓reduceIte, Nat.reduceEqDiff, Nat.reduceAdd, Nat.reduceMul, Nat.reduceSub, Nat.reduceLT, Nat.reduceLeDiff, reduceCtorEq, Nat.reduceMod, Int.reduceEq, Int.reduceLT, Int.reduceLE, Int.reduceToNat, dite_true]
        refine ⟨[_, _, _], [], (by simp only [push_cast, ↓reduceIte, Nat.reduceEqDiff, Nat.reduceAdd, Nat.reduceMul, Nat.reduceSub, Nat.reduceLT, Nat.reduceLeDiff, reduceCtorEq, Nat.reduceMod, Int.reduceEq, Int.reduceLT, Int.reduceLE, Int.reduceToNat, dite_true, rvals, rval1]; rfl), .sub (List.nil_sublist _), rfl, ?_⟩
        exact ⟨⟨_, _, _, _⟩, _, _, rfl, fun _ => ⟨i, rfl, hi, hi2⟩⟩
      | false =>
        simp only [push_cast, ↓reduceIte, Nat.reduceEqDiff, Nat.reduceAdd, Nat.reduceMul, Nat.reduceSub, Nat.reduceLT, Nat.reduceLeDiff, reduceCtorEq, Nat.reduceMod, Int.reduceEq, Int.reduceLT, Int.reduceLE, Int.reduceToNat, dite_true]
        refine ⟨[_, _, _], [], (by simp only [push_cast, ↓reduceIte, Nat.reduceEqDiff, Nat.reduceAdd, Nat.reduceMul, Nat.reduceSub, Nat.reduceLT, Nat.reduceLeDiff, reduceCtorEq, Nat.reduceMod, Int.reduceEq, Int.reduceLT, Int.reduceLE, Int.reduceToNat, dite_true, rvals, rval1]; rfl), .sub (List.nil_sublist _), rfl, ?_⟩
        exact ⟨⟨_, _, _, _⟩, _, _, rfl, fun h => absurd h (by decide)⟩
  | false =>
  by_cases g3 : ch s a = 45
  case neg =>
    simp only [push_cast, ↓reduceIte, Nat.reduceEqDiff, Nat.reduceAdd, Nat.reduceMul, Nat.reduceSub, Nat.reduceLT, Nat.reduceLeDiff, reduceCtorEq, Nat.reduceMod, Int.reduceEq, Int.reduceLT, Int.reduceLE, Int.reduceToNat, dite_true, g3, e2, h0, h01, ht, k1, k2]
    refine CallV.pure (sign _ F5) ?_
    rintro _ F7 hF7 ⟨rb, rfl⟩
    cases rb with
    | true =>
      simp only [push_cast, ↓reduceIte, Nat.reduceEqDiff, Nat.reduceAdd, Nat.reduceMul, Nat.reduceSub, Nat.reduceLT, Nat.reduceLeDiff, reduceCtorEq, Nat.reduceMod, Int.reduceEq, Int.reduceLT, Int.reduceLE, Int.reduceToNat, dite_true, e2, e3, h0, h01, ht, k1, k2]
      refine ⟨[_, _, _], [], (by simp only [push_cast, ↓reduceIte, Nat.reduceEqDiff, Nat.reduceAdd, Nat.reduceMul, Nat.reduceSub, Nat.reduceLT, Nat.reduceLeDiff, reduceCtorEq, Nat.reduceMod, Int.reduceEq, Int.reduceLT, Int.reduceLE, Int.reduceToNat, dite_true, rvals, rval1]; rfl), .sub (List.nil_sublist _), rfl, ?_⟩
      exact ⟨⟨_, _, _, _⟩, _, _, rfl, fun _ => ⟨a + 1, rfl, by omega, by omega⟩⟩
    | false =>
      simp only [push_cast, ↓reduceIte, Nat.reduceEqDiff, Nat.reduceAdd, Nat.reduceMul, Nat.reduceSub, Nat.reduceLT, Nat.reduceLeDiff, reduceCtorEq, Nat.reduceMod, Int.reduceEq, Int.reduceLT, Int.reduceLE, Int.reduceToNat, dite_true]
      refine ⟨[_, _, _], [], (by simp only [push_cast, ↓reduceIte, Nat.reduceEqDiff, Nat.reduceAdd, Nat.reduceMul, Nat.reduceSub, Nat.reduceLT, Nat.reduceLeDiff, reduceCtorEq, Nat.reduceMod, Int.reduceEq, Int.reduceLT, Int.reduceLE, Int.reduceToNat, dite_true, rvals, rval1]; rfl), .sub (List.nil_sublist _), rfl, ?_⟩
      exact ⟨⟨_, _, _, _⟩, _, _, rfl, fun h => absurd h (by decide)⟩
  simp only [push_cast, ↓reduceIte, Nat.reduceEqDiff, Nat.reduceAdd, Nat.reduceMul, Nat.reduceSub, Nat.reduceLT, Nat.reduceLeDiff, reduceCtorEq, Nat.reduceMod, Int.reduceEq, Int.reduceLT, Int.reduceLE, Int.reduceToNat, dite_true, eq_true g3]
  refine CallV.pure (digit c8 F5) ?_
  rintro _ F6 hF6 rfl
  cases g4 : digitB c8 with
  | true =>
    simp only [push_cast, ↓reduceIte, Nat.reduceEqDiff, Nat.reduceAdd, Nat.reduceMul, Nat.reduceSub, Nat.reduceLT, Nat.reduceLeDiff, reduceCtorEq, Nat.reduceMod, Int.reduceEq, Int.reduceLT, Int.reduceLE, Int.reduceToNat, dite_true, e2]
    refine VC.loopM (ι := Nat × PH) (fun i => [(9, .v (.int .i64 i.1)), (4, .o 0 b4 0), (1, .v (.int .i64 a)), (0, .v (.string s))]) (fun _ => [⟨0, b4, 79, tokC ⟨0, ⟨#[]⟩, 0, 0⟩⟩]) (fun i => i.2) (fun i => a < i.1 ∧ i.1 ≤ s.size) (fun i => s.size - i.1) (a + 1, F6) ⟨by omega, ha⟩ (by simp [subk, Eng.look]) (List.Sublist.refl _) rfl ?_
    rintro ⟨i, F8⟩ ⟨hi, hi2⟩ G hG
    dsimp only at hi hi2 hG ⊢
    have c11 : (0 : Int) ≤ (i : Int) := by omega
    have c12 : (i : Int) ≤ (s.size : Int) := by omega
    have c22 : (a : Int) ≤ (i : Int) := by omega
    refine VC.go 100 ?_
    by_cases p : i < s.size
    case neg =>
      have p' : ¬ (i : Int) < (s.size : Int) := by omega
      simp only [push_cast, ↓reduceIte, Nat.reduceEqDiff, Nat.reduceAdd, Nat.reduceMul, Nat.reduceSub, Nat.reduceLT, Nat.reduceLeDiff, reduceCtorEq, Nat.reduceMod, Int.reduceEq, Int.reduceLT, Int.reduceLE, Int.reduceToNat, dite_true, p', h0, c11, c12, c22]
      refine CallV.pure (number (s.extract a i) (by rw [ByteArray.size_extract]; omega) (by rw [ByteArray.size_extract]; omega) F8) ?_
      rintro _ F9 hF9 ⟨m, ok, rfl⟩
      cases ok with
      | true =>
        simp only [push_cast, ↓reduceIte, Nat.reduceEqDiff, Nat.reduceAdd, Nat.reduceMul, Nat.reduceSub, Nat.reduceLT, Nat.reduceLeDiff, reduceCtorEq, Nat.reduceMod, Int.reduceEq, Int.reduceLT, Int.reduceLE, Int.reduceToNat, dite_true]
        refine ⟨[_, _, _], [], (by simp only [push_cast, ↓reduceIte, Nat.reduceEqDiff, Nat.reduceAdd, Nat.reduceMul, Nat.reduceSub, Nat.reduceLT, Nat.reduceLeDiff, reduceCtorEq, Nat.reduceMod, Int.reduceEq, Int.reduceLT, Int.reduceLE, Int.reduceToNat, dite_true, rvals, rval1]; rfl), .sub (List.nil_sublist _), rfl, ?_⟩
        exact ⟨⟨_, _, _, _⟩, _, _, rfl, fun _ => ⟨i, rfl, hi, hi2⟩⟩
      | false =>
        simp only [push_cast, ↓reduceIte, Nat.reduceEqDiff, Nat.reduceAdd, Nat.reduceMul, Nat.reduceSub, Nat.reduceLT, Nat.reduceLeDiff, reduceCtorEq, Nat.reduceMod, Int.reduceEq, Int.reduceLT, Int.reduceLE, Int.reduceToNat, dite_true]
        refine ⟨[_, _, _], [], (by simp only [push_cast, ↓reduceIte, Nat.reduceEqDiff, Nat.reduceAdd, Nat.reduceMul, Nat.reduceSub, Nat.reduceLT, Nat.reduceLeDiff, reduceCtorEq, Nat.reduceMod, Int.reduceEq, Int.reduceLT, Int.reduceLE, Int.reduceToNat, dite_true, rvals, rval1]; rfl), .sub (List.nil_sublist _), rfl, ?_⟩
        exact ⟨⟨_, _, _, _⟩, _, _, rfl, fun h => absurd h (by decide)⟩
    have p' : (i : Int) < (s.size : Int) := by omega
    have hci : ((s.data.getD i 0).toNat : Int) = ch s i := rfl
    have e4 : IntKind.i64.wrap ((i : Int) + 1) = ((i + 1 : Nat) : Int) := wadd i p (small_max hs)
    simp only [push_cast, ↓reduceIte, Nat.reduceEqDiff, Nat.reduceAdd, Nat.reduceMul, Nat.reduceSub, Nat.reduceLT, Nat.reduceLeDiff, reduceCtorEq, Nat.reduceMod, Int.reduceEq, Int.reduceLT, Int.reduceLE, Int.reduceToNat, dite_true, p', c11, hci]
    refine CallV.pure (digit (ch s i) F8) ?_
    rintro _ F10 hF10 rfl
    cases digitB (ch s i) with
    | true =>
      simp only [push_cast, ↓reduceIte, Nat.reduceEqDiff, Nat.reduceAdd, Nat.reduceMul, Nat.reduceSub, Nat.reduceLT, Nat.reduceLeDiff, reduceCtorEq, Nat.reduceMod, Int.reduceEq, Int.reduceLT, Int.reduceLE, Int.reduceToNat, dite_true, e4]
      exact hG (i + 1, F10) _ ⟨by omega, by omega⟩ (by simp; omega) (by simp [subk, Eng.look]) (List.Sublist.refl _) rfl rfl
    | false =>
      simp only [push_cast, ↓reduceIte, Nat.reduceEqDiff, Nat.reduceAdd, Nat.reduceMul, Nat.reduceSub, Nat.reduceLT, Nat.reduceLeDiff, reduceCtorEq, Nat.reduceMod, Int.reduceEq, Int.reduceLT, Int.reduceLE, Int.reduceToNat, dite_true, h0, c11, c12, c22]
      refine CallV.pure (number (s.extract a i) (by rw [ByteArray.size_extract]; omega) (by rw [ByteArray.size_extract]; omega) F10) ?_
      rintro _ F9 hF9 ⟨m, ok, rfl⟩
      cases ok with
      | true =>
        simp only [push_cast, ↓reduceIte, Nat.reduceEqDiff, Nat.reduceAdd, Nat.reduceMul, Nat.reduceSub, Nat.reduceLT, Nat.reduceLeDiff, reduceCtorEq, Nat.reduceMod, Int.reduceEq, Int.reduceLT, Int.reduceLE, Int.reduceToNat, dite_true]
        refine ⟨[_, _, _], [], (by simp only [push_cast, ↓reduceIte, Nat.reduceEqDiff, Nat.reduceAdd, Nat.reduceMul, Nat.reduceSub, Nat.reduceLT, Nat.reduceLeDiff, reduceCtorEq, Nat.reduceMod, Int.reduceEq, Int.reduceLT, Int.reduceLE, Int.reduceToNat, dite_true, rvals, rval1]; rfl), .sub (List.nil_sublist _), rfl, ?_⟩
        exact ⟨⟨_, _, _, _⟩, _, _, rfl, fun _ => ⟨i, rfl, hi, hi2⟩⟩
      | false =>
        simp only [push_cast, ↓reduceIte, Nat.reduceEqDiff, Nat.reduceAdd, Nat.reduceMul, Nat.reduceSub, Nat.reduceLT, Nat.reduceLeDiff, reduceCtorEq, Nat.reduceMod, Int.reduceEq, Int.reduceLT, Int.reduceLE, Int.reduceToNat, dite_true]
        refine ⟨[_, _, _], [], (by simp only [push_cast, ↓reduceIte, Nat.reduceEqDiff, Nat.reduceAdd, Nat.reduceMul, Nat.reduceSub, Nat.reduceLT, Nat.reduceLeDiff, reduceCtorEq, Nat.reduceMod, Int.reduceEq, Int.reduceLT, Int.reduceLE, Int.reduceToNat, dite_true, rvals, rval1]; rfl), .sub (List.nil_sublist _), rfl, ?_⟩
        exact ⟨⟨_, _, _, _⟩, _, _, rfl, fun h => absurd h (by decide)⟩
  | false =>
  by_cases g5 : c8 = 62
  · simp only [push_cast, ↓reduceIte, Nat.reduceEqDiff, Nat.reduceAdd, Nat.reduceMul, Nat.reduceSub, Nat.reduceLT, Nat.reduceLeDiff, reduceCtorEq, Nat.reduceMod, Int.reduceEq, Int.reduceLT, Int.reduceLE, Int.reduceToNat, dite_true, eq_true g3, eq_true g5, e3]
    refine ⟨[_, _, _], [], (by simp only [push_cast, ↓reduceIte, Nat.reduceEqDiff, Nat.reduceAdd, Nat.reduceMul, Nat.reduceSub, Nat.reduceLT, Nat.reduceLeDiff, reduceCtorEq, Nat.reduceMod, Int.reduceEq, Int.reduceLT, Int.reduceLE, Int.reduceToNat, dite_true, rvals, rval1]; rfl), .sub (List.nil_sublist _), rfl, ?_⟩
    exact ⟨⟨_, _, _, _⟩, _, _, rfl, fun _ => ⟨a + 2, by simp, by omega, hc8 g5⟩⟩
  · simp only [push_cast, ↓reduceIte, Nat.reduceEqDiff, Nat.reduceAdd, Nat.reduceMul, Nat.reduceSub, Nat.reduceLT, Nat.reduceLeDiff, reduceCtorEq, Nat.reduceMod, Int.reduceEq, Int.reduceLT, Int.reduceLE, Int.reduceToNat, dite_true, eq_true g3, g5, e2, h0, h01, ht, k1, k2]
    refine CallV.pure (sign _ F6) ?_
    rintro _ F7 hF7 ⟨rb, rfl⟩
    cases rb with
    | true =>
      simp only [push_cast, ↓reduceIte, Nat.reduceEqDiff, Nat.reduceAdd, Nat.reduceMul, Nat.reduceSub, Nat.reduceLT, Nat.reduceLeDiff, reduceCtorEq, Nat.reduceMod, Int.reduceEq, Int.reduceLT, Int.reduceLE, Int.reduceToNat, dite_true, e2, e3, h0, h01, ht, k1, k2]
      refine ⟨[_, _, _], [], (by simp only [push_cast, ↓reduceIte, Nat.reduceEqDiff, Nat.reduceAdd, Nat.reduceMul, Nat.reduceSub, Nat.reduceLT, Nat.reduceLeDiff, reduceCtorEq, Nat.reduceMod, Int.reduceEq, Int.reduceLT, Int.reduceLE, Int.reduceToNat, dite_true, rvals, rval1]; rfl), .sub (List.nil_sublist _), rfl, ?_⟩
      exact ⟨⟨_, _, _, _⟩, _, _, rfl, fun _ => ⟨a + 1, rfl, by omega, by omega⟩⟩
    | false =>
      simp only [push_cast, ↓reduceIte, Nat.reduceEqDiff, Nat.reduceAdd, Nat.reduceMul, Nat.reduceSub, Nat.reduceLT, Nat.reduceLeDiff, reduceCtorEq, Nat.reduceMod, Int.reduceEq, Int.reduceLT, Int.reduceLE, Int.reduceToNat, dite_true]
      refine ⟨[_, _, _], [], (by simp only [push_cast, ↓reduceIte, Nat.reduceEqDiff, Nat.reduceAdd, Nat.reduceMul, Nat.reduceSub, Nat.reduceLT, Nat.reduceLeDiff, reduceCtorEq, Nat.reduceMod, Int.reduceEq, Int.reduceLT, Int.reduceLE, Int.reduceToNat, dite_true, rvals, rval1]; rfl), .sub (List.nil_sublist _), rfl, ?_⟩
      exact ⟨⟨_, _, _, _⟩, _, _, rfl, fun h => absurd h (by decide)⟩
theorem RTok.len (t : Tok) (c : List Value) (h : RTok t c) : c.length = 4 := by cases h; rfl
theorem scan (s : ByteArray) (F : PH) : PFn Tryd.prog 24 [.string s] F
    (fun v F' => ∃ sl a e l, v = .tuple #[sl, .int .i64 a, .int .i64 e] ∧ Toks F' sl l ∧ l.length ≤ 16384 ∧ ∀ t ∈ l, t.tx.size ≤ 32) := by
  refine Fn.intro (n := 46) (ts := [2, 3, 4]) Tryd.func24 rfl rfl rfl rfl (by simp) fun B hB => VC.go 100 ?_
  by_cases g : (s.size : Int) > 16384
  · simp only [push_cast, ↓reduceIte, Nat.reduceEqDiff, Nat.reduceAdd, Nat.reduceMul, Nat.reduceSub, Nat.reduceLT, Nat.reduceLeDiff, reduceCtorEq, Nat.reduceMod, Int.reduceEq, Int.reduceLT, Int.reduceLE, Int.reduceToNat, dite_true, eq_true g]
    exact RetOk.p rfl ⟨_, _, _, [], rfl, nil_sle _ _ _, Nat.zero_le _, by simp⟩
  have hs : s.size ≤ 16384 := by omega
  simp only [push_cast, ↓reduceIte, Nat.reduceEqDiff, Nat.reduceAdd, Nat.reduceMul, Nat.reduceSub, Nat.reduceLT, Nat.reduceLeDiff, reduceCtorEq, Nat.reduceMod, Int.reduceEq, Int.reduceLT, Int.reduceLE, Int.reduceToNat, dite_true, g]
  refine CallV.pure (skip s 0 (Nat.zero_le _) hs F) ?_
  rintro _ F1 hF1 ⟨j0, rfl, _, hj0⟩
  simp only [push_cast, ↓reduceIte, Nat.reduceEqDiff, Nat.reduceAdd, Nat.reduceMul, Nat.reduceSub, Nat.reduceLT, Nat.reduceLeDiff, reduceCtorEq, Nat.reduceMod, Int.reduceEq, Int.reduceLT, Int.reduceLE, Int.reduceToNat, dite_true]
  refine VC.emp ?_
  refine VC.loopMR (ι := Nat × Value × List Tok × PH × PH) (fun i => [(6, .v (.int .i64 i.1)), (5, .v i.2.1), (0, .v (.string s))]) (fun _ => []) (fun i => i.2.2.2.1) (fun i => [i.2.2.2.2]) (fun i => i.1 ≤ s.size ∧ i.2.2.1.length ≤ i.1 ∧ (∀ t ∈ i.2.2.1, t.tx.size ≤ 32) ∧ ∃ xs, Row i.2.2.2.2 79 4 i.2.1 xs ∧ Each RTok i.2.2.1 xs) (fun i => s.size - i.1) (j0, .slice none 0 0, [], F1, PH.emp) ⟨hj0, Nat.zero_le _, by simp, [], Row.nil _ _, rfl⟩ (by simp [subk, Eng.look]) (List.Sublist.refl _) rfl (subR_refl _) ?_
  rintro ⟨a, v5, l, F2, r⟩ ⟨ha, hl, hsz, xs, hr, hea⟩ G hG
  dsimp only at ha hl hsz hr hea hG ⊢
  have hxl := Each.len RTok.len hea
  obtain ⟨p5, n5, c5, rfl⟩ := hr.val
  by_cases h : a < s.size
  case neg =>
    have h' : ¬ (a : Int) < (s.size : Int) := by omega
    refine VC.freezeR (List.Perm.refl _) fun F3 hF3 hrF => ?_
    refine VC.go 100 ?_
    simp only [push_cast, ↓reduceIte, Nat.reduceEqDiff, Nat.reduceAdd, Nat.reduceMul, Nat.reduceSub, Nat.reduceLT, Nat.reduceLeDiff, reduceCtorEq, Nat.reduceMod, Int.reduceEq, Int.reduceLT, Int.reduceLE, Int.reduceToNat, dite_true, h']
    exact RetOk.p rfl ⟨_, _, _, l, rfl, row_sle (by decide) RTok.len hr hea hrF, by omega, hsz⟩
  have h' : (a : Int) < (s.size : Int) := by omega
  refine VC.go 100 ?_
  simp only [push_cast, ↓reduceIte, Nat.reduceEqDiff, Nat.reduceAdd, Nat.reduceMul, Nat.reduceSub, Nat.reduceLT, Nat.reduceLeDiff, reduceCtorEq, Nat.reduceMod, Int.reduceEq, Int.reduceLT, Int.reduceLE, Int.reduceToNat, dite_true, h']
  refine CallV.pure (one s a h hs F2) ?_
  rintro _ F3 hF3 ⟨t, nx, e, rfl, hnx⟩
  simp only [push_cast, ↓reduceIte, Nat.reduceEqDiff, Nat.reduceAdd, Nat.reduceMul, Nat.reduceSub, Nat.reduceLT, Nat.reduceLeDiff, reduceCtorEq, Nat.reduceMod, Int.reduceEq, Int.reduceLT, Int.reduceLE, Int.reduceToNat, dite_true]
  intro b7
  by_cases he : e = 0
  case neg =>
    simp only [push_cast, ↓reduceIte, Nat.reduceEqDiff, Nat.reduceAdd, Nat.reduceMul, Nat.reduceSub, Nat.reduceLT, Nat.reduceLeDiff, reduceCtorEq, Nat.reduceMod, Int.reduceEq, Int.reduceLT, Int.reduceLE, Int.reduceToNat, dite_true, he]
    exact RetOk.p rfl ⟨_, _, _, [], rfl, nil_sle _ _ _, Nat.zero_le _, by simp⟩
  obtain ⟨j, rfl, hj1, hj2⟩ := hnx he
  by_cases g3 : (t.tx.size : Int) > 32
  · simp only [push_cast, ↓reduceIte, Nat.reduceEqDiff, Nat.reduceAdd, Nat.reduceMul, Nat.reduceSub, Nat.reduceLT, Nat.reduceLeDiff, reduceCtorEq, Nat.reduceMod, Int.reduceEq, Int.reduceLT, Int.reduceLE, Int.reduceToNat, dite_true, eq_true he, eq_true g3]
    exact RetOk.p rfl ⟨_, _, _, [], rfl, nil_sle _ _ _, Nat.zero_le _, by simp⟩
  simp only [push_cast, ↓reduceIte, Nat.reduceEqDiff, Nat.reduceAdd, Nat.reduceMul, Nat.reduceSub, Nat.reduceLT, Nat.reduceLeDiff, reduceCtorEq, Nat.reduceMod, Int.reduceEq, Int.reduceLT, Int.reduceLE, Int.reduceToNat, dite_true, eq_true he, g3]
  intro b40 F4 hF4 hb40
  refine Eff.append (xs := xs) (ys := tokC t) rfl rfl rfl ty72 rfl ty79 rfl (by decide) rfl rfl (List.Perm.refl _) hr (Src.blk hb40 rfl) (by simp [Value.oneCell']) (by simp; omega) (by decide) ?_
  intro v' r' hr'
  obtain ⟨p6, n6, c6, rfl⟩ := hr'.val
  simp only [push_cast, ↓reduceIte, Nat.reduceEqDiff, Nat.reduceAdd, Nat.reduceMul, Nat.reduceSub, Nat.reduceLT, Nat.reduceLeDiff, reduceCtorEq, Nat.reduceMod, Int.reduceEq, Int.reduceLT, Int.reduceLE, Int.reduceToNat, dite_true]
  refine CallV.pure (skip s j hj2 hs F4) ?_
  rintro _ F5 hF5 ⟨j5, rfl, hj5, hj6⟩
  simp only [push_cast, ↓reduceIte, Nat.reduceEqDiff, Nat.reduceAdd, Nat.reduceMul, Nat.reduceSub, Nat.reduceLT, Nat.reduceLeDiff, reduceCtorEq, Nat.reduceMod, Int.reduceEq, Int.reduceLT, Int.reduceLE, Int.reduceToNat, dite_true]
  refine hG (j5, _, l ++ [t], F5, r') _ ⟨hj6, by simp; omega, fun t' ht' => ?_, _, hr', each_snoc hea rfl⟩ (by simp; omega) (by simp [subk, Eng.look]) (List.nil_sublist _) rfl (subR_refl _)
  rcases List.mem_append.1 ht' with k | k
  · exact hsz t' k
  · rw [List.mem_singleton.1 k]; omega
end Go.Proofs.YtjeidgjhkjnkeaaDoor.X
