/- The lexer of the definition, as a function of the text. (Written by gen/b1.py.) -/
import Derived.Test.YtoepmdbicdoieaaDoorN4
namespace Go.Proofs.YtoepmdbicdoieaaDoor.X
open Go Go.Eng Go.Proofs Go.Proofs.YtoepmdbicdoieaaDoor.T Go.Proofs.YtoepmdbicdoieaaDoor.K
set_option linter.unusedSimpArgs false
set_option linter.unusedVariables false
set_option maxRecDepth 100000
set_option maxHeartbeats 4000000
theorem each_snoc {α : Type} {R : α → List Value → Prop} : ∀ {l : List α} {xs ys : List Value} {a : α}, Each R l xs → R a ys → Each R (l ++ [a]) (xs ++ ys)
  | [], xs, ys, a, h1, h2 => by simp only [Each] at h1; subst h1; exact ⟨ys, [], by simp, h2, rfl⟩
  | b :: l, xs, ys, a, ⟨c, zs, e, h1, h3⟩, h2 => by
    subst e
    exact ⟨c, zs ++ ys, by simp, h1, each_snoc h3 h2⟩
theorem row_sle {α : Type} {R : α → List Value → Prop} {r F : PH} {t : TypeId} {sz : Nat} {v : Value} {xs : List Value} {l : List α} (hpos : 0 < sz) (hsz : ∀ a c, R a c → c.length = sz) (hr : Row r t sz v xs) (he : Each R l xs) (hl : r.le F) : SlE F sz R v l := by
  obtain ⟨m, h1, h2⟩ := hr.sl hl
  have h3 := Each.len hsz he
  rw [h1] at h3
  have hm : m = l.length := Nat.eq_of_mul_eq_mul_right hpos h3
  subst hm
  exact ⟨xs, h2, he⟩
def ch (s : ByteArray) (i : Nat) : Int := ((s.data.getD i 0).toNat : Int)
def smallB (c : Int) : Bool := decide (97 ≤ c) && decide (c ≤ 122)
def largeB (c : Int) : Bool := decide (65 ≤ c) && decide (c ≤ 90)
def digitB (c : Int) : Bool := decide (48 ≤ c) && decide (c ≤ 57)
theorem small (c : Int) (F : PH) : PFn Tryd.prog 69 [.int .u8 c] F (fun v _ => v = .bool (smallB c)) := by
  refine Fn.intro (n := 9) (ts := [2]) Tryd.func69 rfl rfl rfl rfl (by simp) fun B hB => VC.go 100 ?_
  by_cases h : c ≥ 97
  · by_cases h2 : c ≤ 122
    · simp only [push_cast, ↓reduceIte, Nat.reduceEqDiff, Nat.reduceAdd, Nat.reduceMul, Nat.reduceSub, Nat.reduceLT, Nat.reduceLeDiff, reduceCtorEq, Nat.reduceMod, Int.reduceEq, Int.reduceLT, Int.reduceLE, Int.reduceToNat, dite_true, eq_true h, eq_true h2]; rw [show smallB c = true from by simp [smallB]; omega]; exact RetOk.p rfl rfl
    · simp only [push_cast, ↓reduceIte, Nat.reduceEqDiff, Nat.reduceAdd, Nat.reduceMul, Nat.reduceSub, Nat.reduceLT, Nat.reduceLeDiff, reduceCtorEq, Nat.reduceMod, Int.reduceEq, Int.reduceLT, Int.reduceLE, Int.reduceToNat, dite_true, eq_true h, h2]; rw [show smallB c = false from by simp [smallB]; omega]; exact RetOk.p rfl rfl
  · simp only [push_cast, ↓reduceIte, Nat.reduceEqDiff, Nat.reduceAdd, Nat.reduceMul, Nat.reduceSub, Nat.reduceLT, Nat.reduceLeDiff, reduceCtorEq, Nat.reduceMod, Int.reduceEq, Int.reduceLT, Int.reduceLE, Int.reduceToNat, dite_true, h]; rw [show smallB c = false from by simp [smallB]; omega]; exact RetOk.p rfl rfl
theorem large (c : Int) (F : PH) : PFn Tryd.prog 71 [.int .u8 c] F (fun v _ => v = .bool (largeB c)) := by
  refine Fn.intro (n := 9) (ts := [2]) Tryd.func71 rfl rfl rfl rfl (by simp) fun B hB => VC.go 100 ?_
  by_cases h : c ≥ 65
  · by_cases h2 : c ≤ 90
    · simp only [push_cast, ↓reduceIte, Nat.reduceEqDiff, Nat.reduceAdd, Nat.reduceMul, Nat.reduceSub, Nat.reduceLT, Nat.reduceLeDiff, reduceCtorEq, Nat.reduceMod, Int.reduceEq, Int.reduceLT, Int.reduceLE, Int.reduceToNat, dite_true, eq_true h, eq_true h2]; rw [show largeB c = true from by simp [largeB]; omega]; exact RetOk.p rfl rfl
    · simp only [push_cast, ↓reduceIte, Nat.reduceEqDiff, Nat.reduceAdd, Nat.reduceMul, Nat.reduceSub, Nat.reduceLT, Nat.reduceLeDiff, reduceCtorEq, Nat.reduceMod, Int.reduceEq, Int.reduceLT, Int.reduceLE, Int.reduceToNat, dite_true, eq_true h, h2]; rw [show largeB c = false from by simp [largeB]; omega]; exact RetOk.p rfl rfl
  · simp only [push_cast, ↓reduceIte, Nat.reduceEqDiff, Nat.reduceAdd, Nat.reduceMul, Nat.reduceSub, Nat.reduceLT, Nat.reduceLeDiff, reduceCtorEq, Nat.reduceMod, Int.reduceEq, Int.reduceLT, Int.reduceLE, Int.reduceToNat, dite_true, h]; rw [show largeB c = false from by simp [largeB]; omega]; exact RetOk.p rfl rfl
theorem digit (c : Int) (F : PH) : PFn Tryd.prog 72 [.int .u8 c] F (fun v _ => v = .bool (digitB c)) := by
  refine Fn.intro (n := 9) (ts := [2]) Tryd.func72 rfl rfl rfl rfl (by simp) fun B hB => VC.go 100 ?_
  by_cases h : c ≥ 48
  · by_cases h2 : c ≤ 57
    · simp only [push_cast, ↓reduceIte, Nat.reduceEqDiff, Nat.reduceAdd, Nat.reduceMul, Nat.reduceSub, Nat.reduceLT, Nat.reduceLeDiff, reduceCtorEq, Nat.reduceMod, Int.reduceEq, Int.reduceLT, Int.reduceLE, Int.reduceToNat, dite_true, eq_true h, eq_true h2]; rw [show digitB c = true from by simp [digitB]; omega]; exact RetOk.p rfl rfl
    · simp only [push_cast, ↓reduceIte, Nat.reduceEqDiff, Nat.reduceAdd, Nat.reduceMul, Nat.reduceSub, Nat.reduceLT, Nat.reduceLeDiff, reduceCtorEq, Nat.reduceMod, Int.reduceEq, Int.reduceLT, Int.reduceLE, Int.reduceToNat, dite_true, eq_true h, h2]; rw [show digitB c = false from by simp [digitB]; omega]; exact RetOk.p rfl rfl
  · simp only [push_cast, ↓reduceIte, Nat.reduceEqDiff, Nat.reduceAdd, Nat.reduceMul, Nat.reduceSub, Nat.reduceLT, Nat.reduceLeDiff, reduceCtorEq, Nat.reduceMod, Int.reduceEq, Int.reduceLT, Int.reduceLE, Int.reduceToNat, dite_true, h]; rw [show digitB c = false from by simp [digitB]; omega]; exact RetOk.p rfl rfl
def blankB (c : Int) : Bool := decide (c = 9) || decide (c = 10) || decide (c = 13) || decide (c = 32)
theorem blank (c : Int) (F : PH) : PFn Tryd.prog 67 [.int .u8 c] F (fun v _ => v = .bool (blankB c)) := by
  refine Fn.intro (n := 17) (ts := [2]) Tryd.func67 rfl rfl rfl rfl (by simp) fun B hB => VC.go 100 ?_
  by_cases h1 : c = 9
  · simp only [push_cast, ↓reduceIte, Nat.reduceEqDiff, Nat.reduceAdd, Nat.reduceMul, Nat.reduceSub, Nat.reduceLT, Nat.reduceLeDiff, reduceCtorEq, Nat.reduceMod, Int.reduceEq, Int.reduceLT, Int.reduceLE, Int.reduceToNat, dite_true, eq_true h1]; exact RetOk.p rfl (by simp [blankB, h1, rval])
  by_cases h2 : c = 10
  · simp only [push_cast, ↓reduceIte, Nat.reduceEqDiff, Nat.reduceAdd, Nat.reduceMul, Nat.reduceSub, Nat.reduceLT, Nat.reduceLeDiff, reduceCtorEq, Nat.reduceMod, Int.reduceEq, Int.reduceLT, Int.reduceLE, Int.reduceToNat, dite_true, h1, eq_true h2]; exact RetOk.p rfl (by simp [blankB, h2, rval])
  by_cases h3 : c = 13
  · simp only [push_cast, ↓reduceIte, Nat.reduceEqDiff, Nat.reduceAdd, Nat.reduceMul, Nat.reduceSub, Nat.reduceLT, Nat.reduceLeDiff, reduceCtorEq, Nat.reduceMod, Int.reduceEq, Int.reduceLT, Int.reduceLE, Int.reduceToNat, dite_true, h1, h2, eq_true h3]; exact RetOk.p rfl (by simp [blankB, h3, rval])
  · simp only [push_cast, ↓reduceIte, Nat.reduceEqDiff, Nat.reduceAdd, Nat.reduceMul, Nat.reduceSub, Nat.reduceLT, Nat.reduceLeDiff, reduceCtorEq, Nat.reduceMod, Int.reduceEq, Int.reduceLT, Int.reduceLE, Int.reduceToNat, dite_true, h1, h2, h3]; exact RetOk.p rfl (by simp [blankB, h1, h2, h3, rval])
def reservedL : List ByteArray := [⟨#[108, 101, 116]⟩, ⟨#[105, 110]⟩, ⟨#[99, 97, 115, 101]⟩, ⟨#[111, 102]⟩, ⟨#[100, 97, 116, 97]⟩]
def reservedB (s : ByteArray) : Bool := reservedL.any fun x => decide (s = x)
theorem reserved (s : ByteArray) (F : PH) : PFn Tryd.prog 70 [.string s] F (fun v _ => v = .bool (reservedB s)) := by
  refine Fn.intro (n := 21) (ts := [2]) Tryd.func70 rfl rfl rfl rfl (by simp) fun B hB => VC.go 100 ?_
  by_cases h1 : s = ⟨#[108, 101, 116]⟩
  · simp only [push_cast, ↓reduceIte, Nat.reduceEqDiff, Nat.reduceAdd, Nat.reduceMul, Nat.reduceSub, Nat.reduceLT, Nat.reduceLeDiff, reduceCtorEq, Nat.reduceMod, Int.reduceEq, Int.reduceLT, Int.reduceLE, Int.reduceToNat, dite_true, eq_true h1]; exact RetOk.p rfl (by simp [reservedB, reservedL, h1, rval])
  by_cases h2 : s = ⟨#[105, 110]⟩
  · simp only [push_cast, ↓reduceIte, Nat.reduceEqDiff, Nat.reduceAdd, Nat.reduceMul, Nat.reduceSub, Nat.reduceLT, Nat.reduceLeDiff, reduceCtorEq, Nat.reduceMod, Int.reduceEq, Int.reduceLT, Int.reduceLE, Int.reduceToNat, dite_true, h1, eq_true h2]; exact RetOk.p rfl (by simp [reservedB, reservedL, h2, rval])
  by_cases h3 : s = ⟨#[99, 97, 115, 101]⟩
  · simp only [push_cast, ↓reduceIte, Nat.reduceEqDiff, Nat.reduceAdd, Nat.reduceMul, Nat.reduceSub, Nat.reduceLT, Nat.reduceLeDiff, reduceCtorEq, Nat.reduceMod, Int.reduceEq, Int.reduceLT, Int.reduceLE, Int.reduceToNat, dite_true, h1, h2, eq_true h3]; exact RetOk.p rfl (by simp [reservedB, reservedL, h3, rval])
  by_cases h4 : s = ⟨#[111, 102]⟩
  · simp only [push_cast, ↓reduceIte, Nat.reduceEqDiff, Nat.reduceAdd, Nat.reduceMul, Nat.reduceSub, Nat.reduceLT, Nat.reduceLeDiff, reduceCtorEq, Nat.reduceMod, Int.reduceEq, Int.reduceLT, Int.reduceLE, Int.reduceToNat, dite_true, h1, h2, h3, eq_true h4]; exact RetOk.p rfl (by simp [reservedB, reservedL, h4, rval])
  by_cases h5 : s = ⟨#[100, 97, 116, 97]⟩
  · simp only [push_cast, ↓reduceIte, Nat.reduceEqDiff, Nat.reduceAdd, Nat.reduceMul, Nat.reduceSub, Nat.reduceLT, Nat.reduceLeDiff, reduceCtorEq, Nat.reduceMod, Int.reduceEq, Int.reduceLT, Int.reduceLE, Int.reduceToNat, dite_true, h1, h2, h3, h4, eq_true h5]; exact RetOk.p rfl (by simp [reservedB, reservedL, h5, rval])
  · simp only [push_cast, ↓reduceIte, Nat.reduceEqDiff, Nat.reduceAdd, Nat.reduceMul, Nat.reduceSub, Nat.reduceLT, Nat.reduceLeDiff, reduceCtorEq, Nat.reduceMod, Int.reduceEq, Int.reduceLT, Int.reduceLE, Int.reduceToNat, dite_true, h1, h2, h3, h4, h5]; exact RetOk.p rfl (by simp [reservedB, reservedL, h1, h2, h3, h4, h5, rval])
def signL : List ByteArray := [⟨#[45, 62]⟩, ⟨#[61]⟩, ⟨#[92]⟩, ⟨#[123]⟩, ⟨#[125]⟩, ⟨#[59]⟩, ⟨#[40]⟩, ⟨#[41]⟩]
def signB (s : ByteArray) : Bool := signL.any fun x => decide (s = x)
theorem sign (s : ByteArray) (F : PH) : PFn Tryd.prog 74 [.string s] F (fun v _ => v = .bool (signB s)) := by
  refine Fn.intro (n := 33) (ts := [2]) Tryd.func74 rfl rfl rfl rfl (by simp) fun B hB => VC.go 100 ?_
  by_cases h1 : s = ⟨#[45, 62]⟩
  · simp only [push_cast, ↓reduceIte, Nat.reduceEqDiff, Nat.reduceAdd, Nat.reduceMul, Nat.reduceSub, Nat.reduceLT, Nat.reduceLeDiff, reduceCtorEq, Nat.reduceMod, Int.reduceEq, Int.reduceLT, Int.reduceLE, Int.reduceToNat, dite_true, eq_true h1]; exact RetOk.p rfl (by simp [signB, signL, h1, rval])
  by_cases h2 : s = ⟨#[61]⟩
  · simp only [push_cast, ↓reduceIte, Nat.reduceEqDiff, Nat.reduceAdd, Nat.reduceMul, Nat.reduceSub, Nat.reduceLT, Nat.reduceLeDiff, reduceCtorEq, Nat.reduceMod, Int.reduceEq, Int.reduceLT, Int.reduceLE, Int.reduceToNat, dite_true, h1, eq_true h2]; exact RetOk.p rfl (by simp [signB, signL, h2, rval])
  by_cases h3 : s = ⟨#[92]⟩
  · simp only [push_cast, ↓reduceIte, Nat.reduceEqDiff, Nat.reduceAdd, Nat.reduceMul, Nat.reduceSub, Nat.reduceLT, Nat.reduceLeDiff, reduceCtorEq, Nat.reduceMod, Int.reduceEq, Int.reduceLT, Int.reduceLE, Int.reduceToNat, dite_true, h1, h2, eq_true h3]; exact RetOk.p rfl (by simp [signB, signL, h3, rval])
  by_cases h4 : s = ⟨#[123]⟩
  · simp only [push_cast, ↓reduceIte, Nat.reduceEqDiff, Nat.reduceAdd, Nat.reduceMul, Nat.reduceSub, Nat.reduceLT, Nat.reduceLeDiff, reduceCtorEq, Nat.reduceMod, Int.reduceEq, Int.reduceLT, Int.reduceLE, Int.reduceToNat, dite_true, h1, h2, h3, eq_true h4]; exact RetOk.p rfl (by simp [signB, signL, h4, rval])
  by_cases h5 : s = ⟨#[125]⟩
  · simp only [push_cast, ↓reduceIte, Nat.reduceEqDiff, Nat.reduceAdd, Nat.reduceMul, Nat.reduceSub, Nat.reduceLT, Nat.reduceLeDiff, reduceCtorEq, Nat.reduceMod, Int.reduceEq, Int.reduceLT, Int.reduceLE, Int.reduceToNat, dite_true, h1, h2, h3, h4, eq_true h5]; exact RetOk.p rfl (by simp [signB, signL, h5, rval])
  by_cases h6 : s = ⟨#[59]⟩
  · simp only [push_cast, ↓reduceIte, Nat.reduceEqDiff, Nat.reduceAdd, Nat.reduceMul, Nat.reduceSub, Nat.reduceLT, Nat.reduceLeDiff, reduceCtorEq, Nat.reduceMod, Int.reduceEq, Int.reduceLT, Int.reduceLE, Int.reduceToNat, dite_true, h1, h2, h3, h4, h5, eq_true h6]; exact RetOk.p rfl (by simp [signB, signL, h6, rval])
  by_cases h7 : s = ⟨#[40]⟩
  · simp only [push_cast, ↓reduceIte, Nat.reduceEqDiff, Nat.reduceAdd, Nat.reduceMul, Nat.reduceSub, Nat.reduceLT, Nat.reduceLeDiff, reduceCtorEq, Nat.reduceMod, Int.reduceEq, Int.reduceLT, Int.reduceLE, Int.reduceToNat, dite_true, h1, h2, h3, h4, h5, h6, eq_true h7]; exact RetOk.p rfl (by simp [signB, signL, h7, rval])
  by_cases h8 : s = ⟨#[41]⟩
  · simp only [push_cast, ↓reduceIte, Nat.reduceEqDiff, Nat.reduceAdd, Nat.reduceMul, Nat.reduceSub, Nat.reduceLT, Nat.reduceLeDiff, reduceCtorEq, Nat.reduceMod, Int.reduceEq, Int.reduceLT, Int.reduceLE, Int.reduceToNat, dite_true, h1, h2, h3, h4, h5, h6, h7, eq_true h8]; exact RetOk.p rfl (by simp [signB, signL, h8, rval])
  · simp only [push_cast, ↓reduceIte, Nat.reduceEqDiff, Nat.reduceAdd, Nat.reduceMul, Nat.reduceSub, Nat.reduceLT, Nat.reduceLeDiff, reduceCtorEq, Nat.reduceMod, Int.reduceEq, Int.reduceLT, Int.reduceLE, Int.reduceToNat, dite_true, h1, h2, h3, h4, h5, h6, h7, h8]; exact RetOk.p rfl (by simp [signB, signL, h1, h2, h3, h4, h5, h6, h7, h8, rval])
theorem small_max {n : Nat} (h : n ≤ 16384) : n ≤ maxLen := Nat.le_trans h (by decide)
def wordB (c : Int) : Bool := smallB c || largeB c || digitB c || decide (c = 95)
/-- The place behind the run from a place. -/
def runP (s : ByteArray) : Nat → Nat → Nat
  | 0, i => i
  | n + 1, i => if i < s.size ∧ wordB (ch s i) = true then runP s n (i + 1) else i
def runE (s : ByteArray) (i : Nat) : Nat := runP s (s.size - i) i
theorem runE_eq (s : ByteArray) (i : Nat) : runE s i = if i < s.size ∧ wordB (ch s i) = true then runE s (i + 1) else i := by
  unfold runE
  by_cases h : i < s.size
  · obtain ⟨n, hn⟩ : ∃ n, s.size - i = n + 1 := ⟨s.size - i - 1, by omega⟩
    rw [hn, show s.size - (i + 1) = n by omega]
    rfl
  · rw [show s.size - i = 0 by omega, if_neg (fun k => h k.1)]
    rfl
theorem runP_le (s : ByteArray) : ∀ n i, i ≤ s.size → i ≤ runP s n i ∧ runP s n i ≤ s.size
  | 0, i, h => ⟨Nat.le_refl _, h⟩
  | n + 1, i, h => by
    simp only [runP]
    split
    · rename_i k
      have := runP_le s n (i + 1) (by omega)
      omega
    · exact ⟨Nat.le_refl _, h⟩
theorem runE_le (s : ByteArray) {i : Nat} (h : i ≤ s.size) : i ≤ runE s i ∧ runE s i ≤ s.size := runP_le s _ i h
theorem runE_lt (s : ByteArray) {i : Nat} (h : i < s.size) (hw : wordB (ch s i) = true) : i < runE s i := by
  rw [runE_eq, if_pos ⟨h, hw⟩]
  have := (runE_le s (i := i + 1) h).1
  omega
theorem run (s : ByteArray) (a : Nat) (ha : a ≤ s.size) (hs : s.size ≤ 16384) (F : PH) : PFn Tryd.prog 68 [.string s, .int .i64 a] F (fun v _ => v = .int .i64 (runE s a)) := by
  refine Fn.intro (n := 36) (ts := [4]) Tryd.func68 rfl rfl rfl rfl (by simp) fun B hB => VC.go 100 ?_
  simp only [push_cast, ↓reduceIte, Nat.reduceEqDiff, Nat.reduceAdd, Nat.reduceMul, Nat.reduceSub, Nat.reduceLT, Nat.reduceLeDiff, reduceCtorEq, Nat.reduceMod, Int.reduceEq, Int.reduceLT, Int.reduceLE, Int.reduceToNat, dite_true]
  refine VC.loopF (ι := Nat × PH) (fun i => [(1, .v (.int .i64 i.1)), (0, .v (.string s))]) (fun i => i.2) (fun i => i.1 ≤ s.size ∧ runE s i.1 = runE s a) (fun i => s.size - i.1) (a, F) ⟨ha, rfl⟩ (by simp [subk, Eng.look]) rfl ?_
  rintro ⟨i, F1⟩ ⟨hi2, hrun⟩ G hG
  dsimp only at hi2 hrun hG ⊢
  rw [runE_eq] at hrun
  refine VC.go 100 ?_
  by_cases h : i < s.size
  case neg =>
    have h' : ¬ (i : Int) < (s.size : Int) := by omega
    rw [if_neg (fun k => h k.1)] at hrun
    simp only [push_cast, ↓reduceIte, Nat.reduceEqDiff, Nat.reduceAdd, Nat.reduceMul, Nat.reduceSub, Nat.reduceLT, Nat.reduceLeDiff, reduceCtorEq, Nat.reduceMod, Int.reduceEq, Int.reduceLT, Int.reduceLE, Int.reduceToNat, dite_true, h']
    exact RetOk.p rfl (by rw [← hrun]; rfl)
  have h' : (i : Int) < (s.size : Int) := by omega
  have h0 : (0 : Int) ≤ (i : Int) := by omega
  have e2 : IntKind.i64.wrap ((i : Int) + 1) = ((i + 1 : Nat) : Int) := wadd i h (small_max hs)
  have hc : ((s.data.getD i 0).toNat : Int) = ch s i := rfl
  have go : wordB (ch s i) = true → ∀ (F2 : PH) S', subk S'.L [(1, .v (.int .i64 (i + 1 : Nat))), (0, .v (.string s))] → S'.M = [] → S'.F = F2 → S'.R = [] → G S' := fun hw F2 S' k1 k2 k3 k4 => hG (i + 1, F2) S' ⟨by omega, by rw [if_pos ⟨h, hw⟩] at hrun; exact hrun⟩ (by simp; omega) k1 (by rw [k2]; exact List.Sublist.refl _) k3 k4
  simp only [push_cast, ↓reduceIte, Nat.reduceEqDiff, Nat.reduceAdd, Nat.reduceMul, Nat.reduceSub, Nat.reduceLT, Nat.reduceLeDiff, reduceCtorEq, Nat.reduceMod, Int.reduceEq, Int.reduceLT, Int.reduceLE, Int.reduceToNat, dite_true, h', h0, hc]
  refine CallV.pure (small (ch s i) F1) ?_
  rintro _ F2 hF2 rfl
  cases h1 : smallB (ch s i) with
  | true =>
    simp only [push_cast, ↓reduceIte, Nat.reduceEqDiff, Nat.reduceAdd, Nat.reduceMul, Nat.reduceSub, Nat.reduceLT, Nat.reduceLeDiff, reduceCtorEq, Nat.reduceMod, Int.reduceEq, Int.reduceLT, Int.reduceLE, Int.reduceToNat, dite_true, h', h0, hc, e2]
    exact go (by simp [wordB, h1]) F2 _ (by simp [subk, Eng.look]) rfl rfl rfl
  | false =>
  simp only [push_cast, ↓reduceIte, Nat.reduceEqDiff, Nat.reduceAdd, Nat.reduceMul, Nat.reduceSub, Nat.reduceLT, Nat.reduceLeDiff, reduceCtorEq, Nat.reduceMod, Int.reduceEq, Int.reduceLT, Int.reduceLE, Int.reduceToNat, dite_true, h', h0, hc]
  refine CallV.pure (large (ch s i) F2) ?_
  rintro _ F3 hF3 rfl
  cases h2 : largeB (ch s i) with
  | true =>
    simp only [push_cast, ↓reduceIte, Nat.reduceEqDiff, Nat.reduceAdd, Nat.reduceMul, Nat.reduceSub, Nat.reduceLT, Nat.reduceLeDiff, reduceCtorEq, Nat.reduceMod, Int.reduceEq, Int.reduceLT, Int.reduceLE, Int.reduceToNat, dite_true, h', h0, hc, e2]
    exact go (by simp [wordB, h2]) F3 _ (by simp [subk, Eng.look]) rfl rfl rfl
  | false =>
  simp only [push_cast, ↓reduceIte, Nat.reduceEqDiff, Nat.reduceAdd, Nat.reduceMul, Nat.reduceSub, Nat.reduceLT, Nat.reduceLeDiff, reduceCtorEq, Nat.reduceMod, Int.reduceEq, Int.reduceLT, Int.reduceLE, Int.reduceToNat, dite_true, h', h0, hc]
  refine CallV.pure (digit (ch s i) F3) ?_
  rintro _ F4 hF4 rfl
  cases h3 : digitB (ch s i) with
  | true =>
    simp only [push_cast, ↓reduceIte, Nat.reduceEqDiff, Nat.reduceAdd, Nat.reduceMul, Nat.reduceSub, Nat.reduceLT, Nat.reduceLeDiff, reduceCtorEq, Nat.reduceMod, Int.reduceEq, Int.reduceLT, Int.reduceLE, Int.reduceToNat, dite_true, h', h0, hc, e2]
    exact go (by simp [wordB, h3]) F4 _ (by simp [subk, Eng.look]) rfl rfl rfl
  | false =>
  by_cases h4 : ch s i = 95
  · simp only [push_cast, ↓reduceIte, Nat.reduceEqDiff, Nat.reduceAdd, Nat.reduceMul, Nat.reduceSub, Nat.reduceLT, Nat.reduceLeDiff, reduceCtorEq, Nat.reduceMod, Int.reduceEq, Int.reduceLT, Int.reduceLE, Int.reduceToNat, dite_true, h', h0, hc, eq_true h4, e2]
    exact go (by simp [wordB, h4]) F4 _ (by simp [subk, Eng.look]) rfl rfl rfl
  · simp only [push_cast, ↓reduceIte, Nat.reduceEqDiff, Nat.reduceAdd, Nat.reduceMul, Nat.reduceSub, Nat.reduceLT, Nat.reduceLeDiff, reduceCtorEq, Nat.reduceMod, Int.reduceEq, Int.reduceLT, Int.reduceLE, Int.reduceToNat, dite_true, h', h0, hc, h4, e2]
    rw [if_neg (fun k => by have := k.2; simp [wordB, h1, h2, h3, h4] at this)] at hrun
    exact RetOk.p rfl (by rw [← hrun]; rfl)
end Go.Proofs.YtoepmdbicdoieaaDoor.X
