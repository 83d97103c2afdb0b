/- My texts B1 B2 B3 B4 B5 B6, in one. -/
import Derived.Test.YtmiekonofocboaaGreatDoorSA
/- The lexer of the definition, as a function of the text. (Written by gen/b1.py.) -/
namespace Go.Proofs.YtmiekonofocboaaGreatDoor.X
open Go Go.Eng Go.Proofs Go.Proofs.YtmiekonofocboaaGreatDoor.T Go.Proofs.YtmiekonofocboaaGreatDoor.K
set_option linter.unusedSimpArgs false
set_option linter.unusedVariables false
set_option linter.unusedSectionVars false
set_option maxRecDepth 100000
set_option maxHeartbeats 4000000
theorem each_snoc {α : Type} {R : α → List Value → Prop} : ∀ {l : List α} {xs ys : List Value} {a : α}, Each R l xs → R a ys → Each R (l ++ [a]) (xs ++ ys)
  | [], xs, ys, a, h1, h2 => by simp only [Each] at h1; subst h1; exact ⟨ys, [], by simp, h2, rfl⟩
  | b :: l, xs, ys, a, ⟨c, zs, e, h1, h3⟩, h2 => by
    subst e
    exact ⟨c, zs ++ ys, by simp, h1, each_snoc h3 h2⟩
theorem row_sle {α : Type} {R : α → List Value → Prop} {r F : PH} {t : TypeId} {sz : Nat} {v : Value} {xs : List Value} {l : List α} (hpos : 0 < sz) (hsz : ∀ a c, R a c → c.length = sz) (hr : Row r t sz v xs) (he : Each R l xs) (hl : r.le F) : SlE F sz R v l := by
  obtain ⟨m, h1, h2⟩ := hr.sl hl
  have h3 := Each.len hsz he
  rw [h1] at h3
  have hm : m = l.length := Nat.eq_of_mul_eq_mul_right hpos h3
  subst hm
  exact ⟨xs, h2, he⟩
def ch (s : ByteArray) (i : Nat) : Int := ((s.data.getD i 0).toNat : Int)
def smallB (c : Int) : Bool := decide (97 ≤ c) && decide (c ≤ 122)
def largeB (c : Int) : Bool := decide (65 ≤ c) && decide (c ≤ 90)
def digitB (c : Int) : Bool := decide (48 ≤ c) && decide (c ≤ 57)
theorem small (c : Int) (F : PH) : PFn Tryz.prog 55 [.int .u8 c] F (fun v _ => v = .bool (smallB c)) := by
  refine Fn.intro (n := 9) (ts := [2]) Tryz.func55 rfl rfl rfl rfl (by simp) fun B hB => VC.go 100 ?_
  by_cases h : c ≥ 97
  · by_cases h2 : c ≤ 122
    · simp only [push_cast, ↓reduceIte, Nat.reduceEqDiff, Nat.reduceAdd, Nat.reduceMul, Nat.reduceSub, Nat.reduceLT, Nat.reduceLeDiff, reduceCtorEq, Nat.reduceMod, Int.reduceEq, Int.reduceLT, Int.reduceLE, Int.reduceToNat, dite_true, eq_true h, eq_true h2]; rw [show smallB c = true from by simp [smallB]; omega]; exact RetOk.p rfl rfl
    · simp only [push_cast, ↓reduceIte, Nat.reduceEqDiff, Nat.reduceAdd, Nat.reduceMul, Nat.reduceSub, Nat.reduceLT, Nat.reduceLeDiff, reduceCtorEq, Nat.reduceMod, Int.reduceEq, Int.reduceLT, Int.reduceLE, Int.reduceToNat, dite_true, eq_true h, h2]; rw [show smallB c = false from by simp [smallB]; omega]; exact RetOk.p rfl rfl
  · simp only [push_cast, ↓reduceIte, Nat.reduceEqDiff, Nat.reduceAdd, Nat.reduceMul, Nat.reduceSub, Nat.reduceLT, Nat.reduceLeDiff, reduceCtorEq, Nat.reduceMod, Int.reduceEq, Int.reduceLT, Int.reduceLE, Int.reduceToNat, dite_true, h]; rw [show smallB c = false from by simp [smallB]; omega]; exact RetOk.p rfl rfl
theorem large (c : Int) (F : PH) : PFn Tryz.prog 57 [.int .u8 c] F (fun v _ => v = .bool (largeB c)) := by
  refine Fn.intro (n := 9) (ts := [2]) Tryz.func57 rfl rfl rfl rfl (by simp) fun B hB => VC.go 100 ?_
  by_cases h : c ≥ 65
  · by_cases h2 : c ≤ 90
    · simp only [push_cast, ↓reduceIte, Nat.reduceEqDiff, Nat.reduceAdd, Nat.reduceMul, Nat.reduceSub, Nat.reduceLT, Nat.reduceLeDiff, reduceCtorEq, Nat.reduceMod, Int.reduceEq, Int.reduceLT, Int.reduceLE, Int.reduceToNat, dite_true, eq_true h, eq_true h2]; rw [show largeB c = true from by simp [largeB]; omega]; exact RetOk.p rfl rfl
    · simp only [push_cast, ↓reduceIte, Nat.reduceEqDiff, Nat.reduceAdd, Nat.reduceMul, Nat.reduceSub, Nat.reduceLT, Nat.reduceLeDiff, reduceCtorEq, Nat.reduceMod, Int.reduceEq, Int.reduceLT, Int.reduceLE, Int.reduceToNat, dite_true, eq_true h, h2]; rw [show largeB c = false from by simp [largeB]; omega]; exact RetOk.p rfl rfl
  · simp only [push_cast, ↓reduceIte, Nat.reduceEqDiff, Nat.reduceAdd, Nat.reduceMul, Nat.reduceSub, Nat.reduceLT, Nat.reduceLeDiff, reduceCtorEq, Nat.reduceMod, Int.reduceEq, Int.reduceLT, Int.reduceLE, Int.reduceToNat, dite_true, h]; rw [show largeB c = false from by simp [largeB]; omega]; exact RetOk.p rfl rfl
theorem digit (c : Int) (F : PH) : PFn Tryz.prog 58 [.int .u8 c] F (fun v _ => v = .bool (digitB c)) := by
  refine Fn.intro (n := 9) (ts := [2]) Tryz.func58 rfl rfl rfl rfl (by simp) fun B hB => VC.go 100 ?_
  by_cases h : c ≥ 48
  · by_cases h2 : c ≤ 57
    · simp only [push_cast, ↓reduceIte, Nat.reduceEqDiff, Nat.reduceAdd, Nat.reduceMul, Nat.reduceSub, Nat.reduceLT, Nat.reduceLeDiff, reduceCtorEq, Nat.reduceMod, Int.reduceEq, Int.reduceLT, Int.reduceLE, Int.reduceToNat, dite_true, eq_true h, eq_true h2]; rw [show digitB c = true from by simp [digitB]; omega]; exact RetOk.p rfl rfl
    · simp only [push_cast, ↓reduceIte, Nat.reduceEqDiff, Nat.reduceAdd, Nat.reduceMul, Nat.reduceSub, Nat.reduceLT, Nat.reduceLeDiff, reduceCtorEq, Nat.reduceMod, Int.reduceEq, Int.reduceLT, Int.reduceLE, Int.reduceToNat, dite_true, eq_true h, h2]; rw [show digitB c = false from by simp [digitB]; omega]; exact RetOk.p rfl rfl
  · simp only [push_cast, ↓reduceIte, Nat.reduceEqDiff, Nat.reduceAdd, Nat.reduceMul, Nat.reduceSub, Nat.reduceLT, Nat.reduceLeDiff, reduceCtorEq, Nat.reduceMod, Int.reduceEq, Int.reduceLT, Int.reduceLE, Int.reduceToNat, dite_true, h]; rw [show digitB c = false from by simp [digitB]; omega]; exact RetOk.p rfl rfl
def blankB (c : Int) : Bool := decide (c = 9) || decide (c = 10) || decide (c = 13) || decide (c = 32)
theorem blank (c : Int) (F : PH) : PFn Tryz.prog 74 [.int .u8 c] F (fun v _ => v = .bool (blankB c)) := by
  refine Fn.intro (n := 17) (ts := [2]) Tryz.func74 rfl rfl rfl rfl (by simp) fun B hB => VC.go 100 ?_
  by_cases h1 : c = 9
  · simp only [push_cast, ↓reduceIte, Nat.reduceEqDiff, Nat.reduceAdd, Nat.reduceMul, Nat.reduceSub, Nat.reduceLT, Nat.reduceLeDiff, reduceCtorEq, Nat.reduceMod, Int.reduceEq, Int.reduceLT, Int.reduceLE, Int.reduceToNat, dite_true, eq_true h1]; exact RetOk.p rfl (by simp [blankB, h1, rval])
  by_cases h2 : c = 10
  · simp only [push_cast, ↓reduceIte, Nat.reduceEqDiff, Nat.reduceAdd, Nat.reduceMul, Nat.reduceSub, Nat.reduceLT, Nat.reduceLeDiff, reduceCtorEq, Nat.reduceMod, Int.reduceEq, Int.reduceLT, Int.reduceLE, Int.reduceToNat, dite_true, h1, eq_true h2]; exact RetOk.p rfl (by simp [blankB, h2, rval])
  by_cases h3 : c = 13
  · simp only [push_cast, ↓reduceIte, Nat.reduceEqDiff, Nat.reduceAdd, Nat.reduceMul, Nat.reduceSub, Nat.reduceLT, Nat.reduceLeDiff, reduceCtorEq, Nat.reduceMod, Int.reduceEq, Int.reduceLT, Int.reduceLE, Int.reduceToNat, dite_true, h1, h2, eq_true h3]; exact RetOk.p rfl (by simp [blankB, h3, rval])
  · simp only [push_cast, ↓reduceIte, Nat.reduceEqDiff, Nat.reduceAdd, Nat.reduceMul, Nat.reduceSub, Nat.reduceLT, Nat.reduceLeDiff, reduceCtorEq, Nat.reduceMod, Int.reduceEq, Int.reduceLT, Int.reduceLE, Int.reduceToNat, dite_true, h1, h2, h3]; exact RetOk.p rfl (by simp [blankB, h1, h2, h3, rval])
def reservedL : List ByteArray := [⟨#[108, 101, 116]⟩, ⟨#[105, 110]⟩, ⟨#[99, 97, 115, 101]⟩, ⟨#[111, 102]⟩, ⟨#[100, 97, 116, 97]⟩]
def reservedB (s : ByteArray) : Bool := reservedL.any fun x => decide (s = x)
theorem reserved (s : ByteArray) (F : PH) : PFn Tryz.prog 56 [.string s] F (fun v _ => v = .bool (reservedB s)) := by
  refine Fn.intro (n := 21) (ts := [2]) Tryz.func56 rfl rfl rfl rfl (by simp) fun B hB => VC.go 100 ?_
  by_cases h1 : s = ⟨#[108, 101, 116]⟩
  · simp only [push_cast, ↓reduceIte, Nat.reduceEqDiff, Nat.reduceAdd, Nat.reduceMul, Nat.reduceSub, Nat.reduceLT, Nat.reduceLeDiff, reduceCtorEq, Nat.reduceMod, Int.reduceEq, Int.reduceLT, Int.reduceLE, Int.reduceToNat, dite_true, eq_true h1]; exact RetOk.p rfl (by simp [reservedB, reservedL, h1, rval])
  by_cases h2 : s = ⟨#[105, 110]⟩
  · simp only [push_cast, ↓reduceIte, Nat.reduceEqDiff, Nat.reduceAdd, Nat.reduceMul, Nat.reduceSub, Nat.reduceLT, Nat.reduceLeDiff, reduceCtorEq, Nat.reduceMod, Int.reduceEq, Int.reduceLT, Int.reduceLE, Int.reduceToNat, dite_true, h1, eq_true h2]; exact RetOk.p rfl (by simp [reservedB, reservedL, h2, rval])
  by_cases h3 : s = ⟨#[99, 97, 115, 101]⟩
  · simp only [push_cast, ↓reduceIte, Nat.reduceEqDiff, Nat.reduceAdd, Nat.reduceMul, Nat.reduceSub, Nat.reduceLT, Nat.reduceLeDiff, reduceCtorEq, Nat.reduceMod, Int.reduceEq, Int.reduceLT, Int.reduceLE, Int.reduceToNat, dite_true, h1, h2, eq_true h3]; exact RetOk.p rfl (by simp [reservedB, reservedL, h3, rval])
  by_cases h4 : s = ⟨#[111, 102]⟩
  · simp only [push_cast, ↓reduceIte, Nat.reduceEqDiff, Nat.reduceAdd, Nat.reduceMul, Nat.reduceSub, Nat.reduceLT, Nat.reduceLeDiff, reduceCtorEq, Nat.reduceMod, Int.reduceEq, Int.reduceLT, Int.reduceLE, Int.reduceToNat, dite_true, h1, h2, h3, eq_true h4]; exact RetOk.p rfl (by simp [reservedB, reservedL, h4, rval])
  by_cases h5 : s = ⟨#[100, 97, 116, 97]⟩
  · simp only [push_cast, ↓reduceIte, Nat.reduceEqDiff, Nat.reduceAdd, Nat.reduceMul, Nat.reduceSub, Nat.reduceLT, Nat.reduceLeDiff, reduceCtorEq, Nat.reduceMod, Int.reduceEq, Int.reduceLT, Int.reduceLE, Int.reduceToNat, dite_true, h1, h2, h3, h4, eq_true h5]; exact RetOk.p rfl (by simp [reservedB, reservedL, h5, rval])
  · simp only [push_cast, ↓reduceIte, Nat.reduceEqDiff, Nat.reduceAdd, Nat.reduceMul, Nat.reduceSub, Nat.reduceLT, Nat.reduceLeDiff, reduceCtorEq, Nat.reduceMod, Int.reduceEq, Int.reduceLT, Int.reduceLE, Int.reduceToNat, dite_true, h1, h2, h3, h4, h5]; exact RetOk.p rfl (by simp [reservedB, reservedL, h1, h2, h3, h4, h5, rval])
def signL : List ByteArray := [⟨#[45, 62]⟩, ⟨#[61]⟩, ⟨#[92]⟩, ⟨#[123]⟩, ⟨#[125]⟩, ⟨#[59]⟩, ⟨#[40]⟩, ⟨#[41]⟩]
def signB (s : ByteArray) : Bool := signL.any fun x => decide (s = x)
theorem sign (s : ByteArray) (F : PH) : PFn Tryz.prog 60 [.string s] F (fun v _ => v = .bool (signB s)) := by
  refine Fn.intro (n := 33) (ts := [2]) Tryz.func60 rfl rfl rfl rfl (by simp) fun B hB => VC.go 100 ?_
  by_cases h1 : s = ⟨#[45, 62]⟩
  · simp only [push_cast, ↓reduceIte, Nat.reduceEqDiff, Nat.reduceAdd, Nat.reduceMul, Nat.reduceSub, Nat.reduceLT, Nat.reduceLeDiff, reduceCtorEq, Nat.reduceMod, Int.reduceEq, Int.reduceLT, Int.reduceLE, Int.reduceToNat, dite_true, eq_true h1]; exact RetOk.p rfl (by simp [signB, signL, h1, rval])
  by_cases h2 : s = ⟨#[61]⟩
  · simp only [push_cast, ↓reduceIte, Nat.reduceEqDiff, Nat.reduceAdd, Nat.reduceMul, Nat.reduceSub, Nat.reduceLT, Nat.reduceLeDiff, reduceCtorEq, Nat.reduceMod, Int.reduceEq, Int.reduceLT, Int.reduceLE, Int.reduceToNat, dite_true, h1, eq_true h2]; exact RetOk.p rfl (by simp [signB, signL, h2, rval])
  by_cases h3 : s = ⟨#[92]⟩
  · simp only [push_cast, ↓reduceIte, Nat.reduceEqDiff, Nat.reduceAdd, Nat.reduceMul, Nat.reduceSub, Nat.reduceLT, Nat.reduceLeDiff, reduceCtorEq, Nat.reduceMod, Int.reduceEq, Int.reduceLT, Int.reduceLE, Int.reduceToNat, dite_true, h1, h2, eq_true h3]; exact RetOk.p rfl (by simp [signB, signL, h3, rval])
  by_cases h4 : s = ⟨#[123]⟩
  · simp only [push_cast, ↓reduceIte, Nat.reduceEqDiff, Nat.reduceAdd, Nat.reduceMul, Nat.reduceSub, Nat.reduceLT, Nat.reduceLeDiff, reduceCtorEq, Nat.reduceMod, Int.reduceEq, Int.reduceLT, Int.reduceLE, Int.reduceToNat, dite_true, h1, h2, h3, eq_true h4]; exact RetOk.p rfl (by simp [signB, signL, h4, rval])
  by_cases h5 : s = ⟨#[125]⟩
  · simp only [push_cast, ↓reduceIte, Nat.reduceEqDiff, Nat.reduceAdd, Nat.reduceMul, Nat.reduceSub, Nat.reduceLT, Nat.reduceLeDiff, reduceCtorEq, Nat.reduceMod, Int.reduceEq, Int.reduceLT, Int.reduceLE, Int.reduceToNat, dite_true, h1, h2, h3, h4, eq_true h5]; exact RetOk.p rfl (by simp [signB, signL, h5, rval])
  by_cases h6 : s = ⟨#[59]⟩
  · simp only [push_cast, ↓reduceIte, Nat.reduceEqDiff, Nat.reduceAdd, Nat.reduceMul, Nat.reduceSub, Nat.reduceLT, Nat.reduceLeDiff, reduceCtorEq, Nat.reduceMod, Int.reduceEq, Int.reduceLT, Int.reduceLE, Int.reduceToNat, dite_true, h1, h2, h3, h4, h5, eq_true h6]; exact RetOk.p rfl (by simp [signB, signL, h6, rval])
  by_cases h7 : s = ⟨#[40]⟩
  · simp only [push_cast, ↓reduceIte, Nat.reduceEqDiff, Nat.reduceAdd, Nat.reduceMul, Nat.reduceSub, Nat.reduceLT, Nat.reduceLeDiff, reduceCtorEq, Nat.reduceMod, Int.reduceEq, Int.reduceLT, Int.reduceLE, Int.reduceToNat, dite_true, h1, h2, h3, h4, h5, h6, eq_true h7]; exact RetOk.p rfl (by simp [signB, signL, h7, rval])
  by_cases h8 : s = ⟨#[41]⟩
  · simp only [push_cast, ↓reduceIte, Nat.reduceEqDiff, Nat.reduceAdd, Nat.reduceMul, Nat.reduceSub, Nat.reduceLT, Nat.reduceLeDiff, reduceCtorEq, Nat.reduceMod, Int.reduceEq, Int.reduceLT, Int.reduceLE, Int.reduceToNat, dite_true, h1, h2, h3, h4, h5, h6, h7, eq_true h8]; exact RetOk.p rfl (by simp [signB, signL, h8, rval])
  · simp only [push_cast, ↓reduceIte, Nat.reduceEqDiff, Nat.reduceAdd, Nat.reduceMul, Nat.reduceSub, Nat.reduceLT, Nat.reduceLeDiff, reduceCtorEq, Nat.reduceMod, Int.reduceEq, Int.reduceLT, Int.reduceLE, Int.reduceToNat, dite_true, h1, h2, h3, h4, h5, h6, h7, h8]; exact RetOk.p rfl (by simp [signB, signL, h1, h2, h3, h4, h5, h6, h7, h8, rval])
theorem small_max {n : Nat} (h : n ≤ 16384) : n ≤ maxLen := Nat.le_trans h (by decide)
def wordB (c : Int) : Bool := smallB c || largeB c || digitB c || decide (c = 95)
/-- The place behind the run from a place. -/
def runP (s : ByteArray) : Nat → Nat → Nat
  | 0, i => i
  | n + 1, i => if i < s.size ∧ wordB (ch s i) = true then runP s n (i + 1) else i
def runE (s : ByteArray) (i : Nat) : Nat := runP s (s.size - i) i
theorem runE_eq (s : ByteArray) (i : Nat) : runE s i = if i < s.size ∧ wordB (ch s i) = true then runE s (i + 1) else i := by
  unfold runE
  by_cases h : i < s.size
  · obtain ⟨n, hn⟩ : ∃ n, s.size - i = n + 1 := ⟨s.size - i - 1, by omega⟩
    rw [hn, show s.size - (i + 1) = n by omega]
    rfl
  · rw [show s.size - i = 0 by omega, if_neg (fun k => h k.1)]
    rfl
theorem runP_le (s : ByteArray) : ∀ n i, i ≤ s.size → i ≤ runP s n i ∧ runP s n i ≤ s.size
  | 0, i, h => ⟨Nat.le_refl _, h⟩
  | n + 1, i, h => by
    simp only [runP]
    split
    · rename_i k
      have := runP_le s n (i + 1) (by omega)
      omega
    · exact ⟨Nat.le_refl _, h⟩
theorem runE_le (s : ByteArray) {i : Nat} (h : i ≤ s.size) : i ≤ runE s i ∧ runE s i ≤ s.size := runP_le s _ i h
theorem runE_lt (s : ByteArray) {i : Nat} (h : i < s.size) (hw : wordB (ch s i) = true) : i < runE s i := by
  rw [runE_eq, if_pos ⟨h, hw⟩]
  have := (runE_le s (i := i + 1) h).1
  omega
theorem run (s : ByteArray) (a : Nat) (ha : a ≤ s.size) (hs : s.size ≤ 16384) (F : PH) : PFn Tryz.prog 54 [.string s, .int .i64 a] F (fun v _ => v = .int .i64 (runE s a)) := by
  refine Fn.intro (n := 36) (ts := [4]) Tryz.func54 rfl rfl rfl rfl (by simp) fun B hB => VC.go 100 ?_
  simp only [push_cast, ↓reduceIte, Nat.reduceEqDiff, Nat.reduceAdd, Nat.reduceMul, Nat.reduceSub, Nat.reduceLT, Nat.reduceLeDiff, reduceCtorEq, Nat.reduceMod, Int.reduceEq, Int.reduceLT, Int.reduceLE, Int.reduceToNat, dite_true]
  refine VC.loopF (ι := Nat × PH) (fun i => [(1, .v (.int .i64 i.1)), (0, .v (.string s))]) (fun i => i.2) (fun i => i.1 ≤ s.size ∧ runE s i.1 = runE s a) (fun i => s.size - i.1) (a, F) ⟨ha, rfl⟩ (by simp [subk, Eng.look]) rfl ?_
  rintro ⟨i, F1⟩ ⟨hi2, hrun⟩ G hG
  dsimp only at hi2 hrun hG ⊢
  rw [runE_eq] at hrun
  refine VC.go 100 ?_
  by_cases h : i < s.size
  case neg =>
    have h' : ¬ (i : Int) < (s.size : Int) := by omega
    rw [if_neg (fun k => h k.1)] at hrun
    simp only [push_cast, ↓reduceIte, Nat.reduceEqDiff, Nat.reduceAdd, Nat.reduceMul, Nat.reduceSub, Nat.reduceLT, Nat.reduceLeDiff, reduceCtorEq, Nat.reduceMod, Int.reduceEq, Int.reduceLT, Int.reduceLE, Int.reduceToNat, dite_true, h']
    exact RetOk.p rfl (by rw [← hrun]; rfl)
  have h' : (i : Int) < (s.size : Int) := by omega
  have h0 : (0 : Int) ≤ (i : Int) := by omega
  have e2 : IntKind.i64.wrap ((i : Int) + 1) = ((i + 1 : Nat) : Int) := wadd i h (small_max hs)
  have hc : ((s.data.getD i 0).toNat : Int) = ch s i := rfl
  have go : wordB (ch s i) = true → ∀ (F2 : PH) S', subk S'.L [(1, .v (.int .i64 (i + 1 : Nat))), (0, .v (.string s))] → S'.M = [] → S'.F = F2 → S'.R = [] → G S' := fun hw F2 S' k1 k2 k3 k4 => hG (i + 1, F2) S' ⟨by omega, by rw [if_pos ⟨h, hw⟩] at hrun; exact hrun⟩ (by simp; omega) k1 (by rw [k2]; exact List.Sublist.refl _) k3 k4
  simp only [push_cast, ↓reduceIte, Nat.reduceEqDiff, Nat.reduceAdd, Nat.reduceMul, Nat.reduceSub, Nat.reduceLT, Nat.reduceLeDiff, reduceCtorEq, Nat.reduceMod, Int.reduceEq, Int.reduceLT, Int.reduceLE, Int.reduceToNat, dite_true, h', h0, hc]
  refine CallV.pure (small (ch s i) F1) ?_
  rintro _ F2 hF2 rfl
  cases h1 : smallB (ch s i) with
  | true =>
    simp only [push_cast, ↓reduceIte, Nat.reduceEqDiff, Nat.reduceAdd, Nat.reduceMul, Nat.reduceSub, Nat.reduceLT, Nat.reduceLeDiff, reduceCtorEq, Nat.reduceMod, Int.reduceEq, Int.reduceLT, Int.reduceLE, Int.reduceToNat, dite_true, h', h0, hc, e2]
    exact go (by simp [wordB, h1]) F2 _ (by simp [subk, Eng.look]) rfl rfl rfl
  | false =>
  simp only [push_cast, ↓reduceIte, Nat.reduceEqDiff, Nat.reduceAdd, Nat.reduceMul, Nat.reduceSub, Nat.reduceLT, Nat.reduceLeDiff, reduceCtorEq, Nat.reduceMod, Int.reduceEq, Int.reduceLT, Int.reduceLE, Int.reduceToNat, dite_true, h', h0, hc]
  refine CallV.pure (large (ch s i) F2) ?_
  rintro _ F3 hF3 rfl
  cases h2 : largeB (ch s i) with
  | true =>
    simp only [push_cast, ↓reduceIte, Nat.reduceEqDiff, Nat.reduceAdd, Nat.reduceMul, Nat.reduceSub, Nat.reduceLT, Nat.reduceLeDiff, reduceCtorEq, Nat.reduceMod, Int.reduceEq, Int.reduceLT, Int.reduceLE, Int.reduceToNat, dite_true, h', h0, hc, e2]
    exact go (by simp [wordB, h2]) F3 _ (by simp [subk, Eng.look]) rfl rfl rfl
  | false =>
  simp only [push_cast, ↓reduceIte, Nat.reduceEqDiff, Nat.reduceAdd, Nat.reduceMul, Nat.reduceSub, Nat.reduceLT, Nat.reduceLeDiff, reduceCtorEq, Nat.reduceMod, Int.reduceEq, Int.reduceLT, Int.reduceLE, Int.reduceToNat, dite_true, h', h0, hc]
  refine CallV.pure (digit (ch s i) F3) ?_
  rintro _ F4 hF4 rfl
  cases h3 : digitB (ch s i) with
  | true =>
    simp only [push_cast, ↓reduceIte, Nat.reduceEqDiff, Nat.reduceAdd, Nat.reduceMul, Nat.reduceSub, Nat.reduceLT, Nat.reduceLeDiff, reduceCtorEq, Nat.reduceMod, Int.reduceEq, Int.reduceLT, Int.reduceLE, Int.reduceToNat, dite_true, h', h0, hc, e2]
    exact go (by simp [wordB, h3]) F4 _ (by simp [subk, Eng.look]) rfl rfl rfl
  | false =>
  by_cases h4 : ch s i = 95
  · simp only [push_cast, ↓reduceIte, Nat.reduceEqDiff, Nat.reduceAdd, Nat.reduceMul, Nat.reduceSub, Nat.reduceLT, Nat.reduceLeDiff, reduceCtorEq, Nat.reduceMod, Int.reduceEq, Int.reduceLT, Int.reduceLE, Int.reduceToNat, dite_true, h', h0, hc, eq_true h4, e2]
    exact go (by simp [wordB, h4]) F4 _ (by simp [subk, Eng.look]) rfl rfl rfl
  · simp only [push_cast, ↓reduceIte, Nat.reduceEqDiff, Nat.reduceAdd, Nat.reduceMul, Nat.reduceSub, Nat.reduceLT, Nat.reduceLeDiff, reduceCtorEq, Nat.reduceMod, Int.reduceEq, Int.reduceLT, Int.reduceLE, Int.reduceToNat, dite_true, h', h0, hc, h4, e2]
    rw [if_neg (fun k => by have := k.2; simp [wordB, h1, h2, h3, h4] at this)] at hrun
    exact RetOk.p rfl (by rw [← hrun]; rfl)
end Go.Proofs.YtmiekonofocboaaGreatDoor.X

/- The lexer of the definition, as a function of the text: blanks. (Written by gen/b1.py.) -/
namespace Go.Proofs.YtmiekonofocboaaGreatDoor.X
open Go Go.Eng Go.Proofs Go.Proofs.YtmiekonofocboaaGreatDoor.T Go.Proofs.YtmiekonofocboaaGreatDoor.K
set_option linter.unusedSimpArgs false
set_option linter.unusedVariables false
set_option linter.unusedSectionVars false
set_option maxRecDepth 100000
set_option maxHeartbeats 4000000
/-- The end of a line. -/
def lineP (s : ByteArray) : Nat → Nat → Nat
  | 0, k => k
  | n + 1, k => if k < s.size ∧ ¬ ch s k = 10 then lineP s n (k + 1) else k
def lineE (s : ByteArray) (k : Nat) : Nat := lineP s (s.size - k) k
theorem lineE_eq (s : ByteArray) (i : Nat) : lineE s i = if i < s.size ∧ ¬ ch s i = 10 then lineE s (i + 1) else i := by
  unfold lineE
  by_cases h : i < s.size
  · obtain ⟨n, hn⟩ : ∃ n, s.size - i = n + 1 := ⟨s.size - i - 1, by omega⟩
    rw [hn, show s.size - (i + 1) = n by omega]
    rfl
  · rw [show s.size - i = 0 by omega, if_neg (fun k => h k.1)]
    rfl
theorem lineP_le (s : ByteArray) : ∀ n i, i ≤ s.size → i ≤ lineP s n i ∧ lineP s n i ≤ s.size
  | 0, i, h => ⟨Nat.le_refl _, h⟩
  | n + 1, i, h => by
    simp only [lineP]
    split
    · rename_i k
      have := lineP_le s n (i + 1) (by omega)
      omega
    · exact ⟨Nat.le_refl _, h⟩
theorem lineE_le (s : ByteArray) {i : Nat} (h : i ≤ s.size) : i ≤ lineE s i ∧ lineE s i ≤ s.size := lineP_le s _ i h
theorem lineE_lt (s : ByteArray) {i : Nat} (h : i < s.size) (hw : ch s i = 45) : i < lineE s i := by
  rw [lineE_eq, if_pos ⟨h, by rw [hw]; decide⟩]
  have := (lineE_le s (i := i + 1) h).1
  omega
def dashB (s : ByteArray) (i : Nat) : Prop := ch s i = 45 ∧ i + 1 < s.size ∧ ch s (i + 1) = 45
instance (s : ByteArray) (i : Nat) : Decidable (dashB s i) := by unfold dashB; exact inferInstance
def skipP (s : ByteArray) : Nat → Nat → Nat
  | 0, i => i
  | n + 1, i => if i < s.size then if blankB (ch s i) = true then skipP s n (i + 1) else if dashB s i then skipP s n (lineE s i) else i else i
/-- The place behind blanks and remarks. -/
def skipE (s : ByteArray) (i : Nat) : Nat := skipP s (s.size - i) i
theorem skipP_any (s : ByteArray) : ∀ n m i, s.size - i ≤ n → s.size - i ≤ m → skipP s n i = skipP s m i
  | 0, 0, i, _, _ => rfl
  | 0, m + 1, i, h, _ => by simp only [skipP]; rw [if_neg (by omega)]
  | n + 1, 0, i, _, h => by simp only [skipP]; rw [if_neg (by omega)]
  | n + 1, m + 1, i, h1, h2 => by
    simp only [skipP]
    by_cases h : i < s.size
    · rw [if_pos h, if_pos h]
      by_cases hb : blankB (ch s i) = true
      · rw [if_pos hb, if_pos hb]; exact skipP_any s n m (i + 1) (by omega) (by omega)
      rw [if_neg hb, if_neg hb]
      by_cases hd : dashB s i
      · rw [if_pos hd, if_pos hd]
        have := lineE_lt s h hd.1
        exact skipP_any s n m _ (by omega) (by omega)
      · rw [if_neg hd, if_neg hd]
    · rw [if_neg h, if_neg h]
theorem skipE_eq (s : ByteArray) (i : Nat) : skipE s i = if i < s.size then if blankB (ch s i) = true then skipE s (i + 1) else if dashB s i then skipE s (lineE s i) else i else i := by
  unfold skipE
  by_cases h : i < s.size
  · obtain ⟨n, hn⟩ : ∃ n, s.size - i = n + 1 := ⟨s.size - i - 1, by omega⟩
    rw [hn, if_pos h]
    simp only [skipP]
    rw [if_pos h]
    split
    · exact skipP_any s _ _ _ (by omega) (by omega)
    · split
      · rename_i hd
        have := lineE_lt s h hd.1
        exact skipP_any s _ _ _ (by omega) (by omega)
      · rfl
  · rw [show s.size - i = 0 by omega, if_neg h]
    rfl
theorem skipP_le (s : ByteArray) : ∀ n i, i ≤ s.size → i ≤ skipP s n i ∧ skipP s n i ≤ s.size
  | 0, i, h => ⟨Nat.le_refl _, h⟩
  | n + 1, i, h => by
    simp only [skipP]
    split
    · rename_i k
      split
      · have := skipP_le s n (i + 1) (by omega)
        omega
      · split
        · have h1 := lineE_le s h
          have := skipP_le s n (lineE s i) h1.2
          omega
        · exact ⟨Nat.le_refl _, h⟩
    · exact ⟨Nat.le_refl _, h⟩
theorem skipE_le (s : ByteArray) {i : Nat} (h : i ≤ s.size) : i ≤ skipE s i ∧ skipE s i ≤ s.size := skipP_le s _ i h
theorem skip (s : ByteArray) (a : Nat) (ha : a ≤ s.size) (hs : s.size ≤ 16384) (F : PH) : PFn Tryz.prog 53 [.string s, .int .i64 a] F (fun v _ => v = .int .i64 (skipE s a)) := by
  refine Fn.intro (n := 47) (ts := [4]) Tryz.func53 rfl rfl rfl rfl (by simp) fun B hB => VC.go 100 ?_
  simp only [push_cast, ↓reduceIte, Nat.reduceEqDiff, Nat.reduceAdd, Nat.reduceMul, Nat.reduceSub, Nat.reduceLT, Nat.reduceLeDiff, reduceCtorEq, Nat.reduceMod, Int.reduceEq, Int.reduceLT, Int.reduceLE, Int.reduceToNat, dite_true]
  refine VC.loopF (ι := Nat × PH) (fun i => [(1, .v (.int .i64 i.1)), (0, .v (.string s))]) (fun i => i.2) (fun i => i.1 ≤ s.size ∧ skipE s i.1 = skipE s a) (fun i => s.size - i.1) (a, F) ⟨ha, rfl⟩ (by simp [subk, Eng.look]) rfl ?_
  rintro ⟨i, F1⟩ ⟨hi2, hsk⟩ G hG
  dsimp only at hi2 hsk hG ⊢
  rw [skipE_eq] at hsk
  refine VC.go 100 ?_
  by_cases h : i < s.size
  case neg =>
    have h' : ¬ (i : Int) < (s.size : Int) := by omega
    rw [if_neg h] at hsk
    simp only [push_cast, ↓reduceIte, Nat.reduceEqDiff, Nat.reduceAdd, Nat.reduceMul, Nat.reduceSub, Nat.reduceLT, Nat.reduceLeDiff, reduceCtorEq, Nat.reduceMod, Int.reduceEq, Int.reduceLT, Int.reduceLE, Int.reduceToNat, dite_true, h']
    exact RetOk.p rfl (by rw [← hsk]; rfl)
  rw [if_pos h] at hsk
  have h' : (i : Int) < (s.size : Int) := by omega
  have h0 : (0 : Int) ≤ (i : Int) := by omega
  have e2 : IntKind.i64.wrap ((i : Int) + 1) = ((i + 1 : Nat) : Int) := wadd i h (small_max hs)
  have hc : ((s.data.getD i 0).toNat : Int) = ch s i := rfl
  simp only [push_cast, ↓reduceIte, Nat.reduceEqDiff, Nat.reduceAdd, Nat.reduceMul, Nat.reduceSub, Nat.reduceLT, Nat.reduceLeDiff, reduceCtorEq, Nat.reduceMod, Int.reduceEq, Int.reduceLT, Int.reduceLE, Int.reduceToNat, dite_true, h', h0, hc]
  refine CallV.pure (blank (ch s i) F1) ?_
  rintro _ F2 hF2 rfl
  cases hbl : blankB (ch s i) with
  | true =>
    rw [if_pos hbl] at hsk
    simp only [push_cast, ↓reduceIte, Nat.reduceEqDiff, Nat.reduceAdd, Nat.reduceMul, Nat.reduceSub, Nat.reduceLT, Nat.reduceLeDiff, reduceCtorEq, Nat.reduceMod, Int.reduceEq, Int.reduceLT, Int.reduceLE, Int.reduceToNat, dite_true, h', h0, hc, e2]
    exact hG (i + 1, F2) _ ⟨by omega, hsk⟩ (by simp; omega) (by simp [subk, Eng.look]) (List.Sublist.refl _) rfl rfl
  | false =>
  rw [if_neg (by rw [hbl]; decide)] at hsk
  by_cases g1 : ch s i = 45
  case neg =>
    rw [if_neg (fun k => g1 k.1)] at hsk
    simp only [push_cast, ↓reduceIte, Nat.reduceEqDiff, Nat.reduceAdd, Nat.reduceMul, Nat.reduceSub, Nat.reduceLT, Nat.reduceLeDiff, reduceCtorEq, Nat.reduceMod, Int.reduceEq, Int.reduceLT, Int.reduceLE, Int.reduceToNat, dite_true, h', h0, hc, g1]
    exact RetOk.p rfl (by rw [← hsk]; rfl)
  have e4 : IntKind.i64.wrap ((i : Int) + 1) = (i : Int) + 1 := by rw [e2]; rfl
  by_cases g2 : i + 1 < s.size
  case neg =>
    have g2' : ¬ (i : Int) + 1 < (s.size : Int) := by omega
    rw [if_neg (fun k => g2 k.2.1)] at hsk
    simp only [push_cast, ↓reduceIte, Nat.reduceEqDiff, Nat.reduceAdd, Nat.reduceMul, Nat.reduceSub, Nat.reduceLT, Nat.reduceLeDiff, reduceCtorEq, Nat.reduceMod, Int.reduceEq, Int.reduceLT, Int.reduceLE, Int.reduceToNat, dite_true, h', h0, hc, eq_true g1, e4, g2']
    exact RetOk.p rfl (by rw [← hsk]; rfl)
  have g2' : (i : Int) + 1 < (s.size : Int) := by omega
  have h01 : (0 : Int) ≤ (i : Int) + 1 := by omega
  have ht : ((i : Int) + 1).toNat = i + 1 := by omega
  have hc1 : ((s.data.getD (i + 1) 0).toNat : Int) = ch s (i + 1) := rfl
  by_cases g3 : ch s (i + 1) = 45
  case neg =>
    rw [if_neg (fun k => g3 k.2.2)] at hsk
    simp only [push_cast, ↓reduceIte, Nat.reduceEqDiff, Nat.reduceAdd, Nat.reduceMul, Nat.reduceSub, Nat.reduceLT, Nat.reduceLeDiff, reduceCtorEq, Nat.reduceMod, Int.reduceEq, Int.reduceLT, Int.reduceLE, Int.reduceToNat, dite_true, h', h0, hc, eq_true g1, e4, g2', h01, ht, hc1, g3]
    exact RetOk.p rfl (by rw [← hsk]; rfl)
  rw [if_pos ⟨g1, g2, g3⟩] at hsk
  have hlt := lineE_lt s h g1
  have hle := (lineE_le s hi2).2
  simp only [push_cast, ↓reduceIte, Nat.reduceEqDiff, Nat.reduceAdd, Nat.reduceMul, Nat.reduceSub, Nat.reduceLT, Nat.reduceLeDiff, reduceCtorEq, Nat.reduceMod, Int.reduceEq, Int.reduceLT, Int.reduceLE, Int.reduceToNat, dite_true, h', h0, hc, eq_true g1, e4, g2', h01, ht, hc1, eq_true g3]
  refine VC.loopF (ι := Nat × PH) (fun i => [(1, .v (.int .i64 i.1)), (0, .v (.string s))]) (fun i => i.2) (fun k => k.1 ≤ s.size ∧ lineE s k.1 = lineE s i) (fun i => s.size - i.1) (i, F2) ⟨hi2, rfl⟩ (by simp [subk, Eng.look]) rfl ?_
  rintro ⟨k, F3⟩ ⟨hk2, hline⟩ G1 hG1
  dsimp only at hk2 hline hG1 ⊢
  rw [lineE_eq] at hline
  refine VC.go 100 ?_
  by_cases p : k < s.size
  case neg =>
    have p' : ¬ (k : Int) < (s.size : Int) := by omega
    rw [if_neg (fun z => p z.1)] at hline
    simp only [push_cast, ↓reduceIte, Nat.reduceEqDiff, Nat.reduceAdd, Nat.reduceMul, Nat.reduceSub, Nat.reduceLT, Nat.reduceLeDiff, reduceCtorEq, Nat.reduceMod, Int.reduceEq, Int.reduceLT, Int.reduceLE, Int.reduceToNat, dite_true, p']
    exact hG (k, F3) _ ⟨by omega, by dsimp only; rw [hline]; exact hsk⟩ (by simp; omega) (by simp [subk, Eng.look]) (List.Sublist.refl _) rfl rfl
  have p' : (k : Int) < (s.size : Int) := by omega
  have p0 : (0 : Int) ≤ (k : Int) := by omega
  have e3 : IntKind.i64.wrap ((k : Int) + 1) = ((k + 1 : Nat) : Int) := wadd k p (small_max hs)
  have hck : ((s.data.getD k 0).toNat : Int) = ch s k := rfl
  by_cases q : ch s k = 10
  · rw [if_neg (fun z => z.2 q)] at hline
    simp only [push_cast, ↓reduceIte, Nat.reduceEqDiff, Nat.reduceAdd, Nat.reduceMul, Nat.reduceSub, Nat.reduceLT, Nat.reduceLeDiff, reduceCtorEq, Nat.reduceMod, Int.reduceEq, Int.reduceLT, Int.reduceLE, Int.reduceToNat, dite_true, p', p0, hck, eq_true q]
    exact hG (k, F3) _ ⟨by omega, by dsimp only; rw [hline]; exact hsk⟩ (by simp; omega) (by simp [subk, Eng.look]) (List.Sublist.refl _) rfl rfl
  · rw [if_pos ⟨p, q⟩] at hline
    simp only [push_cast, ↓reduceIte, Nat.reduceEqDiff, Nat.reduceAdd, Nat.reduceMul, Nat.reduceSub, Nat.reduceLT, Nat.reduceLeDiff, reduceCtorEq, Nat.reduceMod, Int.reduceEq, Int.reduceLT, Int.reduceLE, Int.reduceToNat, dite_true, p', p0, hck, q, e3]
    exact hG1 (k + 1, F3) _ ⟨by omega, hline⟩ (by simp; omega) (by simp [subk, Eng.look]) (List.Sublist.refl _) rfl rfl
end Go.Proofs.YtmiekonofocboaaGreatDoor.X

/- The lexer of the definition, as a function of the text: numbers. -/
namespace Go.Proofs.YtmiekonofocboaaGreatDoor.X
open Go Go.Eng Go.Proofs Go.Proofs.YtmiekonofocboaaGreatDoor.T Go.Proofs.YtmiekonofocboaaGreatDoor.K
set_option linter.unusedSimpArgs false
set_option linter.unusedVariables false
set_option linter.unusedSectionVars false
set_option maxRecDepth 100000
set_option maxHeartbeats 4000000
/-- The end of digits. -/
def digP (s : ByteArray) : Nat → Nat → Nat
  | 0, k => k
  | n + 1, k => if k < s.size ∧ digitB (ch s k) = true then digP s n (k + 1) else k
def digE (s : ByteArray) (k : Nat) : Nat := digP s (s.size - k) k
theorem digE_eq (s : ByteArray) (i : Nat) : digE s i = if i < s.size ∧ digitB (ch s i) = true then digE s (i + 1) else i := by
  unfold digE
  by_cases h : i < s.size
  · obtain ⟨n, hn⟩ : ∃ n, s.size - i = n + 1 := ⟨s.size - i - 1, by omega⟩
    rw [hn, show s.size - (i + 1) = n by omega]
    rfl
  · rw [show s.size - i = 0 by omega, if_neg (fun k => h k.1)]
    rfl
theorem digP_le (s : ByteArray) : ∀ n i, i ≤ s.size → i ≤ digP s n i ∧ digP s n i ≤ s.size ∧ ∀ k, i ≤ k → k < digP s n i → digitB (ch s k) = true
  | 0, i, h => ⟨Nat.le_refl _, h, fun k h1 h2 => absurd h2 (by simp only [digP]; omega)⟩
  | n + 1, i, h => by
    simp only [digP]
    split
    · rename_i k
      obtain ⟨h1, h2, h3⟩ := digP_le s n (i + 1) (by omega)
      refine ⟨by omega, h2, fun k' h4 h5 => ?_⟩
      by_cases e : k' = i
      · rw [e]; exact k.2
      · exact h3 k' (by omega) h5
    · exact ⟨Nat.le_refl _, h, fun k h1 h2 => by omega⟩
theorem digE_le (s : ByteArray) {i : Nat} (h : i ≤ s.size) : i ≤ digE s i ∧ digE s i ≤ s.size ∧ ∀ k, i ≤ k → k < digE s i → digitB (ch s k) = true := digP_le s _ i h
theorem ch_extract (s : ByteArray) {a j i : Nat} (h : a + i < j) (hj : j ≤ s.size) : ch (s.extract a j) i = ch s (a + i) := by
  have hs : s.size = s.data.size := rfl
  unfold ch
  rw [ByteArray.data_extract]
  have h1 : (s.data.extract a j).getD i 0 = s.data.getD (a + i) 0 := by
    rw [Array.getD_eq_getD_getElem?, Array.getD_eq_getD_getElem?, Array.getElem?_extract]
    rw [if_pos (by omega)]
  rw [h1]
/-- The value of digits, from a place on; none: beyond 2^63. -/
def numP (s : ByteArray) : Nat → Nat → Int → Option Int
  | 0, _, x => some x
  | n + 1, i, x => if i < s.size then (if 9223372036854775808 < x * 10 + (ch s i - 48) then none else numP s n (i + 1) (x * 10 + (ch s i - 48))) else some x
def numE (s : ByteArray) (i : Nat) (x : Int) : Option Int := numP s (s.size - i) i x
theorem numE_eq (s : ByteArray) (i : Nat) (x : Int) : numE s i x = if i < s.size then (if 9223372036854775808 < x * 10 + (ch s i - 48) then none else numE s (i + 1) (x * 10 + (ch s i - 48))) else some x := by
  unfold numE
  by_cases h : i < s.size
  · obtain ⟨n, hn⟩ : ∃ n, s.size - i = n + 1 := ⟨s.size - i - 1, by omega⟩
    rw [hn, show s.size - (i + 1) = n by omega]
    rfl
  · rw [show s.size - i = 0 by omega, if_neg h]
    rfl
/-- The number that digits are, perhaps with - ahead. -/
def intOf (s : ByteArray) : Option Int :=
  if ch s 0 = 45 then (numE s 1 0).map fun x => -x else match numE s 0 0 with
    | some x => if x < 9223372036854775808 then some x else none
    | none => none
theorem number (s : ByteArray) (h1 : 0 < s.size) (hs : s.size ≤ 16384) (hdig : ∀ i, i < s.size → (0 < i ∨ ¬ ch s 0 = 45) → digitB (ch s i) = true) (F : PH) :
    PFn Tryz.prog 59 [.string s] F (fun v _ => ∃ m b, v = .tuple #[.int .i64 m, .bool b] ∧ intOf s = if b = true then some m else none) := by
  refine Fn.intro (n := 43) (ts := [2, 3]) Tryz.func59 rfl rfl rfl rfl (by simp) fun B hB => ?_
  have h0 : (0 : Int) < (s.size : Int) := by omega
  have hc : ((s.data.getD 0 0).toNat : Int) = ch s 0 := rfl
  refine VC.go 7 ?_
  simp only [push_cast, ↓reduceIte, Nat.reduceEqDiff, Nat.reduceAdd, Nat.reduceMul, Nat.reduceSub, Nat.reduceLT, Nat.reduceLeDiff, reduceCtorEq, Nat.reduceMod, Int.reduceEq, Int.reduceLT, Int.reduceLE, Int.reduceToNat, dite_true, h0, hc]
  obtain ⟨m, hm⟩ : ∃ m, m = decide (ch s 0 = 45) := ⟨_, rfl⟩
  rw [← hm]
  refine VC.cutG (ι := Nat) (fun a => [(5, .v (.bool m)), (4, .v (.int .i64 a)), (0, .v (.string s))]) (fun _ => F) (fun _ => []) (fun a => a = if m = true then 1 else 0) ?_ ?_
  · intro G hG
    refine VC.go 100 ?_
    cases m with
    | true =>
      simp only [push_cast, ↓reduceIte, Nat.reduceEqDiff, Nat.reduceAdd, Nat.reduceMul, Nat.reduceSub, Nat.reduceLT, Nat.reduceLeDiff, reduceCtorEq, Nat.reduceMod, Int.reduceEq, Int.reduceLT, Int.reduceLE, Int.reduceToNat, dite_true]
      exact hG 1 _ rfl (by simp [subk, Eng.look]) (List.Sublist.refl _) rfl (List.Sublist.refl _)
    | false =>
      simp only [push_cast, ↓reduceIte, Nat.reduceEqDiff, Nat.reduceAdd, Nat.reduceMul, Nat.reduceSub, Nat.reduceLT, Nat.reduceLeDiff, reduceCtorEq, Nat.reduceMod, Int.reduceEq, Int.reduceLT, Int.reduceLE, Int.reduceToNat, dite_true]
      exact hG 0 _ rfl (by simp [subk, Eng.look]) (List.Sublist.refl _) rfl (List.Sublist.refl _)
  intro a ha
  have hal : a ≤ s.size := by subst ha; split <;> omega
  refine VC.go 100 ?_
  simp only [push_cast, ↓reduceIte, Nat.reduceEqDiff, Nat.reduceAdd, Nat.reduceMul, Nat.reduceSub, Nat.reduceLT, Nat.reduceLeDiff, reduceCtorEq, Nat.reduceMod, Int.reduceEq, Int.reduceLT, Int.reduceLE, Int.reduceToNat, dite_true]
  refine VC.loopL (fun i : Nat × Int => [(6, .v (.int .u64 i.2)), (5, .v (.bool m)), (4, .v (.int .i64 i.1)), (0, .v (.string s))]) (fun i => a ≤ i.1 ∧ i.1 ≤ s.size ∧ 0 ≤ i.2 ∧ i.2 ≤ 9223372036854775808 ∧ numE s i.1 i.2 = numE s a 0) (fun i => s.size - i.1) (a, 0) ⟨Nat.le_refl _, hal, Int.le_refl _, by simp, rfl⟩ (by simp [subk, Eng.look]) ?_
  rintro ⟨i, x⟩ ⟨hai, hi, hx0, hx1, hnum⟩ G hG
  dsimp only at hai hi hx0 hx1 hnum hG ⊢
  rw [numE_eq] at hnum
  refine VC.go 100 ?_
  by_cases h : i < s.size
  case neg =>
    have h' : ¬ (i : Int) < (s.size : Int) := by omega
    rw [if_neg h] at hnum
    cases m with
    | false =>
      have hm' : ¬ ch s 0 = 45 := by simpa using hm
      have ha0 : a = 0 := by simpa using ha
      subst ha0
      simp only [push_cast, ↓reduceIte, Nat.reduceEqDiff, Nat.reduceAdd, Nat.reduceMul, Nat.reduceSub, Nat.reduceLT, Nat.reduceLeDiff, reduceCtorEq, Nat.reduceMod, Int.reduceEq, Int.reduceLT, Int.reduceLE, Int.reduceToNat, dite_true, h']
      refine RetOk.p rfl ⟨_, _, rfl, ?_⟩
      unfold intOf
      rw [if_neg hm', ← hnum]
      by_cases g : x < 9223372036854775808
      · have e1 : IntKind.i64.wrap x = x := IntWalk.i64_in _ (by omega)
        simp [g, e1]
      · simp [g]
    | true =>
      have hm' : ch s 0 = 45 := by simpa using hm
      have ha0 : a = 1 := by simpa using ha
      subst ha0
      by_cases g : x = 9223372036854775808
      · simp only [push_cast, ↓reduceIte, Nat.reduceEqDiff, Nat.reduceAdd, Nat.reduceMul, Nat.reduceSub, Nat.reduceLT, Nat.reduceLeDiff, reduceCtorEq, Nat.reduceMod, Int.reduceEq, Int.reduceLT, Int.reduceLE, Int.reduceToNat, dite_true, h', eq_true g]
        refine RetOk.p rfl ⟨_, _, rfl, ?_⟩
        unfold intOf
        rw [if_pos hm', ← hnum, g]; rfl
      · have e1 : IntKind.i64.wrap x = x := IntWalk.i64_in _ (by omega)
        have e2 : IntKind.i64.wrap (0 - x) = 0 - x := IntWalk.i64_in _ (by omega)
        simp only [push_cast, ↓reduceIte, Nat.reduceEqDiff, Nat.reduceAdd, Nat.reduceMul, Nat.reduceSub, Nat.reduceLT, Nat.reduceLeDiff, reduceCtorEq, Nat.reduceMod, Int.reduceEq, Int.reduceLT, Int.reduceLE, Int.reduceToNat, dite_true, h', g, e1, e2]
        refine RetOk.p rfl ⟨_, _, rfl, ?_⟩
        unfold intOf
        rw [if_pos hm', ← hnum]
        simp
  rw [if_pos h] at hnum
  have h' : (i : Int) < (s.size : Int) := by omega
  have h0 : (0 : Int) ≤ (i : Int) := by omega
  have e2 : IntKind.i64.wrap ((i : Int) + 1) = ((i + 1 : Nat) : Int) := wadd i h (small_max hs)
  have hc : ((s.data.getD i 0).toNat : Int) = ch s i := rfl
  have hd := hdig i h (by
    by_cases e : 0 < i
    · exact .inl e
    · refine .inr fun k => ?_
      have : m = true := by rw [hm]; simpa using k
      rw [if_pos this] at ha
      omega)
  have hd1 : 48 ≤ ch s i ∧ ch s i ≤ 57 := by simpa [digitB] using hd
  have e5 : IntKind.u8.wrap (ch s i - 48) = ch s i - 48 := IntWalk.u8_in _ (by omega)
  have e6 : ∀ n : Int, 0 ≤ n → n ≤ 9223372036854775808 → IntKind.u64.wrap n = n := fun n k1 k2 => IntWalk.u64_in _ (by omega)
  have e7 : (9223372036854775808 - (ch s i - 48)).tdiv 10 = (9223372036854775808 - (ch s i - 48)) / 10 := Int.tdiv_eq_ediv_of_nonneg (by omega)
  have e8 := e6 (ch s i - 48) (by omega) (by omega)
  have e9 := e6 (9223372036854775808 - (ch s i - 48)) (by omega) (by omega)
  have e10 := e6 ((9223372036854775808 - (ch s i - 48)) / 10) (by omega) (by omega)
  by_cases hdv : (9223372036854775808 - (ch s i - 48)) / 10 < x
  · rw [if_pos (by omega)] at hnum
    simp only [push_cast, ↓reduceIte, Nat.reduceEqDiff, Nat.reduceAdd, Nat.reduceMul, Nat.reduceSub, Nat.reduceLT, Nat.reduceLeDiff, reduceCtorEq, Nat.reduceMod, Int.reduceEq, Int.reduceLT, Int.reduceLE, Int.reduceToNat, dite_true, h', h0, hc, e5, e8, e9, e7, e10, eq_true hdv]
    refine RetOk.p rfl ⟨_, _, rfl, ?_⟩
    unfold intOf
    cases m with
    | false =>
      have hm' : ¬ ch s 0 = 45 := by simpa using hm
      have ha0 : a = 0 := by simpa using ha
      subst ha0
      rw [if_neg hm', ← hnum]; rfl
    | true =>
      have hm' : ch s 0 = 45 := by simpa using hm
      have ha0 : a = 1 := by simpa using ha
      subst ha0
      rw [if_pos hm', ← hnum]; rfl
  · rw [if_neg (by omega)] at hnum
    have e11 := e6 (x * 10) (by omega) (by omega)
    have e12 := e6 (x * 10 + (ch s i - 48)) (by omega) (by omega)
    simp only [push_cast, ↓reduceIte, Nat.reduceEqDiff, Nat.reduceAdd, Nat.reduceMul, Nat.reduceSub, Nat.reduceLT, Nat.reduceLeDiff, reduceCtorEq, Nat.reduceMod, Int.reduceEq, Int.reduceLT, Int.reduceLE, Int.reduceToNat, dite_true, h', h0, hc, e5, e8, e9, e7, e10, hdv, e2, e11, e12]
    exact hG (i + 1, x * 10 + (ch s i - 48)) _ ⟨by omega, by omega, by dsimp only; omega, by dsimp only; omega, hnum⟩ (by simp; omega) (by simp [subk, Eng.look]) (List.Sublist.refl _) rfl rfl
end Go.Proofs.YtmiekonofocboaaGreatDoor.X

/- The lexer of the definition, as a function of the text: one token. (Written by gen/b4.py.) -/
namespace Go.Proofs.YtmiekonofocboaaGreatDoor.X
open Go Go.Eng Go.Proofs Go.Proofs.YtmiekonofocboaaGreatDoor.T Go.Proofs.YtmiekonofocboaaGreatDoor.K
set_option linter.unusedSimpArgs false
set_option linter.unusedVariables false
set_option linter.unusedSectionVars false
set_option maxRecDepth 100000
set_option maxHeartbeats 4000000
structure Tok where
  k : Int
  tx : ByteArray
  n : Int
  at_ : Int
abbrev tokC (t : Tok) : List Value := [.int .i64 t.k, .string t.tx, .int .i64 t.n, .int .i64 t.at_]
def RTok (t : Tok) (cs : List Value) : Prop := cs = tokC t
abbrev Toks (F : PH) (v : Value) (l : List Tok) : Prop := SlE F 4 RTok v l
abbrev tok0 : Tok := ⟨0, ⟨#[]⟩, 0, 0⟩
def nxt (s : ByteArray) (a : Nat) : Int := if a + 1 < s.size then ch s (a + 1) else 0
abbrev arrow : ByteArray := ⟨#[45, 62]⟩
/-- The token that begins at a place, and the place behind it. -/
def oneP (s : ByteArray) (a : Nat) : Tok × Int × Int :=
  if smallB (ch s a) = true then (if reservedB (s.extract a (runE s a)) = true then (⟨6, s.extract a (runE s a), 0, a⟩, runE s a, 0) else (⟨1, s.extract a (runE s a), 0, a⟩, runE s a, 0))
  else if largeB (ch s a) = true then (⟨2, s.extract a (runE s a), 0, a⟩, runE s a, 0)
  else if ch s a = 35 ∧ smallB (nxt s a) = true then (⟨3, s.extract a (runE s (a + 1)), 0, a⟩, runE s (a + 1), 0)
  else if digitB (ch s a) = true ∨ (ch s a = 45 ∧ digitB (nxt s a) = true) then
    match intOf (s.extract a (digE s (a + 1))) with
    | some m => (⟨4, ⟨#[]⟩, m, a⟩, digE s (a + 1), 0)
    | none => (tok0, 0, 22)
  else if ch s a = 45 ∧ nxt s a = 62 then (⟨5, arrow, 0, a⟩, a + 2, 0)
  else if signB (s.extract a (a + 1)) = true then (⟨5, s.extract a (a + 1), 0, a⟩, a + 1, 0)
  else (tok0, 0, 20)
abbrev oneV (r : Tok × Int × Int) : Value := .tuple #[.agg (tokC r.1).toArray, .int .i64 r.2.1, .int .i64 r.2.2]
theorem int_pre {s : ByteArray} {a : Nat} (ha : a < s.size) (hc : digitB (ch s a) = true ∨ ch s a = 45) : ∀ i, i < (s.extract a (digE s (a + 1))).size → (0 < i ∨ ¬ ch (s.extract a (digE s (a + 1))) 0 = 45) → digitB (ch (s.extract a (digE s (a + 1))) i) = true := by
  obtain ⟨h1, h2, h3⟩ := digE_le s (i := a + 1) ha
  intro i hi h
  rw [ByteArray.size_extract] at hi
  rw [ch_extract s (by omega) h2] at h ⊢
  by_cases e : i = 0
  · subst e
    rcases h with h | h
    · omega
    · rcases hc with hc | hc
      · exact hc
      · exact absurd hc h
  · exact h3 (a + i) (by omega) (by omega)
theorem one (s : ByteArray) (a : Nat) (ha : a < s.size) (hs : s.size ≤ 16384) (F : PH) : PFn Tryz.prog 39 [.string s, .int .i64 a] F
    (fun v _ => v = oneV (oneP s a)) := by
  refine Fn.intro (n := 150) (ts := [.cell 4 71, 5, 6]) Tryz.func39 rfl rfl rfl rfl (by simp) fun B hB => ?_
  have h' : (a : Int) < (s.size : Int) := by omega
  have h0 : (0 : Int) ≤ (a : Int) := by omega
  have e2 : IntKind.i64.wrap ((a : Int) + 1) = (a : Int) + 1 := by rw [wadd a ha (small_max hs)]; rfl
  have hc : ((s.data.getD a 0).toNat : Int) = ch s a := rfl
  have h01 : (0 : Int) ≤ (a : Int) + 1 := by omega
  have ht : ((a : Int) + 1).toNat = a + 1 := by omega
  have hc1 : ((s.data.getD (a + 1) 0).toNat : Int) = ch s (a + 1) := rfl
  refine VC.go 7 ?_
  simp only [push_cast, ↓reduceIte, Nat.reduceEqDiff, Nat.reduceAdd, Nat.reduceMul, Nat.reduceSub, Nat.reduceLT, Nat.reduceLeDiff, reduceCtorEq, Nat.reduceMod, Int.reduceEq, Int.reduceLT, Int.reduceLE, Int.reduceToNat, dite_true, h', h0, hc]
  intro b4
  refine VC.cutM (ι := Int) (fun c8 => [(8, .v (.int .u8 c8)), (7, .v (.int .u8 (ch s a))), (4, .o 0 b4 0), (1, .v (.int .i64 a)), (0, .v (.string s))]) (fun _ => [⟨0, b4, 71, tokC ⟨0, ⟨#[]⟩, 0, 0⟩⟩]) (fun _ => F) (fun c8 => c8 = nxt s a) ?_ ?_
  · intro G hG
    refine VC.go 100 ?_
    by_cases g : a + 1 < s.size
    · have g' : (a : Int) + 1 < (s.size : Int) := by omega
      simp only [push_cast, ↓reduceIte, Nat.reduceEqDiff, Nat.reduceAdd, Nat.reduceMul, Nat.reduceSub, Nat.reduceLT, Nat.reduceLeDiff, reduceCtorEq, Nat.reduceMod, Int.reduceEq, Int.reduceLT, Int.reduceLE, Int.reduceToNat, dite_true, h', h0, e2, h01, ht, hc1, g']
      exact hG (ch s (a + 1)) _ (by unfold nxt; rw [if_pos g]) (by simp [subk, Eng.look]) (List.Sublist.refl _) rfl rfl
    · have g' : ¬ (a : Int) + 1 < (s.size : Int) := by omega
      simp only [push_cast, ↓reduceIte, Nat.reduceEqDiff, Nat.reduceAdd, Nat.reduceMul, Nat.reduceSub, Nat.reduceLT, Nat.reduceLeDiff, reduceCtorEq, Nat.reduceMod, Int.reduceEq, Int.reduceLT, Int.reduceLE, Int.reduceToNat, dite_true, e2, g']
      exact hG 0 _ (by unfold nxt; rw [if_neg g]) (by simp [subk, Eng.look]) (List.Sublist.refl _) rfl rfl
  intro c8 hc8
  dsimp only at hc8 ⊢
  refine VC.go 100 ?_
  simp only [push_cast, ↓reduceIte, Nat.reduceEqDiff, Nat.reduceAdd, Nat.reduceMul, Nat.reduceSub, Nat.reduceLT, Nat.reduceLeDiff, reduceCtorEq, Nat.reduceMod, Int.reduceEq, Int.reduceLT, Int.reduceLE, Int.reduceToNat, dite_true]
  refine CallV.pure (run s a (by omega) hs F) ?_
  rintro _ F1 hF1 rfl
  obtain ⟨j, hjd⟩ : ∃ j, j = runE s a := ⟨_, rfl⟩
  rw [← hjd]
  have hj1 : a ≤ j := by rw [hjd]; exact (runE_le s (by omega)).1
  have hj2 : j ≤ s.size := by rw [hjd]; exact (runE_le s (by omega)).2
  have c1 : (0 : Int) ≤ (j : Int) ∧ (j : Int) ≤ (s.size : Int) := by omega
  have c2 : (0 : Int) ≤ (a : Int) ∧ (a : Int) ≤ (j : Int) := by omega
  have c11 : (0 : Int) ≤ (j : Int) := c1.1
  have c12 : (j : Int) ≤ (s.size : Int) := c1.2
  have c22 : (a : Int) ≤ (j : Int) := c2.2
  simp only [push_cast, ↓reduceIte, Nat.reduceEqDiff, Nat.reduceAdd, Nat.reduceMul, Nat.reduceSub, Nat.reduceLT, Nat.reduceLeDiff, reduceCtorEq, Nat.reduceMod, Int.reduceEq, Int.reduceLT, Int.reduceLE, Int.reduceToNat, dite_true]
  refine CallV.pure (small (ch s a) F1) ?_
  rintro _ F2 hF2 rfl
  cases h1 : smallB (ch s a) with
  | true =>
    simp only [push_cast, ↓reduceIte, Nat.reduceEqDiff, Nat.reduceAdd, Nat.reduceMul, Nat.reduceSub, Nat.reduceLT, Nat.reduceLeDiff, reduceCtorEq, Nat.reduceMod, Int.reduceEq, Int.reduceLT, Int.reduceLE, Int.reduceToNat, dite_true, h0, c11, c12, c22]
    refine CallV.pure (reserved _ F2) ?_
    rintro _ F3 hF3 rfl
    cases hrb : reservedB (s.extract a j) with
    | true =>
      simp only [push_cast, ↓reduceIte, Nat.reduceEqDiff, Nat.reduceAdd, Nat.reduceMul, Nat.reduceSub, Nat.reduceLT, Nat.reduceLeDiff, reduceCtorEq, Nat.reduceMod, Int.reduceEq, Int.reduceLT, Int.reduceLE, Int.reduceToNat, dite_true, h0, c11, c12, c22]
      refine ⟨[_, _, _], [], (by simp only [push_cast, ↓reduceIte, Nat.reduceEqDiff, Nat.reduceAdd, Nat.reduceMul, Nat.reduceSub, Nat.reduceLT, Nat.reduceLeDiff, reduceCtorEq, Nat.reduceMod, Int.reduceEq, Int.reduceLT, Int.reduceLE, Int.reduceToNat, dite_true, rvals, rval1]; rfl), .sub (List.nil_sublist _), rfl, ?_⟩
      rw [show oneP s a = _ from by unfold oneP; rw [if_pos h1, ← hjd, if_pos hrb]]; rfl
    | false =>
      simp only [push_cast, ↓reduceIte, Nat.reduceEqDiff, Nat.reduceAdd, Nat.reduceMul, Nat.reduceSub, Nat.reduceLT, Nat.reduceLeDiff, reduceCtorEq, Nat.reduceMod, Int.reduceEq, Int.reduceLT, Int.reduceLE, Int.reduceToNat, dite_true, h0, c11, c12, c22]
      refine CallV.pure (small (ch s a) F3) ?_
      rintro _ F4 hF4 rfl
      rw [h1]
      simp only [push_cast, ↓reduceIte, Nat.reduceEqDiff, Nat.reduceAdd, Nat.reduceMul, Nat.reduceSub, Nat.reduceLT, Nat.reduceLeDiff, reduceCtorEq, Nat.reduceMod, Int.reduceEq, Int.reduceLT, Int.reduceLE, Int.reduceToNat, dite_true, h0, c11, c12, c22]
      refine ⟨[_, _, _], [], (by simp only [push_cast, ↓reduceIte, Nat.reduceEqDiff, Nat.reduceAdd, Nat.reduceMul, Nat.reduceSub, Nat.reduceLT, Nat.reduceLeDiff, reduceCtorEq, Nat.reduceMod, Int.reduceEq, Int.reduceLT, Int.reduceLE, Int.reduceToNat, dite_true, rvals, rval1]; rfl), .sub (List.nil_sublist _), rfl, ?_⟩
      rw [show oneP s a = _ from by unfold oneP; rw [if_pos h1, ← hjd, if_neg (by rw [hrb]; decide)]]; rfl
  | false =>
  simp only [push_cast, ↓reduceIte, Nat.reduceEqDiff, Nat.reduceAdd, Nat.reduceMul, Nat.reduceSub, Nat.reduceLT, Nat.reduceLeDiff, reduceCtorEq, Nat.reduceMod, Int.reduceEq, Int.reduceLT, Int.reduceLE, Int.reduceToNat, dite_true]
  refine CallV.pure (small (ch s a) F2) ?_
  rintro _ F3 hF3 rfl
  rw [h1]
  simp only [push_cast, ↓reduceIte, Nat.reduceEqDiff, Nat.reduceAdd, Nat.reduceMul, Nat.reduceSub, Nat.reduceLT, Nat.reduceLeDiff, reduceCtorEq, Nat.reduceMod, Int.reduceEq, Int.reduceLT, Int.reduceLE, Int.reduceToNat, dite_true]
  refine CallV.pure (large (ch s a) F3) ?_
  rintro _ F4 hF4 rfl
  cases h2 : largeB (ch s a) with
  | true =>
    simp only [push_cast, ↓reduceIte, Nat.reduceEqDiff, Nat.reduceAdd, Nat.reduceMul, Nat.reduceSub, Nat.reduceLT, Nat.reduceLeDiff, reduceCtorEq, Nat.reduceMod, Int.reduceEq, Int.reduceLT, Int.reduceLE, Int.reduceToNat, dite_true, h0, c11, c12, c22]
    refine ⟨[_, _, _], [], (by simp only [push_cast, ↓reduceIte, Nat.reduceEqDiff, Nat.reduceAdd, Nat.reduceMul, Nat.reduceSub, Nat.reduceLT, Nat.reduceLeDiff, reduceCtorEq, Nat.reduceMod, Int.reduceEq, Int.reduceLT, Int.reduceLE, Int.reduceToNat, dite_true, rvals, rval1]; rfl), .sub (List.nil_sublist _), rfl, ?_⟩
    rw [show oneP s a = _ from by unfold oneP; rw [if_neg (by rw [h1]; decide), if_pos h2, ← hjd]]; rfl
  | false =>
  clear hj1 hj2 c1 c2 c11 c12 c22
  have k1 : (a : Int) + 1 ≤ (s.size : Int) := by omega
  have k2 : (a : Int) ≤ (a : Int) + 1 := by omega
  by_cases g1 : ch s a = 35
  case pos =>
    simp only [push_cast, ↓reduceIte, Nat.reduceEqDiff, Nat.reduceAdd, Nat.reduceMul, Nat.reduceSub, Nat.reduceLT, Nat.reduceLeDiff, reduceCtorEq, Nat.reduceMod, Int.reduceEq, Int.reduceLT, Int.reduceLE, Int.reduceToNat, dite_true, eq_true g1]
    refine CallV.pure (small c8 F4) ?_
    rintro _ F5 hF5 rfl
    cases h3 : smallB c8 with
    | true =>
      simp only [push_cast, ↓reduceIte, Nat.reduceEqDiff, Nat.reduceAdd, Nat.reduceMul, Nat.reduceSub, Nat.reduceLT, Nat.reduceLeDiff, reduceCtorEq, Nat.reduceMod, Int.reduceEq, Int.reduceLT, Int.reduceLE, Int.reduceToNat, dite_true, e2]
      refine CallV.pure (run s (a + 1) ha hs F5) ?_
      rintro _ F6 hF6 rfl
      have hj1 := (runE_le s (i := a + 1) (by omega)).1
      have hj2 := (runE_le s (i := a + 1) (by omega)).2
      obtain ⟨j, hjd2⟩ : ∃ j, j = runE s (a + 1) := ⟨_, rfl⟩
      rw [← hjd2] at hj1 hj2 ⊢
      have c11 : (0 : Int) ≤ (j : Int) := by omega
      have c12 : (j : Int) ≤ (s.size : Int) := by omega
      have c22 : (a : Int) ≤ (j : Int) := by omega
      simp only [push_cast, ↓reduceIte, Nat.reduceEqDiff, Nat.reduceAdd, Nat.reduceMul, Nat.reduceSub, Nat.reduceLT, Nat.reduceLeDiff, reduceCtorEq, Nat.reduceMod, Int.reduceEq, Int.reduceLT, Int.reduceLE, Int.reduceToNat, dite_true, h0, c11, c12, c22]
      refine ⟨[_, _, _], [], (by simp only [push_cast, ↓reduceIte, Nat.reduceEqDiff, Nat.reduceAdd, Nat.reduceMul, Nat.reduceSub, Nat.reduceLT, Nat.reduceLeDiff, reduceCtorEq, Nat.reduceMod, Int.reduceEq, Int.reduceLT, Int.reduceLE, Int.reduceToNat, dite_true, rvals, rval1]; rfl), .sub (List.nil_sublist _), rfl, ?_⟩
      rw [show oneP s a = _ from by unfold oneP; rw [if_neg (by rw [h1]; decide), if_neg (by rw [h2]; decide), if_pos ⟨g1, by rw [← hc8]; exact h3⟩, ← hjd2]]; rfl
    | false =>
      have g2 : digitB (ch s a) = false := by rw [g1]; decide
      have g3 : ¬ ch s a = 45 := by rw [g1]; decide
      simp only [push_cast, ↓reduceIte, Nat.reduceEqDiff, Nat.reduceAdd, Nat.reduceMul, Nat.reduceSub, Nat.reduceLT, Nat.reduceLeDiff, reduceCtorEq, Nat.reduceMod, Int.reduceEq, Int.reduceLT, Int.reduceLE, Int.reduceToNat, dite_true]
      refine CallV.pure (digit (ch s a) F5) ?_
      rintro _ F6 hF6 rfl
      rw [g2]
      simp only [push_cast, ↓reduceIte, Nat.reduceEqDiff, Nat.reduceAdd, Nat.reduceMul, Nat.reduceSub, Nat.reduceLT, Nat.reduceLeDiff, reduceCtorEq, Nat.reduceMod, Int.reduceEq, Int.reduceLT, Int.reduceLE, Int.reduceToNat, dite_true, g3, e2, h0, h01, ht, k1, k2]
      refine CallV.pure (sign _ F6) ?_
      rintro _ F7 hF7 rfl
      cases hrb : signB (s.extract a (a + 1)) with
      | true =>
        simp only [push_cast, ↓reduceIte, Nat.reduceEqDiff, Nat.reduceAdd, Nat.reduceMul, Nat.reduceSub, Nat.reduceLT, Nat.reduceLeDiff, reduceCtorEq, Nat.reduceMod, Int.reduceEq, Int.reduceLT, Int.reduceLE, Int.reduceToNat, dite_true, e2, h0, h01, ht, k1, k2]
        refine ⟨[_, _, _], [], (by simp only [push_cast, ↓reduceIte, Nat.reduceEqDiff, Nat.reduceAdd, Nat.reduceMul, Nat.reduceSub, Nat.reduceLT, Nat.reduceLeDiff, reduceCtorEq, Nat.reduceMod, Int.reduceEq, Int.reduceLT, Int.reduceLE, Int.reduceToNat, dite_true, rvals, rval1]; rfl), .sub (List.nil_sublist _), rfl, ?_⟩
        rw [show oneP s a = _ from by unfold oneP; rw [if_neg (by rw [h1]; decide), if_neg (by rw [h2]; decide), if_neg (fun z => by rw [← hc8, h3] at z; exact absurd z.2 (by decide)), if_neg (fun z => z.elim (fun z => by rw [g2] at z; exact absurd z (by decide)) (fun z => g3 z.1)), if_neg (fun z => g3 z.1), if_pos hrb]]; rfl
      | false =>
        simp only [push_cast, ↓reduceIte, Nat.reduceEqDiff, Nat.reduceAdd, Nat.reduceMul, Nat.reduceSub, Nat.reduceLT, Nat.reduceLeDiff, reduceCtorEq, Nat.reduceMod, Int.reduceEq, Int.reduceLT, Int.reduceLE, Int.reduceToNat, dite_true]
        refine ⟨[_, _, _], [], (by simp only [push_cast, ↓reduceIte, Nat.reduceEqDiff, Nat.reduceAdd, Nat.reduceMul, Nat.reduceSub, Nat.reduceLT, Nat.reduceLeDiff, reduceCtorEq, Nat.reduceMod, Int.reduceEq, Int.reduceLT, Int.reduceLE, Int.reduceToNat, dite_true, rvals, rval1]; rfl), .sub (List.nil_sublist _), rfl, ?_⟩
        rw [show oneP s a = _ from by unfold oneP; rw [if_neg (by rw [h1]; decide), if_neg (by rw [h2]; decide), if_neg (fun z => by rw [← hc8, h3] at z; exact absurd z.2 (by decide)), if_neg (fun z => z.elim (fun z => by rw [g2] at z; exact absurd z (by decide)) (fun z => g3 z.1)), if_neg (fun z => g3 z.1), if_neg (by rw [hrb]; decide)]]; rfl
  have e3 : IntKind.i64.wrap ((a : Int) + 2) = (a : Int) + 2 := IntWalk.i64_in _ (by omega)
  simp only [push_cast, ↓reduceIte, Nat.reduceEqDiff, Nat.reduceAdd, Nat.reduceMul, Nat.reduceSub, Nat.reduceLT, Nat.reduceLeDiff, reduceCtorEq, Nat.reduceMod, Int.reduceEq, Int.reduceLT, Int.reduceLE, Int.reduceToNat, dite_true, g1]
  refine CallV.pure (digit (ch s a) F4) ?_
  rintro _ F5 hF5 rfl
  cases g2 : digitB (ch s a) with
  | true =>
    simp only [push_cast, ↓reduceIte, Nat.reduceEqDiff, Nat.reduceAdd, Nat.reduceMul, Nat.reduceSub, Nat.reduceLT, Nat.reduceLeDiff, reduceCtorEq, Nat.reduceMod, Int.reduceEq, Int.reduceLT, Int.reduceLE, Int.reduceToNat, dite_true, e2]
    refine VC.loopM (ι := Nat × PH) (fun i => [(9, .v (.int .i64 i.1)), (4, .o 0 b4 0), (1, .v (.int .i64 a)), (0, .v (.string s))]) (fun _ => [⟨0, b4, 71, tokC ⟨0, ⟨#[]⟩, 0, 0⟩⟩]) (fun i => i.2) (fun i => a < i.1 ∧ i.1 ≤ s.size ∧ digE s i.1 = digE s (a + 1)) (fun i => s.size - i.1) (a + 1, F5) ⟨by omega, ha, rfl⟩ (by simp [subk, Eng.look]) (List.Sublist.refl _) rfl ?_
    rintro ⟨i, F8⟩ ⟨hi, hi2, hi3⟩ G hG
    dsimp only at hi hi2 hi3 hG ⊢
    rw [digE_eq] at hi3
    have c11 : (0 : Int) ≤ (i : Int) := by omega
    have c12 : (i : Int) ≤ (s.size : Int) := by omega
    have c22 : (a : Int) ≤ (i : Int) := by omega
    refine VC.go 100 ?_
    by_cases p : i < s.size
    case neg =>
      have p' : ¬ (i : Int) < (s.size : Int) := by omega
      rw [if_neg (fun z => p z.1)] at hi3
      subst hi3
      simp only [push_cast, ↓reduceIte, Nat.reduceEqDiff, Nat.reduceAdd, Nat.reduceMul, Nat.reduceSub, Nat.reduceLT, Nat.reduceLeDiff, reduceCtorEq, Nat.reduceMod, Int.reduceEq, Int.reduceLT, Int.reduceLE, Int.reduceToNat, dite_true, p', h0, c11, c12, c22]
      refine CallV.pure (number (s.extract a (digE s (a + 1))) (by rw [ByteArray.size_extract]; omega) (by rw [ByteArray.size_extract]; omega) (int_pre ha (.inl g2)) F8) ?_
      rintro _ F9 hF9 ⟨m, ok, rfl, hint⟩
      cases ok with
      | true =>
        simp only [push_cast, ↓reduceIte, Nat.reduceEqDiff, Nat.reduceAdd, Nat.reduceMul, Nat.reduceSub, Nat.reduceLT, Nat.reduceLeDiff, reduceCtorEq, Nat.reduceMod, Int.reduceEq, Int.reduceLT, Int.reduceLE, Int.reduceToNat, dite_true]
        refine ⟨[_, _, _], [], (by simp only [push_cast, ↓reduceIte, Nat.reduceEqDiff, Nat.reduceAdd, Nat.reduceMul, Nat.reduceSub, Nat.reduceLT, Nat.reduceLeDiff, reduceCtorEq, Nat.reduceMod, Int.reduceEq, Int.reduceLT, Int.reduceLE, Int.reduceToNat, dite_true, rvals, rval1]; rfl), .sub (List.nil_sublist _), rfl, ?_⟩
        rw [show oneP s a = _ from by unfold oneP; rw [if_neg (by rw [h1]; decide), if_neg (by rw [h2]; decide), if_neg (fun z => g1 z.1), if_pos (.inl g2), hint]]; rfl
      | false =>
        simp only [push_cast, ↓reduceIte, Nat.reduceEqDiff, Nat.reduceAdd, Nat.reduceMul, Nat.reduceSub, Nat.reduceLT, Nat.reduceLeDiff, reduceCtorEq, Nat.reduceMod, Int.reduceEq, Int.reduceLT, Int.reduceLE, Int.reduceToNat, dite_true]
        refine ⟨[_, _, _], [], (by simp only [push_cast, ↓reduceIte, Nat.reduceEqDiff, Nat.reduceAdd, Nat.reduceMul, Nat.reduceSub, Nat.reduceLT, Nat.reduceLeDiff, reduceCtorEq, Nat.reduceMod, Int.reduceEq, Int.reduceLT, Int.reduceLE, Int.reduceToNat, dite_true, rvals, rval1]; rfl), .sub (List.nil_sublist _), rfl, ?_⟩
        rw [show oneP s a = _ from by unfold oneP; rw [if_neg (by rw [h1]; decide), if_neg (by rw [h2]; decide), if_neg (fun z => g1 z.1), if_pos (.inl g2), hint]]; rfl
    have p' : (i : Int) < (s.size : Int) := by omega
    have hci : ((s.data.getD i 0).toNat : Int) = ch s i := rfl
    have e4 : IntKind.i64.wrap ((i : Int) + 1) = ((i + 1 : Nat) : Int) := wadd i p (small_max hs)
    simp only [push_cast, ↓reduceIte, Nat.reduceEqDiff, Nat.reduceAdd, Nat.reduceMul, Nat.reduceSub, Nat.reduceLT, Nat.reduceLeDiff, reduceCtorEq, Nat.reduceMod, Int.reduceEq, Int.reduceLT, Int.reduceLE, Int.reduceToNat, dite_true, p', c11, hci]
    refine CallV.pure (digit (ch s i) F8) ?_
    rintro _ F10 hF10 rfl
    cases hdi : digitB (ch s i) with
    | true =>
      rw [if_pos ⟨p, hdi⟩] at hi3
      simp only [push_cast, ↓reduceIte, Nat.reduceEqDiff, Nat.reduceAdd, Nat.reduceMul, Nat.reduceSub, Nat.reduceLT, Nat.reduceLeDiff, reduceCtorEq, Nat.reduceMod, Int.reduceEq, Int.reduceLT, Int.reduceLE, Int.reduceToNat, dite_true, e4]
      exact hG (i + 1, F10) _ ⟨by omega, by omega, hi3⟩ (by simp; omega) (by simp [subk, Eng.look]) (List.Sublist.refl _) rfl rfl
    | false =>
      rw [if_neg (fun z => by rw [hdi] at z; exact absurd z.2 (by decide))] at hi3
      subst hi3
      simp only [push_cast, ↓reduceIte, Nat.reduceEqDiff, Nat.reduceAdd, Nat.reduceMul, Nat.reduceSub, Nat.reduceLT, Nat.reduceLeDiff, reduceCtorEq, Nat.reduceMod, Int.reduceEq, Int.reduceLT, Int.reduceLE, Int.reduceToNat, dite_true, h0, c11, c12, c22]
      refine CallV.pure (number (s.extract a (digE s (a + 1))) (by rw [ByteArray.size_extract]; omega) (by rw [ByteArray.size_extract]; omega) (int_pre ha (.inl g2)) F10) ?_
      rintro _ F9 hF9 ⟨m, ok, rfl, hint⟩
      cases ok with
      | true =>
        simp only [push_cast, ↓reduceIte, Nat.reduceEqDiff, Nat.reduceAdd, Nat.reduceMul, Nat.reduceSub, Nat.reduceLT, Nat.reduceLeDiff, reduceCtorEq, Nat.reduceMod, Int.reduceEq, Int.reduceLT, Int.reduceLE, Int.reduceToNat, dite_true]
        refine ⟨[_, _, _], [], (by simp only [push_cast, ↓reduceIte, Nat.reduceEqDiff, Nat.reduceAdd, Nat.reduceMul, Nat.reduceSub, Nat.reduceLT, Nat.reduceLeDiff, reduceCtorEq, Nat.reduceMod, Int.reduceEq, Int.reduceLT, Int.reduceLE, Int.reduceToNat, dite_true, rvals, rval1]; rfl), .sub (List.nil_sublist _), rfl, ?_⟩
        rw [show oneP s a = _ from by unfold oneP; rw [if_neg (by rw [h1]; decide), if_neg (by rw [h2]; decide), if_neg (fun z => g1 z.1), if_pos (.inl g2), hint]]; rfl
      | false =>
        simp only [push_cast, ↓reduceIte, Nat.reduceEqDiff, Nat.reduceAdd, Nat.reduceMul, Nat.reduceSub, Nat.reduceLT, Nat.reduceLeDiff, reduceCtorEq, Nat.reduceMod, Int.reduceEq, Int.reduceLT, Int.reduceLE, Int.reduceToNat, dite_true]
        refine ⟨[_, _, _], [], (by simp only [push_cast, ↓reduceIte, Nat.reduceEqDiff, Nat.reduceAdd, Nat.reduceMul, Nat.reduceSub, Nat.reduceLT, Nat.reduceLeDiff, reduceCtorEq, Nat.reduceMod, Int.reduceEq, Int.reduceLT, Int.reduceLE, Int.reduceToNat, dite_true, rvals, rval1]; rfl), .sub (List.nil_sublist _), rfl, ?_⟩
        rw [show oneP s a = _ from by unfold oneP; rw [if_neg (by rw [h1]; decide), if_neg (by rw [h2]; decide), if_neg (fun z => g1 z.1), if_pos (.inl g2), hint]]; rfl
  | false =>
  by_cases g3 : ch s a = 45
  case neg =>
    simp only [push_cast, ↓reduceIte, Nat.reduceEqDiff, Nat.reduceAdd, Nat.reduceMul, Nat.reduceSub, Nat.reduceLT, Nat.reduceLeDiff, reduceCtorEq, Nat.reduceMod, Int.reduceEq, Int.reduceLT, Int.reduceLE, Int.reduceToNat, dite_true, g3, e2, h0, h01, ht, k1, k2]
    refine CallV.pure (sign _ F5) ?_
    rintro _ F7 hF7 rfl
    cases hrb : signB (s.extract a (a + 1)) with
    | true =>
      simp only [push_cast, ↓reduceIte, Nat.reduceEqDiff, Nat.reduceAdd, Nat.reduceMul, Nat.reduceSub, Nat.reduceLT, Nat.reduceLeDiff, reduceCtorEq, Nat.reduceMod, Int.reduceEq, Int.reduceLT, Int.reduceLE, Int.reduceToNat, dite_true, e2, e3, h0, h01, ht, k1, k2]
      refine ⟨[_, _, _], [], (by simp only [push_cast, ↓reduceIte, Nat.reduceEqDiff, Nat.reduceAdd, Nat.reduceMul, Nat.reduceSub, Nat.reduceLT, Nat.reduceLeDiff, reduceCtorEq, Nat.reduceMod, Int.reduceEq, Int.reduceLT, Int.reduceLE, Int.reduceToNat, dite_true, rvals, rval1]; rfl), .sub (List.nil_sublist _), rfl, ?_⟩
      rw [show oneP s a = _ from by unfold oneP; rw [if_neg (by rw [h1]; decide), if_neg (by rw [h2]; decide), if_neg (fun z => g1 z.1), if_neg (fun z => z.elim (fun z => by rw [g2] at z; exact absurd z (by decide)) (fun z => g3 z.1)), if_neg (fun z => g3 z.1), if_pos hrb]]; rfl
    | false =>
      simp only [push_cast, ↓reduceIte, Nat.reduceEqDiff, Nat.reduceAdd, Nat.reduceMul, Nat.reduceSub, Nat.reduceLT, Nat.reduceLeDiff, reduceCtorEq, Nat.reduceMod, Int.reduceEq, Int.reduceLT, Int.reduceLE, Int.reduceToNat, dite_true]
      refine ⟨[_, _, _], [], (by simp only [push_cast, ↓reduceIte, Nat.reduceEqDiff, Nat.reduceAdd, Nat.reduceMul, Nat.reduceSub, Nat.reduceLT, Nat.reduceLeDiff, reduceCtorEq, Nat.reduceMod, Int.reduceEq, Int.reduceLT, Int.reduceLE, Int.reduceToNat, dite_true, rvals, rval1]; rfl), .sub (List.nil_sublist _), rfl, ?_⟩
      rw [show oneP s a = _ from by unfold oneP; rw [if_neg (by rw [h1]; decide), if_neg (by rw [h2]; decide), if_neg (fun z => g1 z.1), if_neg (fun z => z.elim (fun z => by rw [g2] at z; exact absurd z (by decide)) (fun z => g3 z.1)), if_neg (fun z => g3 z.1), if_neg (by rw [hrb]; decide)]]; rfl
  simp only [push_cast, ↓reduceIte, Nat.reduceEqDiff, Nat.reduceAdd, Nat.reduceMul, Nat.reduceSub, Nat.reduceLT, Nat.reduceLeDiff, reduceCtorEq, Nat.reduceMod, Int.reduceEq, Int.reduceLT, Int.reduceLE, Int.reduceToNat, dite_true, eq_true g3]
  refine CallV.pure (digit c8 F5) ?_
  rintro _ F6 hF6 rfl
  cases g4 : digitB c8 with
  | true =>
    simp only [push_cast, ↓reduceIte, Nat.reduceEqDiff, Nat.reduceAdd, Nat.reduceMul, Nat.reduceSub, Nat.reduceLT, Nat.reduceLeDiff, reduceCtorEq, Nat.reduceMod, Int.reduceEq, Int.reduceLT, Int.reduceLE, Int.reduceToNat, dite_true, e2]
    refine VC.loopM (ι := Nat × PH) (fun i => [(9, .v (.int .i64 i.1)), (4, .o 0 b4 0), (1, .v (.int .i64 a)), (0, .v (.string s))]) (fun _ => [⟨0, b4, 71, tokC ⟨0, ⟨#[]⟩, 0, 0⟩⟩]) (fun i => i.2) (fun i => a < i.1 ∧ i.1 ≤ s.size ∧ digE s i.1 = digE s (a + 1)) (fun i => s.size - i.1) (a + 1, F6) ⟨by omega, ha, rfl⟩ (by simp [subk, Eng.look]) (List.Sublist.refl _) rfl ?_
    rintro ⟨i, F8⟩ ⟨hi, hi2, hi3⟩ G hG
    dsimp only at hi hi2 hi3 hG ⊢
    rw [digE_eq] at hi3
    have c11 : (0 : Int) ≤ (i : Int) := by omega
    have c12 : (i : Int) ≤ (s.size : Int) := by omega
    have c22 : (a : Int) ≤ (i : Int) := by omega
    refine VC.go 100 ?_
    by_cases p : i < s.size
    case neg =>
      have p' : ¬ (i : Int) < (s.size : Int) := by omega
      rw [if_neg (fun z => p z.1)] at hi3
      subst hi3
      simp only [push_cast, ↓reduceIte, Nat.reduceEqDiff, Nat.reduceAdd, Nat.reduceMul, Nat.reduceSub, Nat.reduceLT, Nat.reduceLeDiff, reduceCtorEq, Nat.reduceMod, Int.reduceEq, Int.reduceLT, Int.reduceLE, Int.reduceToNat, dite_true, p', h0, c11, c12, c22]
      refine CallV.pure (number (s.extract a (digE s (a + 1))) (by rw [ByteArray.size_extract]; omega) (by rw [ByteArray.size_extract]; omega) (int_pre ha (.inr g3)) F8) ?_
      rintro _ F9 hF9 ⟨m, ok, rfl, hint⟩
      cases ok with
      | true =>
        simp only [push_cast, ↓reduceIte, Nat.reduceEqDiff, Nat.reduceAdd, Nat.reduceMul, Nat.reduceSub, Nat.reduceLT, Nat.reduceLeDiff, reduceCtorEq, Nat.reduceMod, Int.reduceEq, Int.reduceLT, Int.reduceLE, Int.reduceToNat, dite_true]
        refine ⟨[_, _, _], [], (by simp only [push_cast, ↓reduceIte, Nat.reduceEqDiff, Nat.reduceAdd, Nat.reduceMul, Nat.reduceSub, Nat.reduceLT, Nat.reduceLeDiff, reduceCtorEq, Nat.reduceMod, Int.reduceEq, Int.reduceLT, Int.reduceLE, Int.reduceToNat, dite_true, rvals, rval1]; rfl), .sub (List.nil_sublist _), rfl, ?_⟩
        rw [show oneP s a = _ from by unfold oneP; rw [if_neg (by rw [h1]; decide), if_neg (by rw [h2]; decide), if_neg (fun z => g1 z.1), if_pos (.inr ⟨g3, by rw [← hc8]; exact g4⟩), hint]]; rfl
      | false =>
        simp only [push_cast, ↓reduceIte, Nat.reduceEqDiff, Nat.reduceAdd, Nat.reduceMul, Nat.reduceSub, Nat.reduceLT, Nat.reduceLeDiff, reduceCtorEq, Nat.reduceMod, Int.reduceEq, Int.reduceLT, Int.reduceLE, Int.reduceToNat, dite_true]
        refine ⟨[_, _, _], [], (by simp only [push_cast, ↓reduceIte, Nat.reduceEqDiff, Nat.reduceAdd, Nat.reduceMul, Nat.reduceSub, Nat.reduceLT, Nat.reduceLeDiff, reduceCtorEq, Nat.reduceMod, Int.reduceEq, Int.reduceLT, Int.reduceLE, Int.reduceToNat, dite_true, rvals, rval1]; rfl), .sub (List.nil_sublist _), rfl, ?_⟩
        rw [show oneP s a = _ from by unfold oneP; rw [if_neg (by rw [h1]; decide), if_neg (by rw [h2]; decide), if_neg (fun z => g1 z.1), if_pos (.inr ⟨g3, by rw [← hc8]; exact g4⟩), hint]]; rfl
    have p' : (i : Int) < (s.size : Int) := by omega
    have hci : ((s.data.getD i 0).toNat : Int) = ch s i := rfl
    have e4 : IntKind.i64.wrap ((i : Int) + 1) = ((i + 1 : Nat) : Int) := wadd i p (small_max hs)
    simp only [push_cast, ↓reduceIte, Nat.reduceEqDiff, Nat.reduceAdd, Nat.reduceMul, Nat.reduceSub, Nat.reduceLT, Nat.reduceLeDiff, reduceCtorEq, Nat.reduceMod, Int.reduceEq, Int.reduceLT, Int.reduceLE, Int.reduceToNat, dite_true, p', c11, hci]
    refine CallV.pure (digit (ch s i) F8) ?_
    rintro _ F10 hF10 rfl
    cases hdi : digitB (ch s i) with
    | true =>
      rw [if_pos ⟨p, hdi⟩] at hi3
      simp only [push_cast, ↓reduceIte, Nat.reduceEqDiff, Nat.reduceAdd, Nat.reduceMul, Nat.reduceSub, Nat.reduceLT, Nat.reduceLeDiff, reduceCtorEq, Nat.reduceMod, Int.reduceEq, Int.reduceLT, Int.reduceLE, Int.reduceToNat, dite_true, e4]
      exact hG (i + 1, F10) _ ⟨by omega, by omega, hi3⟩ (by simp; omega) (by simp [subk, Eng.look]) (List.Sublist.refl _) rfl rfl
    | false =>
      rw [if_neg (fun z => by rw [hdi] at z; exact absurd z.2 (by decide))] at hi3
      subst hi3
      simp only [push_cast, ↓reduceIte, Nat.reduceEqDiff, Nat.reduceAdd, Nat.reduceMul, Nat.reduceSub, Nat.reduceLT, Nat.reduceLeDiff, reduceCtorEq, Nat.reduceMod, Int.reduceEq, Int.reduceLT, Int.reduceLE, Int.reduceToNat, dite_true, h0, c11, c12, c22]
      refine CallV.pure (number (s.extract a (digE s (a + 1))) (by rw [ByteArray.size_extract]; omega) (by rw [ByteArray.size_extract]; omega) (int_pre ha (.inr g3)) F10) ?_
      rintro _ F9 hF9 ⟨m, ok, rfl, hint⟩
      cases ok with
      | true =>
        simp only [push_cast, ↓reduceIte, Nat.reduceEqDiff, Nat.reduceAdd, Nat.reduceMul, Nat.reduceSub, Nat.reduceLT, Nat.reduceLeDiff, reduceCtorEq, Nat.reduceMod, Int.reduceEq, Int.reduceLT, Int.reduceLE, Int.reduceToNat, dite_true]
        refine ⟨[_, _, _], [], (by simp only [push_cast, ↓reduceIte, Nat.reduceEqDiff, Nat.reduceAdd, Nat.reduceMul, Nat.reduceSub, Nat.reduceLT, Nat.reduceLeDiff, reduceCtorEq, Nat.reduceMod, Int.reduceEq, Int.reduceLT, Int.reduceLE, Int.reduceToNat, dite_true, rvals, rval1]; rfl), .sub (List.nil_sublist _), rfl, ?_⟩
        rw [show oneP s a = _ from by unfold oneP; rw [if_neg (by rw [h1]; decide), if_neg (by rw [h2]; decide), if_neg (fun z => g1 z.1), if_pos (.inr ⟨g3, by rw [← hc8]; exact g4⟩), hint]]; rfl
      | false =>
        simp only [push_cast, ↓reduceIte, Nat.reduceEqDiff, Nat.reduceAdd, Nat.reduceMul, Nat.reduceSub, Nat.reduceLT, Nat.reduceLeDiff, reduceCtorEq, Nat.reduceMod, Int.reduceEq, Int.reduceLT, Int.reduceLE, Int.reduceToNat, dite_true]
        refine ⟨[_, _, _], [], (by simp only [push_cast, ↓reduceIte, Nat.reduceEqDiff, Nat.reduceAdd, Nat.reduceMul, Nat.reduceSub, Nat.reduceLT, Nat.reduceLeDiff, reduceCtorEq, Nat.reduceMod, Int.reduceEq, Int.reduceLT, Int.reduceLE, Int.reduceToNat, dite_true, rvals, rval1]; rfl), .sub (List.nil_sublist _), rfl, ?_⟩
        rw [show oneP s a = _ from by unfold oneP; rw [if_neg (by rw [h1]; decide), if_neg (by rw [h2]; decide), if_neg (fun z => g1 z.1), if_pos (.inr ⟨g3, by rw [← hc8]; exact g4⟩), hint]]; rfl
  | false =>
  by_cases g5 : c8 = 62
  · simp only [push_cast, ↓reduceIte, Nat.reduceEqDiff, Nat.reduceAdd, Nat.reduceMul, Nat.reduceSub, Nat.reduceLT, Nat.reduceLeDiff, reduceCtorEq, Nat.reduceMod, Int.reduceEq, Int.reduceLT, Int.reduceLE, Int.reduceToNat, dite_true, eq_true g3, eq_true g5, e3]
    refine ⟨[_, _, _], [], (by simp only [push_cast, ↓reduceIte, Nat.reduceEqDiff, Nat.reduceAdd, Nat.reduceMul, Nat.reduceSub, Nat.reduceLT, Nat.reduceLeDiff, reduceCtorEq, Nat.reduceMod, Int.reduceEq, Int.reduceLT, Int.reduceLE, Int.reduceToNat, dite_true, rvals, rval1]; rfl), .sub (List.nil_sublist _), rfl, ?_⟩
    rw [show oneP s a = _ from by unfold oneP; rw [if_neg (by rw [h1]; decide), if_neg (by rw [h2]; decide), if_neg (fun z => g1 z.1), if_neg (fun z => z.elim (fun z => by rw [g2] at z; exact absurd z (by decide)) (fun z => by rw [← hc8, g4] at z; exact absurd z.2 (by decide))), if_pos ⟨g3, by rw [← hc8]; exact g5⟩]]; rfl
  · simp only [push_cast, ↓reduceIte, Nat.reduceEqDiff, Nat.reduceAdd, Nat.reduceMul, Nat.reduceSub, Nat.reduceLT, Nat.reduceLeDiff, reduceCtorEq, Nat.reduceMod, Int.reduceEq, Int.reduceLT, Int.reduceLE, Int.reduceToNat, dite_true, eq_true g3, g5, e2, h0, h01, ht, k1, k2]
    refine CallV.pure (sign _ F6) ?_
    rintro _ F7 hF7 rfl
    cases hrb : signB (s.extract a (a + 1)) with
    | true =>
      simp only [push_cast, ↓reduceIte, Nat.reduceEqDiff, Nat.reduceAdd, Nat.reduceMul, Nat.reduceSub, Nat.reduceLT, Nat.reduceLeDiff, reduceCtorEq, Nat.reduceMod, Int.reduceEq, Int.reduceLT, Int.reduceLE, Int.reduceToNat, dite_true, e2, e3, h0, h01, ht, k1, k2]
      refine ⟨[_, _, _], [], (by simp only [push_cast, ↓reduceIte, Nat.reduceEqDiff, Nat.reduceAdd, Nat.reduceMul, Nat.reduceSub, Nat.reduceLT, Nat.reduceLeDiff, reduceCtorEq, Nat.reduceMod, Int.reduceEq, Int.reduceLT, Int.reduceLE, Int.reduceToNat, dite_true, rvals, rval1]; rfl), .sub (List.nil_sublist _), rfl, ?_⟩
      rw [show oneP s a = _ from by unfold oneP; rw [if_neg (by rw [h1]; decide), if_neg (by rw [h2]; decide), if_neg (fun z => g1 z.1), if_neg (fun z => z.elim (fun z => by rw [g2] at z; exact absurd z (by decide)) (fun z => by rw [← hc8, g4] at z; exact absurd z.2 (by decide))), if_neg (fun z => g5 (by rw [hc8]; exact z.2)), if_pos hrb]]; rfl
    | false =>
      simp only [push_cast, ↓reduceIte, Nat.reduceEqDiff, Nat.reduceAdd, Nat.reduceMul, Nat.reduceSub, Nat.reduceLT, Nat.reduceLeDiff, reduceCtorEq, Nat.reduceMod, Int.reduceEq, Int.reduceLT, Int.reduceLE, Int.reduceToNat, dite_true]
      refine ⟨[_, _, _], [], (by simp only [push_cast, ↓reduceIte, Nat.reduceEqDiff, Nat.reduceAdd, Nat.reduceMul, Nat.reduceSub, Nat.reduceLT, Nat.reduceLeDiff, reduceCtorEq, Nat.reduceMod, Int.reduceEq, Int.reduceLT, Int.reduceLE, Int.reduceToNat, dite_true, rvals, rval1]; rfl), .sub (List.nil_sublist _), rfl, ?_⟩
      rw [show oneP s a = _ from by unfold oneP; rw [if_neg (by rw [h1]; decide), if_neg (by rw [h2]; decide), if_neg (fun z => g1 z.1), if_neg (fun z => z.elim (fun z => by rw [g2] at z; exact absurd z (by decide)) (fun z => by rw [← hc8, g4] at z; exact absurd z.2 (by decide))), if_neg (fun z => g5 (by rw [hc8]; exact z.2)), if_neg (by rw [hrb]; decide)]]; rfl
end Go.Proofs.YtmiekonofocboaaGreatDoor.X

/- The lexer of the definition, as a function of the text: all tokens. (Written by gen/b5.py.) -/
namespace Go.Proofs.YtmiekonofocboaaGreatDoor.X
open Go Go.Eng Go.Proofs Go.Proofs.YtmiekonofocboaaGreatDoor.T Go.Proofs.YtmiekonofocboaaGreatDoor.K
set_option linter.unusedSimpArgs false
set_option linter.unusedVariables false
set_option linter.unusedSectionVars false
set_option maxRecDepth 100000
set_option maxHeartbeats 4000000
theorem RTok.len (t : Tok) (c : List Value) (h : RTok t c) : c.length = 4 := by cases h; rfl
theorem oneP_next {s : ByteArray} {a : Nat} (ha : a < s.size) (he : (oneP s a).2.2 = 0) : ∃ j : Nat, (oneP s a).2.1 = j ∧ a < j ∧ j ≤ s.size := by
  have r1 := runE_le s (i := a) (by omega)
  have r2 := runE_le s (i := a + 1) (by omega)
  have d1 := digE_le s (i := a + 1) (by omega)
  have rl := fun h => runE_lt s ha h
  unfold oneP at he ⊢
  split
  · rename_i h
    have := rl (by simp [wordB, h])
    split <;> exact ⟨_, rfl, this, r1.2⟩
  rename_i h1
  rw [if_neg h1] at he
  split
  · rename_i h
    exact ⟨_, rfl, rl (by simp [wordB, h]), r1.2⟩
  rename_i h2
  rw [if_neg h2] at he
  split
  · exact ⟨_, rfl, by omega, r2.2⟩
  rename_i h3
  rw [if_neg h3] at he
  split
  · rename_i h4
    rw [if_pos h4] at he
    split
    · exact ⟨_, rfl, by omega, d1.2.1⟩
    · rename_i hn
      rw [hn] at he
      simp at he
  rename_i h4
  rw [if_neg h4] at he
  split
  · rename_i h5
    have hn := h5.2
    unfold nxt at hn
    split at hn
    · exact ⟨a + 2, by simp, by omega, by omega⟩
    · exact absurd hn (by decide)
  rename_i h5
  rw [if_neg h5] at he
  split
  · exact ⟨a + 1, by simp, by omega, by omega⟩
  · rename_i h6
    rw [if_neg h6] at he
    exact absurd he (by decide)
/-- All tokens from a place on, behind some others; or what is wrong. -/
def scanF (s : ByteArray) : Nat → Nat → List Tok → List Tok × Int × Int
  | 0, _, l => (l, 0, 0)
  | n + 1, a, l => if a < s.size then (if ¬ (oneP s a).2.2 = 0 then ([], (a : Int), (oneP s a).2.2) else if 32 < (oneP s a).1.tx.size then ([], (a : Int), 21) else scanF s n (skipE s (oneP s a).2.1.toNat) (l ++ [(oneP s a).1])) else (l, 0, 0)
def scanE (s : ByteArray) (a : Nat) (l : List Tok) : List Tok × Int × Int := scanF s (s.size - a) a l
theorem next_lt {s : ByteArray} {a : Nat} (ha : a < s.size) (he : (oneP s a).2.2 = 0) : a < skipE s (oneP s a).2.1.toNat ∧ skipE s (oneP s a).2.1.toNat ≤ s.size := by
  obtain ⟨j, h1, h2, h3⟩ := oneP_next ha he
  have := skipE_le s h3
  rw [h1, Int.toNat_natCast]
  omega
theorem scanF_any (s : ByteArray) : ∀ n m a l, s.size - a ≤ n → s.size - a ≤ m → scanF s n a l = scanF s m a l
  | 0, 0, _, _, _, _ => rfl
  | 0, m + 1, a, l, h, _ => by simp only [scanF]; rw [if_neg (by omega)]
  | n + 1, 0, a, l, _, h => by simp only [scanF]; rw [if_neg (by omega)]
  | n + 1, m + 1, a, l, h1, h2 => by
    simp only [scanF]
    by_cases h : a < s.size
    · rw [if_pos h, if_pos h]
      by_cases he : (oneP s a).2.2 = 0
      · rw [if_neg (show ¬ ¬ (oneP s a).2.2 = 0 from fun k => k he), if_neg (show ¬ ¬ (oneP s a).2.2 = 0 from fun k => k he)]
        split
        · rfl
        · have := next_lt h he
          exact scanF_any s n m _ _ (by omega) (by omega)
      · rw [if_pos he, if_pos he]
    · rw [if_neg h, if_neg h]
theorem scanE_eq (s : ByteArray) (a : Nat) (l : List Tok) : scanE s a l = if a < s.size then (if ¬ (oneP s a).2.2 = 0 then ([], (a : Int), (oneP s a).2.2) else if 32 < (oneP s a).1.tx.size then ([], (a : Int), 21) else scanE s (skipE s (oneP s a).2.1.toNat) (l ++ [(oneP s a).1])) else (l, 0, 0) := by
  unfold scanE
  by_cases h : a < s.size
  · obtain ⟨n, hn⟩ : ∃ n, s.size - a = n + 1 := ⟨s.size - a - 1, by omega⟩
    rw [hn, if_pos h]
    simp only [scanF]
    rw [if_pos h]
    by_cases he : (oneP s a).2.2 = 0
    · rw [if_neg (show ¬ ¬ (oneP s a).2.2 = 0 from fun k => k he), if_neg (show ¬ ¬ (oneP s a).2.2 = 0 from fun k => k he)]
      split
      · rfl
      · have := next_lt h he
        exact scanF_any s _ _ _ _ (by omega) (by omega)
    · rw [if_pos he, if_pos he]
  · rw [show s.size - a = 0 by omega, if_neg h]
    rfl
def scanAll (s : ByteArray) : List Tok × Int × Int := if 16384 < s.size then ([], 0, 3) else scanE s (skipE s 0) []
theorem scan (s : ByteArray) (F : PH) : PFn Tryz.prog 38 [.string s] F
    (fun v F' => ∃ sl, v = .tuple #[sl, .int .i64 (scanAll s).2.1, .int .i64 (scanAll s).2.2] ∧ Toks F' sl (scanAll s).1 ∧ (scanAll s).1.length ≤ 16384 ∧ ∀ t ∈ (scanAll s).1, t.tx.size ≤ 32) := by
  refine Fn.intro (n := 46) (ts := [2, 3, 4]) Tryz.func38 rfl rfl rfl rfl (by simp) fun B hB => VC.go 100 ?_
  by_cases g : (s.size : Int) > 16384
  · have hA : scanAll s = ([], 0, 3) := by unfold scanAll; rw [if_pos (by omega)]
    rw [hA]
    simp only [push_cast, ↓reduceIte, Nat.reduceEqDiff, Nat.reduceAdd, Nat.reduceMul, Nat.reduceSub, Nat.reduceLT, Nat.reduceLeDiff, reduceCtorEq, Nat.reduceMod, Int.reduceEq, Int.reduceLT, Int.reduceLE, Int.reduceToNat, dite_true, eq_true g]
    exact RetOk.p rfl ⟨_, rfl, nil_sle _ _ _, by simp⟩
  have hs : s.size ≤ 16384 := by omega
  have hA : scanAll s = scanE s (skipE s 0) [] := by unfold scanAll; rw [if_neg (by omega)]
  rw [hA]
  simp only [push_cast, ↓reduceIte, Nat.reduceEqDiff, Nat.reduceAdd, Nat.reduceMul, Nat.reduceSub, Nat.reduceLT, Nat.reduceLeDiff, reduceCtorEq, Nat.reduceMod, Int.reduceEq, Int.reduceLT, Int.reduceLE, Int.reduceToNat, dite_true, g]
  refine CallV.pure (skip s 0 (Nat.zero_le _) hs F) ?_
  rintro _ F1 hF1 rfl
  have hj0 := (skipE_le s (i := 0) (by omega)).2
  obtain ⟨j0, hjd⟩ : ∃ j0, j0 = skipE s 0 := ⟨_, rfl⟩
  rw [← hjd] at hj0 ⊢
  simp only [push_cast, ↓reduceIte, Nat.reduceEqDiff, Nat.reduceAdd, Nat.reduceMul, Nat.reduceSub, Nat.reduceLT, Nat.reduceLeDiff, reduceCtorEq, Nat.reduceMod, Int.reduceEq, Int.reduceLT, Int.reduceLE, Int.reduceToNat, dite_true]
  refine VC.emp ?_
  refine VC.loopW (ι := Nat × Value × List Tok × PH × PH) (fun i => [(6, .v (.int .i64 i.1)), (5, .v i.2.1), (0, .v (.string s))]) (fun _ => []) (fun i => i.2.2.2.1) (fun i => [i.2.2.2.2]) (fun i => i.1 ≤ s.size ∧ scanE s i.1 i.2.2.1 = scanE s j0 [] ∧ i.2.2.1.length ≤ i.1 ∧ (∀ t ∈ i.2.2.1, t.tx.size ≤ 32) ∧ ∃ xs, Row i.2.2.2.2 71 4 i.2.1 xs ∧ Each RTok i.2.2.1 xs) (fun i => s.size - i.1) (j0, .slice none 0 0, [], F1, PH.emp) ⟨hj0, rfl, Nat.zero_le _, by simp, [], Row.nil _ _, rfl⟩ (by simp [subk, Eng.look]) (List.Sublist.refl _) rfl (subR_refl _) ?_
  rintro ⟨a, v5, l, F2, r⟩ ⟨ha, hsc, hl, hsz, xs, hr, hea⟩ G hG
  dsimp only at ha hsc hl hsz hr hea hG ⊢
  rw [scanE_eq] at hsc
  have hxl := Each.len RTok.len hea
  obtain ⟨p5, n5, c5, rfl⟩ := hr.val
  by_cases h : a < s.size
  case neg =>
    have h' : ¬ (a : Int) < (s.size : Int) := by omega
    refine VC.freezeR (List.Perm.refl _) fun F3 hF3 hrF => ?_
    refine VC.go 100 ?_
    simp only [push_cast, ↓reduceIte, Nat.reduceEqDiff, Nat.reduceAdd, Nat.reduceMul, Nat.reduceSub, Nat.reduceLT, Nat.reduceLeDiff, reduceCtorEq, Nat.reduceMod, Int.reduceEq, Int.reduceLT, Int.reduceLE, Int.reduceToNat, dite_true, h']
    rw [if_neg h] at hsc
    rw [← hsc]
    exact RetOk.p rfl ⟨_, rfl, row_sle (by decide) RTok.len hr hea hrF, by dsimp only; omega, hsz⟩
  have h' : (a : Int) < (s.size : Int) := by omega
  refine VC.go 100 ?_
  simp only [push_cast, ↓reduceIte, Nat.reduceEqDiff, Nat.reduceAdd, Nat.reduceMul, Nat.reduceSub, Nat.reduceLT, Nat.reduceLeDiff, reduceCtorEq, Nat.reduceMod, Int.reduceEq, Int.reduceLT, Int.reduceLE, Int.reduceToNat, dite_true, h']
  refine CallV.pure (one s a h hs F2) ?_
  rintro _ F3 hF3 rfl
  rw [if_pos h] at hsc
  have hnx := fun he => oneP_next (s := s) (a := a) h he
  obtain ⟨⟨t, nx, e⟩, hone⟩ : ∃ r, r = oneP s a := ⟨_, rfl⟩
  rw [← hone] at hsc hnx ⊢
  dsimp only at hsc hnx ⊢
  simp only [push_cast, ↓reduceIte, Nat.reduceEqDiff, Nat.reduceAdd, Nat.reduceMul, Nat.reduceSub, Nat.reduceLT, Nat.reduceLeDiff, reduceCtorEq, Nat.reduceMod, Int.reduceEq, Int.reduceLT, Int.reduceLE, Int.reduceToNat, dite_true]
  intro b7
  by_cases he : e = 0
  case neg =>
    rw [if_pos he] at hsc
    rw [← hsc]
    simp only [push_cast, ↓reduceIte, Nat.reduceEqDiff, Nat.reduceAdd, Nat.reduceMul, Nat.reduceSub, Nat.reduceLT, Nat.reduceLeDiff, reduceCtorEq, Nat.reduceMod, Int.reduceEq, Int.reduceLT, Int.reduceLE, Int.reduceToNat, dite_true, he]
    exact RetOk.p rfl ⟨_, rfl, nil_sle _ _ _, by simp⟩
  rw [if_neg (show ¬ ¬ e = 0 from fun k => k he)] at hsc
  obtain ⟨j, rfl, hj1, hj2⟩ := hnx he
  by_cases g3 : (t.tx.size : Int) > 32
  · rw [if_pos (by omega)] at hsc
    rw [← hsc]
    simp only [push_cast, ↓reduceIte, Nat.reduceEqDiff, Nat.reduceAdd, Nat.reduceMul, Nat.reduceSub, Nat.reduceLT, Nat.reduceLeDiff, reduceCtorEq, Nat.reduceMod, Int.reduceEq, Int.reduceLT, Int.reduceLE, Int.reduceToNat, dite_true, eq_true he, eq_true g3]
    exact RetOk.p rfl ⟨_, rfl, nil_sle _ _ _, by simp⟩
  rw [if_neg (by omega)] at hsc
  rw [Int.toNat_natCast] at hsc
  simp only [push_cast, ↓reduceIte, Nat.reduceEqDiff, Nat.reduceAdd, Nat.reduceMul, Nat.reduceSub, Nat.reduceLT, Nat.reduceLeDiff, reduceCtorEq, Nat.reduceMod, Int.reduceEq, Int.reduceLT, Int.reduceLE, Int.reduceToNat, dite_true, eq_true he, g3]
  intro b40 F4 hF4 hb40
  refine Eff.append (xs := xs) (ys := tokC t) rfl rfl rfl ty72 rfl ty71 rfl (by decide) rfl rfl (List.Perm.refl _) hr (Src.blk hb40 rfl) (by simp [Value.oneCell']) (by simp; omega) (by decide) ?_
  intro v' r' hr'
  obtain ⟨p6, n6, c6, rfl⟩ := hr'.val
  simp only [push_cast, ↓reduceIte, Nat.reduceEqDiff, Nat.reduceAdd, Nat.reduceMul, Nat.reduceSub, Nat.reduceLT, Nat.reduceLeDiff, reduceCtorEq, Nat.reduceMod, Int.reduceEq, Int.reduceLT, Int.reduceLE, Int.reduceToNat, dite_true]
  refine CallV.pure (skip s j hj2 hs F4) ?_
  rintro _ F5 hF5 rfl
  obtain ⟨hj5, hj6⟩ := skipE_le s hj2
  simp only [push_cast, ↓reduceIte, Nat.reduceEqDiff, Nat.reduceAdd, Nat.reduceMul, Nat.reduceSub, Nat.reduceLT, Nat.reduceLeDiff, reduceCtorEq, Nat.reduceMod, Int.reduceEq, Int.reduceLT, Int.reduceLE, Int.reduceToNat, dite_true]
  refine hG (skipE s j, _, l ++ [t], F5, r') _ ⟨hj6, hsc, by simp; omega, fun t' ht' => ?_, _, hr', each_snoc hea rfl⟩ (by simp; omega) (by simp [subk, Eng.look]) (List.nil_sublist _) rfl (subR_refl _)
  rcases List.mem_append.1 ht' with k | k
  · exact hsz t' k
  · rw [List.mem_singleton.1 k]; omega
end Go.Proofs.YtmiekonofocboaaGreatDoor.X

/- The lexer of the definition, as a function of the text: words. -/
namespace Go.Proofs.YtmiekonofocboaaGreatDoor.X
open Go Go.Eng Go.Proofs Go.Proofs.YtmiekonofocboaaGreatDoor.T Go.Proofs.YtmiekonofocboaaGreatDoor.K
set_option linter.unusedSimpArgs false
set_option linter.unusedVariables false
set_option linter.unusedSectionVars false
set_option maxRecDepth 100000
set_option maxHeartbeats 4000000
/-- A text that is one token of such a kind. -/
def WordP (s : ByteArray) (k : Int) : Prop := ¬ s = ⟨#[]⟩ ∧ s.size ≤ 32 ∧ (k = 1 ∨ k = 2 ∨ k = 3) ∧ (oneP s 0).2.2 = 0 ∧ (oneP s 0).1.k = k ∧ (oneP s 0).2.1 = s.size
instance (s : ByteArray) (k : Int) : Decidable (WordP s k) := by unfold WordP; exact inferInstance
theorem word (s : ByteArray) (k : Int) (F : PH) : PFn Tryz.prog 33 [.string s, .int .i64 k] F (fun v _ => v = .bool (decide (WordP s k))) := by
  refine Fn.intro (n := 45) (ts := [4]) Tryz.func33 rfl rfl rfl rfl (by simp) fun B hB => VC.go 100 ?_
  by_cases h1 : s = ⟨#[]⟩
  · have hW : ¬ WordP s k := fun h => h.1 h1
    simp only [push_cast, ↓reduceIte, Nat.reduceEqDiff, Nat.reduceAdd, Nat.reduceMul, Nat.reduceSub, Nat.reduceLT, Nat.reduceLeDiff, reduceCtorEq, Nat.reduceMod, Int.reduceEq, Int.reduceLT, Int.reduceLE, Int.reduceToNat, dite_true, eq_true h1]
    exact RetOk.p rfl (by simp [hW, rval])
  by_cases h2 : (s.size : Int) > 32
  · have hW : ¬ WordP s k := fun h => by have := h.2.1; omega
    simp only [push_cast, ↓reduceIte, Nat.reduceEqDiff, Nat.reduceAdd, Nat.reduceMul, Nat.reduceSub, Nat.reduceLT, Nat.reduceLeDiff, reduceCtorEq, Nat.reduceMod, Int.reduceEq, Int.reduceLT, Int.reduceLE, Int.reduceToNat, dite_true, h1, eq_true h2]
    exact RetOk.p rfl (by simp [hW, rval])
  have hpos : 0 < s.size := by
    refine Nat.pos_of_ne_zero fun h => h1 ?_
    have : s.data.size = 0 := h
    cases s
    simp at this
    subst this
    rfl
  by_cases h3 : k = 1 ∨ k = 2 ∨ k = 3
  case neg =>
    have n1 : ¬ k = 1 := by omega
    have n2 : ¬ k = 2 := by omega
    have n3 : ¬ k = 3 := by omega
    have hW : ¬ WordP s k := fun h => h3 h.2.2.1
    simp only [push_cast, ↓reduceIte, Nat.reduceEqDiff, Nat.reduceAdd, Nat.reduceMul, Nat.reduceSub, Nat.reduceLT, Nat.reduceLeDiff, reduceCtorEq, Nat.reduceMod, Int.reduceEq, Int.reduceLT, Int.reduceLE, Int.reduceToNat, dite_true, h1, h2, n1, n2, n3]
    exact RetOk.p rfl (by simp [hW, rval])
  have fin : ∀ b : Bool, (b = true ↔ WordP s k) → Value.bool b = .bool (decide (WordP s k)) := fun b hb => by
    congr 1
    cases b with
    | true => simp [hb.1 rfl]
    | false =>
      have : ¬ WordP s k := fun h => by have := hb.2 h; cases this
      simp [this]
  obtain ⟨⟨t, nx, e⟩, hone⟩ : ∃ r, r = oneP s 0 := ⟨_, rfl⟩
  have tail : ∀ b : Bool, b = (decide (e = 0) && (decide (t.k = k) && decide (nx = (s.size : Int)))) → Value.bool b = .bool (decide (WordP s k)) := fun b hb => fin b (by
    subst hb
    unfold WordP
    rw [← hone]
    simp only [Bool.and_eq_true, decide_eq_true_eq]
    exact ⟨fun ⟨g1, g2, g3⟩ => ⟨h1, by omega, h3, g1, g2, g3⟩, fun ⟨_, _, _, g1, g2, g3⟩ => ⟨g1, g2, g3⟩⟩)
  have hs0 : (oneV (oneP s 0)) = oneV (t, nx, e) := by rw [hone]
  rcases h3 with g | g | g
  · subst g
    simp only [push_cast, ↓reduceIte, Nat.reduceEqDiff, Nat.reduceAdd, Nat.reduceMul, Nat.reduceSub, Nat.reduceLT, Nat.reduceLeDiff, reduceCtorEq, Nat.reduceMod, Int.reduceEq, Int.reduceLT, Int.reduceLE, Int.reduceToNat, dite_true, h1, h2]
    refine CallV.pure (one s 0 hpos (by omega) F) ?_
    rintro _ F1 hF1 rfl
    rw [hs0]
    simp only [push_cast, ↓reduceIte, Nat.reduceEqDiff, Nat.reduceAdd, Nat.reduceMul, Nat.reduceSub, Nat.reduceLT, Nat.reduceLeDiff, reduceCtorEq, Nat.reduceMod, Int.reduceEq, Int.reduceLT, Int.reduceLE, Int.reduceToNat, dite_true]
    intro b5
    by_cases g1 : e = 0
    case neg =>
      simp only [push_cast, ↓reduceIte, Nat.reduceEqDiff, Nat.reduceAdd, Nat.reduceMul, Nat.reduceSub, Nat.reduceLT, Nat.reduceLeDiff, reduceCtorEq, Nat.reduceMod, Int.reduceEq, Int.reduceLT, Int.reduceLE, Int.reduceToNat, dite_true, g1]
      exact RetOk.p rfl (tail _ (by simp [g1]))
    by_cases g2 : t.k = 1
    case neg =>
      simp only [push_cast, ↓reduceIte, Nat.reduceEqDiff, Nat.reduceAdd, Nat.reduceMul, Nat.reduceSub, Nat.reduceLT, Nat.reduceLeDiff, reduceCtorEq, Nat.reduceMod, Int.reduceEq, Int.reduceLT, Int.reduceLE, Int.reduceToNat, dite_true, eq_true g1, g2]
      exact RetOk.p rfl (tail _ (by simp [g2]))
    simp only [push_cast, ↓reduceIte, Nat.reduceEqDiff, Nat.reduceAdd, Nat.reduceMul, Nat.reduceSub, Nat.reduceLT, Nat.reduceLeDiff, reduceCtorEq, Nat.reduceMod, Int.reduceEq, Int.reduceLT, Int.reduceLE, Int.reduceToNat, dite_true, eq_true g1, eq_true g2]
    exact RetOk.p rfl (tail _ (by simp [g1, g2]))
  · subst g
    simp only [push_cast, ↓reduceIte, Nat.reduceEqDiff, Nat.reduceAdd, Nat.reduceMul, Nat.reduceSub, Nat.reduceLT, Nat.reduceLeDiff, reduceCtorEq, Nat.reduceMod, Int.reduceEq, Int.reduceLT, Int.reduceLE, Int.reduceToNat, dite_true, h1, h2]
    refine CallV.pure (one s 0 hpos (by omega) F) ?_
    rintro _ F1 hF1 rfl
    rw [hs0]
    simp only [push_cast, ↓reduceIte, Nat.reduceEqDiff, Nat.reduceAdd, Nat.reduceMul, Nat.reduceSub, Nat.reduceLT, Nat.reduceLeDiff, reduceCtorEq, Nat.reduceMod, Int.reduceEq, Int.reduceLT, Int.reduceLE, Int.reduceToNat, dite_true]
    intro b5
    by_cases g1 : e = 0
    case neg =>
      simp only [push_cast, ↓reduceIte, Nat.reduceEqDiff, Nat.reduceAdd, Nat.reduceMul, Nat.reduceSub, Nat.reduceLT, Nat.reduceLeDiff, reduceCtorEq, Nat.reduceMod, Int.reduceEq, Int.reduceLT, Int.reduceLE, Int.reduceToNat, dite_true, g1]
      exact RetOk.p rfl (tail _ (by simp [g1]))
    by_cases g2 : t.k = 2
    case neg =>
      simp only [push_cast, ↓reduceIte, Nat.reduceEqDiff, Nat.reduceAdd, Nat.reduceMul, Nat.reduceSub, Nat.reduceLT, Nat.reduceLeDiff, reduceCtorEq, Nat.reduceMod, Int.reduceEq, Int.reduceLT, Int.reduceLE, Int.reduceToNat, dite_true, eq_true g1, g2]
      exact RetOk.p rfl (tail _ (by simp [g2]))
    simp only [push_cast, ↓reduceIte, Nat.reduceEqDiff, Nat.reduceAdd, Nat.reduceMul, Nat.reduceSub, Nat.reduceLT, Nat.reduceLeDiff, reduceCtorEq, Nat.reduceMod, Int.reduceEq, Int.reduceLT, Int.reduceLE, Int.reduceToNat, dite_true, eq_true g1, eq_true g2]
    exact RetOk.p rfl (tail _ (by simp [g1, g2]))
  · subst g
    simp only [push_cast, ↓reduceIte, Nat.reduceEqDiff, Nat.reduceAdd, Nat.reduceMul, Nat.reduceSub, Nat.reduceLT, Nat.reduceLeDiff, reduceCtorEq, Nat.reduceMod, Int.reduceEq, Int.reduceLT, Int.reduceLE, Int.reduceToNat, dite_true, h1, h2]
    refine CallV.pure (one s 0 hpos (by omega) F) ?_
    rintro _ F1 hF1 rfl
    rw [hs0]
    simp only [push_cast, ↓reduceIte, Nat.reduceEqDiff, Nat.reduceAdd, Nat.reduceMul, Nat.reduceSub, Nat.reduceLT, Nat.reduceLeDiff, reduceCtorEq, Nat.reduceMod, Int.reduceEq, Int.reduceLT, Int.reduceLE, Int.reduceToNat, dite_true]
    intro b5
    by_cases g1 : e = 0
    case neg =>
      simp only [push_cast, ↓reduceIte, Nat.reduceEqDiff, Nat.reduceAdd, Nat.reduceMul, Nat.reduceSub, Nat.reduceLT, Nat.reduceLeDiff, reduceCtorEq, Nat.reduceMod, Int.reduceEq, Int.reduceLT, Int.reduceLE, Int.reduceToNat, dite_true, g1]
      exact RetOk.p rfl (tail _ (by simp [g1]))
    by_cases g2 : t.k = 3
    case neg =>
      simp only [push_cast, ↓reduceIte, Nat.reduceEqDiff, Nat.reduceAdd, Nat.reduceMul, Nat.reduceSub, Nat.reduceLT, Nat.reduceLeDiff, reduceCtorEq, Nat.reduceMod, Int.reduceEq, Int.reduceLT, Int.reduceLE, Int.reduceToNat, dite_true, eq_true g1, g2]
      exact RetOk.p rfl (tail _ (by simp [g2]))
    simp only [push_cast, ↓reduceIte, Nat.reduceEqDiff, Nat.reduceAdd, Nat.reduceMul, Nat.reduceSub, Nat.reduceLT, Nat.reduceLeDiff, reduceCtorEq, Nat.reduceMod, Int.reduceEq, Int.reduceLT, Int.reduceLE, Int.reduceToNat, dite_true, eq_true g1, eq_true g2]
    exact RetOk.p rfl (tail _ (by simp [g1, g2]))
end Go.Proofs.YtmiekonofocboaaGreatDoor.X
