/- The lexer of the definition, as a function of the text: numbers. -/
import Derived.Test.YtoepmdbicdoieaaDoorB2
namespace Go.Proofs.YtoepmdbicdoieaaDoor.X
open Go Go.Eng Go.Proofs Go.Proofs.YtoepmdbicdoieaaDoor.T Go.Proofs.YtoepmdbicdoieaaDoor.K
set_option linter.unusedSimpArgs false
set_option linter.unusedVariables false
set_option maxRecDepth 100000
set_option maxHeartbeats 4000000
/-- The end of digits. -/
def digP (s : ByteArray) : Nat → Nat → Nat
  | 0, k => k
  | n + 1, k => if k < s.size ∧ digitB (ch s k) = true then digP s n (k + 1) else k
def digE (s : ByteArray) (k : Nat) : Nat := digP s (s.size - k) k
theorem digE_eq (s : ByteArray) (i : Nat) : digE s i = if i < s.size ∧ digitB (ch s i) = true then digE s (i + 1) else i := by
  unfold digE
  by_cases h : i < s.size
  · obtain ⟨n, hn⟩ : ∃ n, s.size - i = n + 1 := ⟨s.size - i - 1, by omega⟩
    rw [hn, show s.size - (i + 1) = n by omega]
    rfl
  · rw [show s.size - i = 0 by omega, if_neg (fun k => h k.1)]
    rfl
theorem digP_le (s : ByteArray) : ∀ n i, i ≤ s.size → i ≤ digP s n i ∧ digP s n i ≤ s.size ∧ ∀ k, i ≤ k → k < digP s n i → digitB (ch s k) = true
  | 0, i, h => ⟨Nat.le_refl _, h, fun k h1 h2 => absurd h2 (by simp only [digP]; omega)⟩
  | n + 1, i, h => by
    simp only [digP]
    split
    · rename_i k
      obtain ⟨h1, h2, h3⟩ := digP_le s n (i + 1) (by omega)
      refine ⟨by omega, h2, fun k' h4 h5 => ?_⟩
      by_cases e : k' = i
      · rw [e]; exact k.2
      · exact h3 k' (by omega) h5
    · exact ⟨Nat.le_refl _, h, fun k h1 h2 => by omega⟩
theorem digE_le (s : ByteArray) {i : Nat} (h : i ≤ s.size) : i ≤ digE s i ∧ digE s i ≤ s.size ∧ ∀ k, i ≤ k → k < digE s i → digitB (ch s k) = true := digP_le s _ i h
theorem ch_extract (s : ByteArray) {a j i : Nat} (h : a + i < j) (hj : j ≤ s.size) : ch (s.extract a j) i = ch s (a + i) := by
  have hs : s.size = s.data.size := rfl
  unfold ch
  rw [ByteArray.data_extract]
  have h1 : (s.data.extract a j).getD i 0 = s.data.getD (a + i) 0 := by
    rw [Array.getD_eq_getD_getElem?, Array.getD_eq_getD_getElem?, Array.getElem?_extract]
    rw [if_pos (by omega)]
  rw [h1]
/-- The value of digits, from a place on; none: beyond 2^63. -/
def numP (s : ByteArray) : Nat → Nat → Int → Option Int
  | 0, _, x => some x
  | n + 1, i, x => if i < s.size then (if 9223372036854775808 < x * 10 + (ch s i - 48) then none else numP s n (i + 1) (x * 10 + (ch s i - 48))) else some x
def numE (s : ByteArray) (i : Nat) (x : Int) : Option Int := numP s (s.size - i) i x
theorem numE_eq (s : ByteArray) (i : Nat) (x : Int) : numE s i x = if i < s.size then (if 9223372036854775808 < x * 10 + (ch s i - 48) then none else numE s (i + 1) (x * 10 + (ch s i - 48))) else some x := by
  unfold numE
  by_cases h : i < s.size
  · obtain ⟨n, hn⟩ : ∃ n, s.size - i = n + 1 := ⟨s.size - i - 1, by omega⟩
    rw [hn, show s.size - (i + 1) = n by omega]
    rfl
  · rw [show s.size - i = 0 by omega, if_neg h]
    rfl
/-- The number that digits are, perhaps with - ahead. -/
def intOf (s : ByteArray) : Option Int :=
  if ch s 0 = 45 then (numE s 1 0).map fun x => -x else match numE s 0 0 with
    | some x => if x < 9223372036854775808 then some x else none
    | none => none
theorem number (s : ByteArray) (h1 : 0 < s.size) (hs : s.size ≤ 16384) (hdig : ∀ i, i < s.size → (0 < i ∨ ¬ ch s 0 = 45) → digitB (ch s i) = true) (F : PH) :
    PFn Tryd.prog 73 [.string s] F (fun v _ => ∃ m b, v = .tuple #[.int .i64 m, .bool b] ∧ intOf s = if b = true then some m else none) := by
  refine Fn.intro (n := 43) (ts := [2, 3]) Tryd.func73 rfl rfl rfl rfl (by simp) fun B hB => ?_
  have h0 : (0 : Int) < (s.size : Int) := by omega
  have hc : ((s.data.getD 0 0).toNat : Int) = ch s 0 := rfl
  refine VC.go 7 ?_
  simp only [push_cast, ↓reduceIte, Nat.reduceEqDiff, Nat.reduceAdd, Nat.reduceMul, Nat.reduceSub, Nat.reduceLT, Nat.reduceLeDiff, reduceCtorEq, Nat.reduceMod, Int.reduceEq, Int.reduceLT, Int.reduceLE, Int.reduceToNat, dite_true, h0, hc]
  obtain ⟨m, hm⟩ : ∃ m, m = decide (ch s 0 = 45) := ⟨_, rfl⟩
  rw [← hm]
  refine VC.cutG (ι := Nat) (fun a => [(5, .v (.bool m)), (4, .v (.int .i64 a)), (0, .v (.string s))]) (fun _ => F) (fun _ => []) (fun a => a = if m = true then 1 else 0) ?_ ?_
  · intro G hG
    refine VC.go 100 ?_
    cases m with
    | true =>
      simp only [push_cast, ↓reduceIte, Nat.reduceEqDiff, Nat.reduceAdd, Nat.reduceMul, Nat.reduceSub, Nat.reduceLT, Nat.reduceLeDiff, reduceCtorEq, Nat.reduceMod, Int.reduceEq, Int.reduceLT, Int.reduceLE, Int.reduceToNat, dite_true]
      exact hG 1 _ rfl (by simp [subk, Eng.look]) (List.Sublist.refl _) rfl (List.Sublist.refl _)
    | false =>
      simp only [push_cast, ↓reduceIte, Nat.reduceEqDiff, Nat.reduceAdd, Nat.reduceMul, Nat.reduceSub, Nat.reduceLT, Nat.reduceLeDiff, reduceCtorEq, Nat.reduceMod, Int.reduceEq, Int.reduceLT, Int.reduceLE, Int.reduceToNat, dite_true]
      exact hG 0 _ rfl (by simp [subk, Eng.look]) (List.Sublist.refl _) rfl (List.Sublist.refl _)
  intro a ha
  have hal : a ≤ s.size := by subst ha; split <;> omega
  refine VC.go 100 ?_
  simp only [push_cast, ↓reduceIte, Nat.reduceEqDiff, Nat.reduceAdd, Nat.reduceMul, Nat.reduceSub, Nat.reduceLT, Nat.reduceLeDiff, reduceCtorEq, Nat.reduceMod, Int.reduceEq, Int.reduceLT, Int.reduceLE, Int.reduceToNat, dite_true]
  refine VC.loopL (fun i : Nat × Int => [(6, .v (.int .u64 i.2)), (5, .v (.bool m)), (4, .v (.int .i64 i.1)), (0, .v (.string s))]) (fun i => a ≤ i.1 ∧ i.1 ≤ s.size ∧ 0 ≤ i.2 ∧ i.2 ≤ 9223372036854775808 ∧ numE s i.1 i.2 = numE s a 0) (fun i => s.size - i.1) (a, 0) ⟨Nat.le_refl _, hal, Int.le_refl _, by simp, rfl⟩ (by simp [subk, Eng.look]) ?_
  rintro ⟨i, x⟩ ⟨hai, hi, hx0, hx1, hnum⟩ G hG
  dsimp only at hai hi hx0 hx1 hnum hG ⊢
  rw [numE_eq] at hnum
  refine VC.go 100 ?_
  by_cases h : i < s.size
  case neg =>
    have h' : ¬ (i : Int) < (s.size : Int) := by omega
    rw [if_neg h] at hnum
    cases m with
    | false =>
      have hm' : ¬ ch s 0 = 45 := by simpa using hm
      have ha0 : a = 0 := by simpa using ha
      subst ha0
      simp only [push_cast, ↓reduceIte, Nat.reduceEqDiff, Nat.reduceAdd, Nat.reduceMul, Nat.reduceSub, Nat.reduceLT, Nat.reduceLeDiff, reduceCtorEq, Nat.reduceMod, Int.reduceEq, Int.reduceLT, Int.reduceLE, Int.reduceToNat, dite_true, h']
      refine RetOk.p rfl ⟨_, _, rfl, ?_⟩
      unfold intOf
      rw [if_neg hm', ← hnum]
      by_cases g : x < 9223372036854775808
      · have e1 : IntKind.i64.wrap x = x := IntWalk.i64_in _ (by omega)
        simp [g, e1]
      · simp [g]
    | true =>
      have hm' : ch s 0 = 45 := by simpa using hm
      have ha0 : a = 1 := by simpa using ha
      subst ha0
      by_cases g : x = 9223372036854775808
      · simp only [push_cast, ↓reduceIte, Nat.reduceEqDiff, Nat.reduceAdd, Nat.reduceMul, Nat.reduceSub, Nat.reduceLT, Nat.reduceLeDiff, reduceCtorEq, Nat.reduceMod, Int.reduceEq, Int.reduceLT, Int.reduceLE, Int.reduceToNat, dite_true, h', eq_true g]
        refine RetOk.p rfl ⟨_, _, rfl, ?_⟩
        unfold intOf
        rw [if_pos hm', ← hnum, g]; rfl
      · have e1 : IntKind.i64.wrap x = x := IntWalk.i64_in _ (by omega)
        have e2 : IntKind.i64.wrap (0 - x) = 0 - x := IntWalk.i64_in _ (by omega)
        simp only [push_cast, ↓reduceIte, Nat.reduceEqDiff, Nat.reduceAdd, Nat.reduceMul, Nat.reduceSub, Nat.reduceLT, Nat.reduceLeDiff, reduceCtorEq, Nat.reduceMod, Int.reduceEq, Int.reduceLT, Int.reduceLE, Int.reduceToNat, dite_true, h', g, e1, e2]
        refine RetOk.p rfl ⟨_, _, rfl, ?_⟩
        unfold intOf
        rw [if_pos hm', ← hnum]
        simp
  rw [if_pos h] at hnum
  have h' : (i : Int) < (s.size : Int) := by omega
  have h0 : (0 : Int) ≤ (i : Int) := by omega
  have e2 : IntKind.i64.wrap ((i : Int) + 1) = ((i + 1 : Nat) : Int) := wadd i h (small_max hs)
  have hc : ((s.data.getD i 0).toNat : Int) = ch s i := rfl
  have hd := hdig i h (by
    by_cases e : 0 < i
    · exact .inl e
    · refine .inr fun k => ?_
      have : m = true := by rw [hm]; simpa using k
      rw [if_pos this] at ha
      omega)
  have hd1 : 48 ≤ ch s i ∧ ch s i ≤ 57 := by simpa [digitB] using hd
  have e5 : IntKind.u8.wrap (ch s i - 48) = ch s i - 48 := IntWalk.u8_in _ (by omega)
  have e6 : ∀ n : Int, 0 ≤ n → n ≤ 9223372036854775808 → IntKind.u64.wrap n = n := fun n k1 k2 => IntWalk.u64_in _ (by omega)
  have e7 : (9223372036854775808 - (ch s i - 48)).tdiv 10 = (9223372036854775808 - (ch s i - 48)) / 10 := Int.tdiv_eq_ediv_of_nonneg (by omega)
  have e8 := e6 (ch s i - 48) (by omega) (by omega)
  have e9 := e6 (9223372036854775808 - (ch s i - 48)) (by omega) (by omega)
  have e10 := e6 ((9223372036854775808 - (ch s i - 48)) / 10) (by omega) (by omega)
  by_cases hdv : (9223372036854775808 - (ch s i - 48)) / 10 < x
  · rw [if_pos (by omega)] at hnum
    simp only [push_cast, ↓reduceIte, Nat.reduceEqDiff, Nat.reduceAdd, Nat.reduceMul, Nat.reduceSub, Nat.reduceLT, Nat.reduceLeDiff, reduceCtorEq, Nat.reduceMod, Int.reduceEq, Int.reduceLT, Int.reduceLE, Int.reduceToNat, dite_true, h', h0, hc, e5, e8, e9, e7, e10, eq_true hdv]
    refine RetOk.p rfl ⟨_, _, rfl, ?_⟩
    unfold intOf
    cases m with
    | false =>
      have hm' : ¬ ch s 0 = 45 := by simpa using hm
      have ha0 : a = 0 := by simpa using ha
      subst ha0
      rw [if_neg hm', ← hnum]; rfl
    | true =>
      have hm' : ch s 0 = 45 := by simpa using hm
      have ha0 : a = 1 := by simpa using ha
      subst ha0
      rw [if_pos hm', ← hnum]; rfl
  · rw [if_neg (by omega)] at hnum
    have e11 := e6 (x * 10) (by omega) (by omega)
    have e12 := e6 (x * 10 + (ch s i - 48)) (by omega) (by omega)
    simp only [push_cast, ↓reduceIte, Nat.reduceEqDiff, Nat.reduceAdd, Nat.reduceMul, Nat.reduceSub, Nat.reduceLT, Nat.reduceLeDiff, reduceCtorEq, Nat.reduceMod, Int.reduceEq, Int.reduceLT, Int.reduceLE, Int.reduceToNat, dite_true, h', h0, hc, e5, e8, e9, e7, e10, hdv, e2, e11, e12]
    exact hG (i + 1, x * 10 + (ch s i - 48)) _ ⟨by omega, by omega, by dsimp only; omega, by dsimp only; omega, hnum⟩ (by simp; omega) (by simp [subk, Eng.look]) (List.Sublist.refl _) rfl rfl
end Go.Proofs.YtoepmdbicdoieaaDoor.X
