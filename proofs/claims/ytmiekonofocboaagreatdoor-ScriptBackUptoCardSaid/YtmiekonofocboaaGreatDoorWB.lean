/- Lines of a script as texts: what the program and the definition write. (Written by gen/wb.py.) -/
import Derived.Test.YtmiekonofocboaaGreatDoorWA
import Derived.Test.YtmiekonofocboaaGreatDoorLE
namespace Go.Proofs.YtmiekonofocboaaGreatDoor.Q
open Go Go.Eng Go.Lib Go.Proofs Go.Proofs.YtmiekonofocboaaGreatDoor.T Go.Proofs.YtmiekonofocboaaGreatDoor.K Go.Proofs.YtmiekonofocboaaGreatDoor.X
set_option linter.unusedSimpArgs false
set_option linter.unusedVariables false
set_option linter.unusedSectionVars false
set_option maxRecDepth 100000
set_option maxHeartbeats 4000000
structure LineD where
  kind : Int
  n : Int
  name : ByteArray
  nums : List Int
  depth : Int
  fuel : Int
  at_ : Int
  gen : Int
abbrev lineC (l : LineD) (v : Value) : List Value := [.int .i64 l.kind, .int .i64 l.n, .string l.name, v, .int .i64 l.depth, .int .i64 l.fuel, .int .i64 l.at_, .int .i64 l.gen]
def RLine (F : PH) (l : LineD) (cs : List Value) : Prop := ∃ v, cs = lineC l v ∧ Ints F v l.nums
theorem RLine.len {F : PH} {l : LineD} {cs : List Value} (h : RLine F l cs) : cs.length = 8 := by obtain ⟨v, rfl, _⟩ := h; rfl
theorem RLine.mono {F G : PH} {l : LineD} {cs : List Value} (h : RLine F l cs) (hl : F.le G) : RLine G l cs := let ⟨v, h1, h2⟩ := h; ⟨v, h1, h2.mono hl⟩
structure LineOk (l : LineD) : Prop where
  n : I64' l.n
  depth : I64' l.depth
  fuel : I64' l.fuel
  at_ : I64' l.at_
  gen : I64' l.gen
  nums : ∀ n ∈ l.nums, I64' n
  name : l.name.size ≤ 900000000
  len : l.nums.length ≤ 900000000
/-- What a line is written as; false: it is none. -/
def lineT (l : LineD) : ByteArray × Bool :=
  if l.kind = 1 then (wordsT (⟨#[109, 97, 107, 101, 32]⟩ ++ l.name) l.nums, decide (WordP l.name 1))
  else if l.kind = 2 then (wordsT ⟨#[115, 104, 111, 119]⟩ [l.n, l.depth, l.fuel], true)
  else if l.kind = 3 then (wordsT ⟨#[97, 116]⟩ [l.at_, l.gen], true)
  else if l.kind = 4 then (wordsT ⟨#[100, 114, 111, 112]⟩ [l.n], true)
  else if l.kind = 5 then (wordsT ⟨#[99, 111, 108, 108, 101, 99, 116]⟩ [l.n], true)
  else if l.kind = 6 then (wordsT ⟨#[111, 117, 116]⟩ [], true)
  else (⟨#[]⟩, false)
theorem max9 : (900000000 : Nat) ≤ maxLen := by decide
theorem ints_blk {F : PH} {b : Nat} {t : TypeId} {fr : Nat × Nat} {l : List Int} (h : F b = some (.cells (l.map (Value.int .i64)).toArray t fr)) (hl : l.length ≤ maxLen) : Ints F (.slice (some ⟨b, 0, none⟩) l.length l.length) l :=
  ⟨_, _, rfl, Nat.le_refl _, hl, Src.blk h (by simp)⟩
theorem ref_write (l : LineD) (hok : LineOk l) (F : PH) (cs : List Value) (hcs : RLine F l cs) : PFn Tryz.prog 22 [.agg cs.toArray] F (fun v _ => v = .tuple #[.string (lineT l).1, .bool (lineT l).2]) := by
  obtain ⟨v, rfl, hv⟩ := hcs
  have hv0 := hv
  obtain ⟨pv, cv, rfl, _, _, _⟩ := hv0
  have h9 := max9
  have e5 : ByteArray.size { data := #[109, 97, 107, 101, 32] } = 5 := rfl
  refine Fn.intro (n := 51) (ts := [2, 3]) Tryz.func22 rfl rfl rfl rfl (by simp) fun B hB => VC.go 100 ?_
  by_cases h1 : l.kind = 1
  · simp only [push_cast, ↓reduceIte, Nat.reduceEqDiff, Nat.reduceAdd, Nat.reduceMul, Nat.reduceSub, Nat.reduceLT, Nat.reduceLeDiff, reduceCtorEq, Nat.reduceMod, Int.reduceEq, Int.reduceLT, Int.reduceLE, Int.reduceToNat, dite_true, eq_true h1]
    intro b
    refine VC.draw (.q 0 (.q 1 (.q 2 (.q 3 (.q 4 (.q 6 (.q 7 (.e 5 (.e 8 (.q 9 (.q 10 (.done)))))))))))) mixed (by rfl) ?_
    have hA : ByteArray.size { data := #[109, 97, 107, 101, 32] } + l.name.size ≤ 9223372036854775807 := by have := hok.name; omega
    have hS : (⟨#[109, 97, 107, 101, 32]⟩ ++ l.name : ByteArray).size = 5 + l.name.size := by rw [ByteArray.size_append]; exact congrArg (· + l.name.size) e5
    have hS1 : (⟨#[109, 97, 107, 101, 32]⟩ ++ l.name : ByteArray).size ≤ 1000000000 := by have := hok.name; omega
    have hS0 : 0 < (⟨#[109, 97, 107, 101, 32]⟩ ++ l.name : ByteArray).size := by omega
    have hLn : l.nums.length ≤ 1000000000 := by have := hok.len; omega
    simp only [push_cast, ↓reduceIte, Nat.reduceEqDiff, Nat.reduceAdd, Nat.reduceMul, Nat.reduceSub, Nat.reduceLT, Nat.reduceLeDiff, reduceCtorEq, Nat.reduceMod, Int.reduceEq, Int.reduceLT, Int.reduceLE, Int.reduceToNat, dite_true, eq_true hA]
    have hcw := ref_words (⟨#[109, 97, 107, 101, 32]⟩ ++ l.name) l.nums hok.nums hS1 hLn F _ hv
    refine CallV.pure hcw ?_
    rintro _ F1 hF1 rfl
    simp only [push_cast, ↓reduceIte, Nat.reduceEqDiff, Nat.reduceAdd, Nat.reduceMul, Nat.reduceSub, Nat.reduceLT, Nat.reduceLeDiff, reduceCtorEq, Nat.reduceMod, Int.reduceEq, Int.reduceLT, Int.reduceLE, Int.reduceToNat, dite_true]
    refine CallV.pure (word l.name 1 F1) ?_
    rintro _ F2 hF2 rfl
    simp only [push_cast, ↓reduceIte, Nat.reduceEqDiff, Nat.reduceAdd, Nat.reduceMul, Nat.reduceSub, Nat.reduceLT, Nat.reduceLeDiff, reduceCtorEq, Nat.reduceMod, Int.reduceEq, Int.reduceLT, Int.reduceLE, Int.reduceToNat, dite_true]
    refine VC.go 100 ?_
    simp only [push_cast, ↓reduceIte, Nat.reduceEqDiff, Nat.reduceAdd, Nat.reduceMul, Nat.reduceSub, Nat.reduceLT, Nat.reduceLeDiff, reduceCtorEq, Nat.reduceMod, Int.reduceEq, Int.reduceLT, Int.reduceLE, Int.reduceToNat, dite_true]
    have ht : lineT l = (wordsT (⟨#[109, 97, 107, 101, 32]⟩ ++ l.name) l.nums, decide (WordP l.name 1)) := by unfold lineT; rw [if_pos h1]
    generalize decide (WordP l.name 1) = dw at ht ⊢
    exact RetOk.p rfl (by rw [ht]; rfl)
  by_cases h2 : l.kind = 2
  · simp only [push_cast, ↓reduceIte, Nat.reduceEqDiff, Nat.reduceAdd, Nat.reduceMul, Nat.reduceSub, Nat.reduceLT, Nat.reduceLeDiff, reduceCtorEq, Nat.reduceMod, Int.reduceEq, Int.reduceLT, Int.reduceLE, Int.reduceToNat, dite_true, h1, eq_true h2]
    intro b bb F2 hF2 hbb
    refine CallV.pure (ref_words ⟨#[115, 104, 111, 119]⟩ [l.n, l.depth, l.fuel] (by simp; exact ⟨hok.n, hok.depth, hok.fuel⟩) (by decide) (by simp) F2 _ (ints_blk (l := [l.n, l.depth, l.fuel]) hbb (by simp [maxLen]))) ?_
    rintro _ F3 hF3 rfl
    simp only [push_cast, ↓reduceIte, Nat.reduceEqDiff, Nat.reduceAdd, Nat.reduceMul, Nat.reduceSub, Nat.reduceLT, Nat.reduceLeDiff, reduceCtorEq, Nat.reduceMod, Int.reduceEq, Int.reduceLT, Int.reduceLE, Int.reduceToNat, dite_true]
    exact RetOk.p rfl (by unfold lineT; rw [if_neg h1, if_pos h2]; rfl)
  by_cases h3 : l.kind = 3
  · simp only [push_cast, ↓reduceIte, Nat.reduceEqDiff, Nat.reduceAdd, Nat.reduceMul, Nat.reduceSub, Nat.reduceLT, Nat.reduceLeDiff, reduceCtorEq, Nat.reduceMod, Int.reduceEq, Int.reduceLT, Int.reduceLE, Int.reduceToNat, dite_true, h1, h2, eq_true h3]
    intro b bb F2 hF2 hbb
    refine CallV.pure (ref_words ⟨#[97, 116]⟩ [l.at_, l.gen] (by simp; exact ⟨hok.at_, hok.gen⟩) (by decide) (by simp) F2 _ (ints_blk (l := [l.at_, l.gen]) hbb (by simp [maxLen]))) ?_
    rintro _ F3 hF3 rfl
    simp only [push_cast, ↓reduceIte, Nat.reduceEqDiff, Nat.reduceAdd, Nat.reduceMul, Nat.reduceSub, Nat.reduceLT, Nat.reduceLeDiff, reduceCtorEq, Nat.reduceMod, Int.reduceEq, Int.reduceLT, Int.reduceLE, Int.reduceToNat, dite_true]
    exact RetOk.p rfl (by unfold lineT; rw [if_neg h1, if_neg h2, if_pos h3]; rfl)
  by_cases h4 : l.kind = 4
  · simp only [push_cast, ↓reduceIte, Nat.reduceEqDiff, Nat.reduceAdd, Nat.reduceMul, Nat.reduceSub, Nat.reduceLT, Nat.reduceLeDiff, reduceCtorEq, Nat.reduceMod, Int.reduceEq, Int.reduceLT, Int.reduceLE, Int.reduceToNat, dite_true, h1, h2, h3, eq_true h4]
    intro b bb F2 hF2 hbb
    refine CallV.pure (ref_words ⟨#[100, 114, 111, 112]⟩ [l.n] (by simp; exact hok.n) (by decide) (by simp) F2 _ (ints_blk (l := [l.n]) hbb (by simp [maxLen]))) ?_
    rintro _ F3 hF3 rfl
    simp only [push_cast, ↓reduceIte, Nat.reduceEqDiff, Nat.reduceAdd, Nat.reduceMul, Nat.reduceSub, Nat.reduceLT, Nat.reduceLeDiff, reduceCtorEq, Nat.reduceMod, Int.reduceEq, Int.reduceLT, Int.reduceLE, Int.reduceToNat, dite_true]
    exact RetOk.p rfl (by unfold lineT; rw [if_neg h1, if_neg h2, if_neg h3, if_pos h4]; rfl)
  by_cases h5 : l.kind = 5
  · simp only [push_cast, ↓reduceIte, Nat.reduceEqDiff, Nat.reduceAdd, Nat.reduceMul, Nat.reduceSub, Nat.reduceLT, Nat.reduceLeDiff, reduceCtorEq, Nat.reduceMod, Int.reduceEq, Int.reduceLT, Int.reduceLE, Int.reduceToNat, dite_true, h1, h2, h3, h4, eq_true h5]
    intro b bb F2 hF2 hbb
    refine CallV.pure (ref_words ⟨#[99, 111, 108, 108, 101, 99, 116]⟩ [l.n] (by simp; exact hok.n) (by decide) (by simp) F2 _ (ints_blk (l := [l.n]) hbb (by simp [maxLen]))) ?_
    rintro _ F3 hF3 rfl
    simp only [push_cast, ↓reduceIte, Nat.reduceEqDiff, Nat.reduceAdd, Nat.reduceMul, Nat.reduceSub, Nat.reduceLT, Nat.reduceLeDiff, reduceCtorEq, Nat.reduceMod, Int.reduceEq, Int.reduceLT, Int.reduceLE, Int.reduceToNat, dite_true]
    exact RetOk.p rfl (by unfold lineT; rw [if_neg h1, if_neg h2, if_neg h3, if_neg h4, if_pos h5]; rfl)
  by_cases h6 : l.kind = 6
  · simp only [push_cast, ↓reduceIte, Nat.reduceEqDiff, Nat.reduceAdd, Nat.reduceMul, Nat.reduceSub, Nat.reduceLT, Nat.reduceLeDiff, reduceCtorEq, Nat.reduceMod, Int.reduceEq, Int.reduceLT, Int.reduceLE, Int.reduceToNat, dite_true, h1, h2, h3, h4, h5, eq_true h6]
    intro b
    exact RetOk.p rfl (by unfold lineT; rw [if_neg h1, if_neg h2, if_neg h3, if_neg h4, if_neg h5, if_pos h6]; rfl)
  · simp only [push_cast, ↓reduceIte, Nat.reduceEqDiff, Nat.reduceAdd, Nat.reduceMul, Nat.reduceSub, Nat.reduceLT, Nat.reduceLeDiff, reduceCtorEq, Nat.reduceMod, Int.reduceEq, Int.reduceLT, Int.reduceLE, Int.reduceToNat, dite_true, h1, h2, h3, h4, h5, h6]
    intro b
    exact RetOk.p rfl (by unfold lineT; rw [if_neg h1, if_neg h2, if_neg h3, if_neg h4, if_neg h5, if_neg h6]; rfl)
theorem write (l : LineD) (hok : LineOk l) (F : PH) (cs : List Value) (hcs : RLine F l cs) : PFn Tryz.prog 27 [.agg cs.toArray] F (fun v _ => v = .tuple #[.string (lineT l).1, .bool (lineT l).2]) := by
  obtain ⟨v, rfl, hv⟩ := hcs
  have hv0 := hv
  obtain ⟨pv, cv, rfl, _, _, _⟩ := hv0
  have h9 := max9
  have e5 : ByteArray.size { data := #[109, 97, 107, 101, 32] } = 5 := rfl
  refine Fn.intro (n := 52) (ts := [2, 3]) Tryz.func27 rfl rfl rfl rfl (by simp) fun B hB => VC.go 100 ?_
  by_cases h1 : l.kind = 1
  · simp only [push_cast, ↓reduceIte, Nat.reduceEqDiff, Nat.reduceAdd, Nat.reduceMul, Nat.reduceSub, Nat.reduceLT, Nat.reduceLeDiff, reduceCtorEq, Nat.reduceMod, Int.reduceEq, Int.reduceLT, Int.reduceLE, Int.reduceToNat, dite_true, eq_true h1]
    intro b
    refine VC.draw (.q 0 (.q 1 (.q 2 (.q 3 (.q 4 (.q 6 (.q 7 (.e 5 (.e 8 (.q 9 (.q 10 (.done)))))))))))) mixed (by rfl) ?_
    have hA : ByteArray.size { data := #[109, 97, 107, 101, 32] } + l.name.size ≤ 9223372036854775807 := by have := hok.name; omega
    have hS : (⟨#[109, 97, 107, 101, 32]⟩ ++ l.name : ByteArray).size = 5 + l.name.size := by rw [ByteArray.size_append]; exact congrArg (· + l.name.size) e5
    have hS1 : (⟨#[109, 97, 107, 101, 32]⟩ ++ l.name : ByteArray).size ≤ 1000000000 := by have := hok.name; omega
    have hS0 : 0 < (⟨#[109, 97, 107, 101, 32]⟩ ++ l.name : ByteArray).size := by omega
    have hLn : l.nums.length ≤ 1000000000 := by have := hok.len; omega
    simp only [push_cast, ↓reduceIte, Nat.reduceEqDiff, Nat.reduceAdd, Nat.reduceMul, Nat.reduceSub, Nat.reduceLT, Nat.reduceLeDiff, reduceCtorEq, Nat.reduceMod, Int.reduceEq, Int.reduceLT, Int.reduceLE, Int.reduceToNat, dite_true, eq_true hA]
    have hcw := words (⟨#[109, 97, 107, 101, 32]⟩ ++ l.name) l.nums hok.nums hS0 hS1 hLn F _ hv
    refine CallV.pure hcw ?_
    rintro _ F1 hF1 rfl
    simp only [push_cast, ↓reduceIte, Nat.reduceEqDiff, Nat.reduceAdd, Nat.reduceMul, Nat.reduceSub, Nat.reduceLT, Nat.reduceLeDiff, reduceCtorEq, Nat.reduceMod, Int.reduceEq, Int.reduceLT, Int.reduceLE, Int.reduceToNat, dite_true]
    refine CallV.pure (p_word l.name 1 (by have := hok.name; omega) F1) ?_
    rintro _ F2 hF2 rfl
    simp only [push_cast, ↓reduceIte, Nat.reduceEqDiff, Nat.reduceAdd, Nat.reduceMul, Nat.reduceSub, Nat.reduceLT, Nat.reduceLeDiff, reduceCtorEq, Nat.reduceMod, Int.reduceEq, Int.reduceLT, Int.reduceLE, Int.reduceToNat, dite_true]
    refine VC.go 100 ?_
    simp only [push_cast, ↓reduceIte, Nat.reduceEqDiff, Nat.reduceAdd, Nat.reduceMul, Nat.reduceSub, Nat.reduceLT, Nat.reduceLeDiff, reduceCtorEq, Nat.reduceMod, Int.reduceEq, Int.reduceLT, Int.reduceLE, Int.reduceToNat, dite_true]
    have ht : lineT l = (wordsT (⟨#[109, 97, 107, 101, 32]⟩ ++ l.name) l.nums, decide (WordP l.name 1)) := by unfold lineT; rw [if_pos h1]
    generalize decide (WordP l.name 1) = dw at ht ⊢
    exact RetOk.p rfl (by rw [ht]; rfl)
  by_cases h2 : l.kind = 2
  · simp only [push_cast, ↓reduceIte, Nat.reduceEqDiff, Nat.reduceAdd, Nat.reduceMul, Nat.reduceSub, Nat.reduceLT, Nat.reduceLeDiff, reduceCtorEq, Nat.reduceMod, Int.reduceEq, Int.reduceLT, Int.reduceLE, Int.reduceToNat, dite_true, h1, eq_true h2]
    intro b bb F2 hF2 hbb
    refine CallV.pure (words ⟨#[115, 104, 111, 119]⟩ [l.n, l.depth, l.fuel] (by simp; exact ⟨hok.n, hok.depth, hok.fuel⟩) (by decide) (by decide) (by simp) F2 _ (ints_blk (l := [l.n, l.depth, l.fuel]) hbb (by simp [maxLen]))) ?_
    rintro _ F3 hF3 rfl
    simp only [push_cast, ↓reduceIte, Nat.reduceEqDiff, Nat.reduceAdd, Nat.reduceMul, Nat.reduceSub, Nat.reduceLT, Nat.reduceLeDiff, reduceCtorEq, Nat.reduceMod, Int.reduceEq, Int.reduceLT, Int.reduceLE, Int.reduceToNat, dite_true]
    exact RetOk.p rfl (by unfold lineT; rw [if_neg h1, if_pos h2]; rfl)
  by_cases h3 : l.kind = 3
  · simp only [push_cast, ↓reduceIte, Nat.reduceEqDiff, Nat.reduceAdd, Nat.reduceMul, Nat.reduceSub, Nat.reduceLT, Nat.reduceLeDiff, reduceCtorEq, Nat.reduceMod, Int.reduceEq, Int.reduceLT, Int.reduceLE, Int.reduceToNat, dite_true, h1, h2, eq_true h3]
    intro b bb F2 hF2 hbb
    refine CallV.pure (words ⟨#[97, 116]⟩ [l.at_, l.gen] (by simp; exact ⟨hok.at_, hok.gen⟩) (by decide) (by decide) (by simp) F2 _ (ints_blk (l := [l.at_, l.gen]) hbb (by simp [maxLen]))) ?_
    rintro _ F3 hF3 rfl
    simp only [push_cast, ↓reduceIte, Nat.reduceEqDiff, Nat.reduceAdd, Nat.reduceMul, Nat.reduceSub, Nat.reduceLT, Nat.reduceLeDiff, reduceCtorEq, Nat.reduceMod, Int.reduceEq, Int.reduceLT, Int.reduceLE, Int.reduceToNat, dite_true]
    exact RetOk.p rfl (by unfold lineT; rw [if_neg h1, if_neg h2, if_pos h3]; rfl)
  by_cases h4 : l.kind = 4
  · simp only [push_cast, ↓reduceIte, Nat.reduceEqDiff, Nat.reduceAdd, Nat.reduceMul, Nat.reduceSub, Nat.reduceLT, Nat.reduceLeDiff, reduceCtorEq, Nat.reduceMod, Int.reduceEq, Int.reduceLT, Int.reduceLE, Int.reduceToNat, dite_true, h1, h2, h3, eq_true h4]
    intro b bb F2 hF2 hbb
    refine CallV.pure (words ⟨#[100, 114, 111, 112]⟩ [l.n] (by simp; exact hok.n) (by decide) (by decide) (by simp) F2 _ (ints_blk (l := [l.n]) hbb (by simp [maxLen]))) ?_
    rintro _ F3 hF3 rfl
    simp only [push_cast, ↓reduceIte, Nat.reduceEqDiff, Nat.reduceAdd, Nat.reduceMul, Nat.reduceSub, Nat.reduceLT, Nat.reduceLeDiff, reduceCtorEq, Nat.reduceMod, Int.reduceEq, Int.reduceLT, Int.reduceLE, Int.reduceToNat, dite_true]
    exact RetOk.p rfl (by unfold lineT; rw [if_neg h1, if_neg h2, if_neg h3, if_pos h4]; rfl)
  by_cases h5 : l.kind = 5
  · simp only [push_cast, ↓reduceIte, Nat.reduceEqDiff, Nat.reduceAdd, Nat.reduceMul, Nat.reduceSub, Nat.reduceLT, Nat.reduceLeDiff, reduceCtorEq, Nat.reduceMod, Int.reduceEq, Int.reduceLT, Int.reduceLE, Int.reduceToNat, dite_true, h1, h2, h3, h4, eq_true h5]
    intro b bb F2 hF2 hbb
    refine CallV.pure (words ⟨#[99, 111, 108, 108, 101, 99, 116]⟩ [l.n] (by simp; exact hok.n) (by decide) (by decide) (by simp) F2 _ (ints_blk (l := [l.n]) hbb (by simp [maxLen]))) ?_
    rintro _ F3 hF3 rfl
    simp only [push_cast, ↓reduceIte, Nat.reduceEqDiff, Nat.reduceAdd, Nat.reduceMul, Nat.reduceSub, Nat.reduceLT, Nat.reduceLeDiff, reduceCtorEq, Nat.reduceMod, Int.reduceEq, Int.reduceLT, Int.reduceLE, Int.reduceToNat, dite_true]
    exact RetOk.p rfl (by unfold lineT; rw [if_neg h1, if_neg h2, if_neg h3, if_neg h4, if_pos h5]; rfl)
  by_cases h6 : l.kind = 6
  · simp only [push_cast, ↓reduceIte, Nat.reduceEqDiff, Nat.reduceAdd, Nat.reduceMul, Nat.reduceSub, Nat.reduceLT, Nat.reduceLeDiff, reduceCtorEq, Nat.reduceMod, Int.reduceEq, Int.reduceLT, Int.reduceLE, Int.reduceToNat, dite_true, h1, h2, h3, h4, h5, eq_true h6]
    intro b
    refine CallV.pure (words ⟨#[111, 117, 116]⟩ [] (by simp) (by decide) (by decide) (by simp) F _ ⟨none, 0, rfl, Nat.le_refl _, Nat.zero_le _, rfl, fun h => absurd h (by simp)⟩) ?_
    rintro _ F3 hF3 rfl
    simp only [push_cast, ↓reduceIte, Nat.reduceEqDiff, Nat.reduceAdd, Nat.reduceMul, Nat.reduceSub, Nat.reduceLT, Nat.reduceLeDiff, reduceCtorEq, Nat.reduceMod, Int.reduceEq, Int.reduceLT, Int.reduceLE, Int.reduceToNat, dite_true]
    exact RetOk.p rfl (by unfold lineT; rw [if_neg h1, if_neg h2, if_neg h3, if_neg h4, if_neg h5, if_pos h6]; rfl)
  · simp only [push_cast, ↓reduceIte, Nat.reduceEqDiff, Nat.reduceAdd, Nat.reduceMul, Nat.reduceSub, Nat.reduceLT, Nat.reduceLeDiff, reduceCtorEq, Nat.reduceMod, Int.reduceEq, Int.reduceLT, Int.reduceLE, Int.reduceToNat, dite_true, h1, h2, h3, h4, h5, h6]
    intro b
    exact RetOk.p rfl (by unfold lineT; rw [if_neg h1, if_neg h2, if_neg h3, if_neg h4, if_neg h5, if_neg h6]; rfl)
end Go.Proofs.YtmiekonofocboaaGreatDoor.Q
