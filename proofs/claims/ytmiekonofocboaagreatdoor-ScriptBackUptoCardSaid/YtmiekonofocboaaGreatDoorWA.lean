/- Words and numbers with blanks between: what the program and the definition write. -/
import Derived.Test.YtmiekonofocboaaGreatDoorDA
import Derived.Test.YtmiekonofocboaaGreatDoorSA
namespace Go.Proofs.YtmiekonofocboaaGreatDoor.Q
open Go Go.Eng Go.Lib Go.Proofs Go.Proofs.YtmiekonofocboaaGreatDoor.T Go.Proofs.YtmiekonofocboaaGreatDoor.K
set_option linter.unusedSimpArgs false
set_option linter.unusedVariables false
set_option linter.unusedSectionVars false
set_option maxRecDepth 100000
set_option maxHeartbeats 4000000
theorem bapp_nil (s : ByteArray) : s ++ (⟨#[]⟩ : ByteArray) = s := ByteArray.append_empty
theorem bnil_app (s : ByteArray) : (⟨#[]⟩ : ByteArray) ++ s = s := ByteArray.empty_append
theorem strs_append (s t : ByteArray) : strCells (s ++ t) = strCells s ++ strCells t := by simp [strCells]
theorem sp_cells' (s : ByteArray) : strCells s ++ [Value.int .u8 32] = strCells (s ++ ⟨#[32]⟩) := by simp [strCells]
/-- Of each number a blank and its digits. -/
def numsT : List Int → ByteArray
  | [] => ⟨#[]⟩
  | n :: l => ⟨#[32]⟩ ++ digitsP n ++ numsT l
/-- A word and numbers, with blanks between, and a byte 10. -/
def wordsT (w : ByteArray) (l : List Int) : ByteArray := w ++ numsT l ++ ⟨#[10]⟩
theorem numsT_append : ∀ (l m : List Int), numsT (l ++ m) = numsT l ++ numsT m
  | [], m => by rw [List.nil_append, numsT, bnil_app]
  | t :: l, m => by simp only [List.cons_append, numsT, numsT_append l m, ByteArray.append_assoc]
theorem numsT_take (l : List Int) {j : Nat} (h : j < l.length) : numsT (l.take (j + 1)) = numsT (l.take j) ++ ⟨#[32]⟩ ++ digitsP l[j] := by
  rw [List.take_succ_eq_append_getElem h, numsT_append]; simp only [numsT, bapp_nil, ByteArray.append_assoc]
theorem numsT_size : ∀ (l : List Int), (∀ n ∈ l, I64' n) → (numsT l).size ≤ 21 * l.length
  | [], _ => by simp [numsT, ByteArray.size]
  | n :: l, h => by
    have h1 := digits_size (h n List.mem_cons_self)
    have h2 := numsT_size l fun m hm => h m (List.mem_cons_of_mem _ hm)
    have e1 : ByteArray.size { data := #[32] } = 1 := rfl
    simp only [numsT, ByteArray.size_append, e1, List.length_cons]
    omega
/-- A slice of numbers. -/
def Ints (F : PH) (v : Value) (l : List Int) : Prop := Sl F 1 v l.length (l.map (.int .i64))
theorem Ints.mono {F G : PH} {v : Value} {l : List Int} (h : Ints F v l) (hl : F.le G) : Ints G v l := Sl.mono h hl
theorem ref_words (w : ByteArray) (l : List Int) (hl : ∀ n ∈ l, I64' n) (hw : w.size ≤ 1000000000) (hn : l.length ≤ 1000000000) (F : PH) (v : Value) (hv : Ints F v l) :
    PFn Tryz.prog 28 [.string w, v] F (fun v _ => v = .string (wordsT w l)) := by
  obtain ⟨p, c, rfl, hnc, hcm, hsrc⟩ := hv
  refine Fn.intro (n := 22) (ts := [4]) Tryz.func28 rfl rfl rfl rfl (by simp) fun B hB => VC.go 100 ?_
  simp only [push_cast, ↓reduceIte, Nat.reduceEqDiff, Nat.reduceAdd, Nat.reduceMul, Nat.reduceSub, Nat.reduceLT, Nat.reduceLeDiff, reduceCtorEq, Nat.reduceMod, Int.reduceEq, Int.reduceLT, Int.reduceLE, Int.reduceToNat, dite_true]
  refine VC.loopF (ι := Nat × PH) (fun i => [(5, .v (.int .i64 (i.1 : Int))), (0, .v (.string (w ++ numsT (l.take i.1)))), (1, .v (.slice p l.length c))]) (fun i => i.2) (fun i => i.1 ≤ l.length ∧ F.le i.2) (fun i => l.length - i.1) (0, F) ⟨Nat.zero_le _, PH.le_refl _⟩ (by simp [subk, Eng.look, numsT, bapp_nil]) rfl ?_
  rintro ⟨j, F1⟩ ⟨hj, hF1⟩ G hG
  dsimp only at hj hF1 hG ⊢
  have hz := numsT_size (l.take j) fun n hn => hl n (List.mem_of_mem_take hn)
  have hzl : (l.take j).length ≤ l.length := by simp; omega
  have e1 : ByteArray.size { data := #[32] } = 1 := rfl
  have e2 : ByteArray.size { data := #[10] } = 1 := rfl
  refine VC.go 100 ?_
  rcases Nat.lt_or_ge j l.length with hlt | hge
  · obtain ⟨a, rfl, hc⟩ := (hsrc.mono hF1).elem1 (i := j) (v := .int .i64 l[j]) (by simp [hlt])
    have hd := digits_size (hl _ (List.getElem_mem hlt))
    have hA : (w ++ numsT (l.take j) : ByteArray).size + ByteArray.size { data := #[32] } ≤ 9223372036854775807 := by rw [ByteArray.size_append]; omega
    have hB' : (w ++ numsT (l.take j) ++ ⟨#[32]⟩ : ByteArray).size + (digitsP l[j]).size ≤ 9223372036854775807 := by rw [ByteArray.size_append, ByteArray.size_append]; omega
    have hw1 : IntKind.i64.wrap ((j : Int) + 1) = (j : Int) + 1 := IntWalk.i64_in _ (by omega)
    simp only [push_cast, ↓reduceIte, Nat.reduceEqDiff, Nat.reduceAdd, Nat.reduceMul, Nat.reduceSub, Nat.reduceLT, Nat.reduceLeDiff, reduceCtorEq, Nat.reduceMod, Int.reduceEq, Int.reduceLT, Int.reduceLE, Int.reduceToNat, dite_true, eq_true (show (j : Int) < (l.length : Int) by omega), hc, eq_true hlt, Nat.mul_one, eq_true hA]
    refine CallV.pure (digits _ (hl _ (List.getElem_mem hlt)) F1) ?_
    rintro _ F2 hF2 rfl
    simp only [push_cast, ↓reduceIte, Nat.reduceEqDiff, Nat.reduceAdd, Nat.reduceMul, Nat.reduceSub, Nat.reduceLT, Nat.reduceLeDiff, reduceCtorEq, Nat.reduceMod, Int.reduceEq, Int.reduceLT, Int.reduceLE, Int.reduceToNat, dite_true, eq_true hB', hw1]
    exact hG (j + 1, F2) _ ⟨by dsimp only; omega, PH.le_trans hF1 hF2⟩ (by dsimp only; omega) (by simp [subk, Eng.look]; rw [numsT_take l hlt]; simp only [ByteArray.append_assoc]) (List.Sublist.refl _) rfl rfl
  · obtain rfl : j = l.length := by omega
    have hA : (w ++ numsT (l.take l.length) : ByteArray).size + ByteArray.size { data := #[10] } ≤ 9223372036854775807 := by rw [ByteArray.size_append]; omega
    simp only [push_cast, ↓reduceIte, Nat.reduceEqDiff, Nat.reduceAdd, Nat.reduceMul, Nat.reduceSub, Nat.reduceLT, Nat.reduceLeDiff, reduceCtorEq, Nat.reduceMod, Int.reduceEq, Int.reduceLT, Int.reduceLE, Int.reduceToNat, dite_true, eq_false (show ¬ (l.length : Int) < (l.length : Int) by omega), eq_true hA]
    rw [List.take_length]
    exact RetOk.p rfl rfl
theorem words (w : ByteArray) (l : List Int) (hl : ∀ n ∈ l, I64' n) (hw0 : 0 < w.size) (hw : w.size ≤ 1000000000) (hn : l.length ≤ 1000000000) (F : PH) (v : Value) (hv : Ints F v l) :
    PFn Tryz.prog 26 [.string w, v] F (fun v _ => v = .string (wordsT w l)) := by
  obtain ⟨p, c, rfl, hnc, hcm, hsrc⟩ := hv
  refine Fn.intro (n := 26) (ts := [4]) Tryz.func26 rfl rfl rfl rfl (by simp) fun B hB => VC.go 3 ?_
  simp only [push_cast, ↓reduceIte, Nat.reduceEqDiff, Nat.reduceAdd, Nat.reduceMul, Nat.reduceSub, Nat.reduceLT, Nat.reduceLeDiff, reduceCtorEq, Nat.reduceMod, Int.reduceEq, Int.reduceLT, Int.reduceLE, Int.reduceToNat, dite_true]
  refine VC.region (VC.eff (st := false) rfl rfl (Eff.quiet (y := .v (.string w)) rfl (VC.eff (st := false) rfl rfl ?_)))
  refine Eff.toBytes (tx := w) rfl ty9 rfl ty44 rfl ty5 rfl rfl (by omega) ?_
  intro v1 r1 hr1
  refine VC.eff (st := false) rfl rfl (Eff.quiet (y := .v v1) rfl (VC.opsnil (VC.go 100 ?_)))
  simp only [push_cast, ↓reduceIte, Nat.reduceEqDiff, Nat.reduceAdd, Nat.reduceMul, Nat.reduceSub, Nat.reduceLT, Nat.reduceLeDiff, reduceCtorEq, Nat.reduceMod, Int.reduceEq, Int.reduceLT, Int.reduceLE, Int.reduceToNat, dite_true]
  refine VC.loopR (ι := Nat × Value × PH × PH) (fun i => [(12, .v (.int .i64 (i.1 : Int))), (11, .v (.int .i64 (l.length : Int))), (10, .v (.slice p l.length c)), (5, .v i.2.1)]) (fun i => i.2.2.2) (fun i => i.2.2.1) [] (fun i => i.1 ≤ l.length ∧ F.le i.2.2.2 ∧ BRow i.2.2.1 5 i.2.1 (strCells (w ++ numsT (l.take i.1)))) (fun i => l.length - i.1) (0, v1, r1, F) ⟨Nat.zero_le _, PH.le_refl _, by dsimp only; rw [List.take_zero, numsT, bapp_nil]; exact hr1⟩ (by simp [subk, Eng.look]) rfl rfl ?_
  rintro ⟨j, v2, r2, F1⟩ ⟨hj, hF1, hr2⟩ G hG
  dsimp only at hj hF1 hr2 hG ⊢
  have hz := numsT_size (l.take j) fun n hn => hl n (List.mem_of_mem_take hn)
  have hzl : (l.take j).length ≤ l.length := by simp; omega
  have e1 : ByteArray.size { data := #[32] } = 1 := rfl
  have e2 : ByteArray.size { data := #[10] } = 1 := rfl
  obtain ⟨p2, c2, e2', _, _⟩ := hr2.val
  subst e2'
  have hlen2 : (strCells (w ++ numsT (l.take j))).length ≤ 30000000000 := by rw [strCells_length, ByteArray.size_append]; omega
  rcases Nat.lt_or_ge j l.length with hlt | hge
  · refine VC.go 100 ?_
    obtain ⟨a, rfl, hc⟩ := (hsrc.mono hF1).elem1 (i := j) (v := .int .i64 l[j]) (by simp [hlt])
    have hd := digits_size (hl _ (List.getElem_mem hlt))
    have hw1 : IntKind.i64.wrap ((j : Int) + 1) = (j : Int) + 1 := IntWalk.i64_in _ (by omega)
    simp only [push_cast, ↓reduceIte, Nat.reduceEqDiff, Nat.reduceAdd, Nat.reduceMul, Nat.reduceSub, Nat.reduceLT, Nat.reduceLeDiff, reduceCtorEq, Nat.reduceMod, Int.reduceEq, Int.reduceLT, Int.reduceLE, Int.reduceToNat, dite_true, eq_true (show (j : Int) < (l.length : Int) by omega), hc, eq_true hlt, Nat.mul_one]
    intro b8 F2 hF2 hb8
    refine Eff.appendBL (ys := [.int .u8 32]) rfl rfl rfl ty44 rfl ty5 rfl rfl rfl rfl rfl (Src.blk hb8 rfl) (by simp [Value.oneCell']) (List.Perm.refl _) hr2 (by omega) ?_
    intro v3 r3 hr3
    rw [sp_cells'] at hr3
    simp only [push_cast, ↓reduceIte, Nat.reduceEqDiff, Nat.reduceAdd, Nat.reduceMul, Nat.reduceSub, Nat.reduceLT, Nat.reduceLeDiff, reduceCtorEq, Nat.reduceMod, Int.reduceEq, Int.reduceLT, Int.reduceLE, Int.reduceToNat, dite_true]
    refine CallV.pure (digits_script _ (hl _ (List.getElem_mem hlt)) F2) ?_
    rintro _ F3 hF3 rfl
    simp only [push_cast, ↓reduceIte, Nat.reduceEqDiff, Nat.reduceAdd, Nat.reduceMul, Nat.reduceSub, Nat.reduceLT, Nat.reduceLeDiff, reduceCtorEq, Nat.reduceMod, Int.reduceEq, Int.reduceLT, Int.reduceLE, Int.reduceToNat, dite_true]
    refine Eff.appendBS (tx := digitsP l[j]) rfl rfl rfl ty44 rfl ty9 rfl ty5 rfl rfl rfl rfl rfl (List.Perm.refl _) hr3 (by rw [strCells_length, ByteArray.size_append, ← strCells_length]; omega) ?_
    intro v4 r4 hr4
    rw [← strs_append, show ((w ++ numsT (l.take j) ++ ⟨#[32]⟩ ++ digitsP l[j] : ByteArray)) = w ++ numsT (l.take (j + 1)) by rw [numsT_take l hlt]; simp only [ByteArray.append_assoc]] at hr4
    simp only [push_cast, ↓reduceIte, Nat.reduceEqDiff, Nat.reduceAdd, Nat.reduceMul, Nat.reduceSub, Nat.reduceLT, Nat.reduceLeDiff, reduceCtorEq, Nat.reduceMod, Int.reduceEq, Int.reduceLT, Int.reduceLE, Int.reduceToNat, dite_true, hw1]
    exact hG (j + 1, v4, r4, F3) _ ⟨by dsimp only; omega, PH.le_trans (PH.le_trans hF1 hF2) hF3, hr4⟩ (by dsimp only; omega) (by simp [subk, Eng.look]) (by simp) rfl rfl
  · obtain rfl : j = l.length := by omega
    refine VC.freezeR (List.Perm.refl _) fun F2 hF2 hl2 => VC.go 100 ?_
    have hs2 := hr2.sl hl2
    have hpos : 0 < (strCells (w ++ numsT (l.take l.length))).length := by rw [strCells_length, ByteArray.size_append]; omega
    obtain ⟨p3, c3, e3, _, _, hs3⟩ := hs2
    cases e3
    obtain ⟨a3, rfl, hc3⟩ := hs3.2 (by omega)
    rw [Nat.mul_one] at hc3
    have hA : (w ++ numsT (l.take l.length) : ByteArray).size + ByteArray.size { data := #[10] } ≤ 9223372036854775807 := by rw [ByteArray.size_append]; omega
    simp only [push_cast, ↓reduceIte, Nat.reduceEqDiff, Nat.reduceAdd, Nat.reduceMul, Nat.reduceSub, Nat.reduceLT, Nat.reduceLeDiff, reduceCtorEq, Nat.reduceMod, Int.reduceEq, Int.reduceLT, Int.reduceLE, Int.reduceToNat, dite_true, eq_false (show ¬ (l.length : Int) < (l.length : Int) by omega), hc3, bytesV_str, bstr_str', eq_true hA]
    rw [List.take_length]
    exact RetOk.p rfl rfl
end Go.Proofs.YtmiekonofocboaaGreatDoor.Q
