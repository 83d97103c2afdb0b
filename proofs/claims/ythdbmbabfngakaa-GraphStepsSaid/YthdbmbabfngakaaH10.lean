/- Graphs: the map of numbers, and numbers of a list. -/
import Derived.Test.YthdbmbabfngakaaH9
import Derived.Test.YthdbmbabfngakaaE18
namespace Go.Proofs.Ythdbmbabfngakaa.G
open Go Go.Eng Go.Proofs Go.Proofs.Ythdbmbabfngakaa.T Go.Proofs.Ythdbmbabfngakaa.K
set_option linter.unusedSimpArgs false
set_option linter.unusedVariables false
set_option maxRecDepth 100000
set_option maxHeartbeats 4000000
theorem set_done {α β : Type} (f : α → β) (l : List α) (z : β) {i : Nat} (h : i < l.length) : ((l.take i).map f ++ List.replicate (l.length - i) z).set i (f l[i]) = (l.take (i + 1)).map f ++ List.replicate (l.length - (i + 1)) z := by
  have hA : ((l.take i).map f).length = i := by simp; omega
  rw [List.set_append, if_neg (by omega), hA, Nat.sub_self, show l.length - i = (l.length - (i + 1)) + 1 from by omega, List.replicate_succ, List.set_cons_zero, List.take_succ_eq_append_getElem h, List.map_append, List.append_assoc]
  rfl
/-- Each number that was met, with its place. -/
def idxMap (met : List Int) : List (Int × Value) := met.zipIdx.map fun p => (p.1, .int .i64 p.2)
theorem mget_zip (x : Int) : ∀ (met : List Int) (k : Nat), mget ((met.zipIdx k).map fun p => (p.1, Value.int .i64 p.2)) x = if x ∈ met then some (.int .i64 ((met.idxOf x + k : Nat) : Int)) else none
  | [], k => by simp [mget]
  | y :: met, k => by
    simp only [List.zipIdx_cons, List.map_cons, mget]
    by_cases h : y = x
    · subst h; simp
    · rw [if_neg h, mget_zip x met (k + 1)]
      have hx : x ≠ y := fun e => h e.symm
      by_cases hm : x ∈ met
      · rw [if_pos hm, if_pos (List.mem_cons_of_mem _ hm)]
        congr 3
        have : (y :: met).idxOf x = met.idxOf x + 1 := by rw [List.idxOf_cons, show (y == x) = false from by simpa using h]; rfl
        rw [this]; omega
      · rw [if_neg hm, if_neg (by simp [hx, hm])]
theorem mget_idx (met : List Int) (x : Int) : mget (idxMap met) x = if x ∈ met then some (.int .i64 (idx met x)) else none := by
  unfold idxMap
  rw [mget_zip x met 0]
  split
  · rename_i h; rw [idx, if_pos h]; simp
  · rfl
theorem mput_zip (x : Int) (v : Value) : ∀ (met : List Int) (k : Nat), x ∉ met → mput ((met.zipIdx k).map fun p => (p.1, Value.int .i64 p.2)) x v = ((met.zipIdx k).map fun p => (p.1, Value.int .i64 p.2)) ++ [(x, v)]
  | [], k, _ => by simp [mput]
  | y :: met, k, h => by
    simp only [List.zipIdx_cons, List.map_cons, mput]
    rw [if_neg (fun e => h (by rw [e]; exact List.mem_cons_self)), mput_zip x v met (k + 1) (fun hm => h (List.mem_cons_of_mem _ hm))]
    rfl
theorem mput_idx {met : List Int} {x : Int} (h : x ∉ met) : mput (idxMap met) x (.int .i64 met.length) = idxMap (met ++ [x]) := by
  unfold idxMap
  rw [mput_zip x _ met 0 h, List.zipIdx_append, List.map_append]
  simp
/-- Numbers of a list, by a map that is done. -/
theorem numbersG (F : PH) (bw bm : Nat) (va vf vl : Value) (es : Array MapEntry) (c : Nat) (met l : List Int) (hw : F bw = some (.cells #[.map (some bm), va, vf] 47 (0, 0))) (hm : F bm = some (.map es c)) (hes : MapAs (Value.int .i64) es (idxMap met)) (hl : Ints F vl l) (hlen : l.length ≤ 1000000) :
    RowFn Try.prog 24 [.pointer (some ⟨bw, 0, none⟩), vl] F 3 1 ((l.map (idx met)).map (.int .i64)) := by
  obtain ⟨px, cx, rfl, hx1, hx2, hx3⟩ := hl
  have hx1' : l.length ≤ maxLen := Nat.le_trans hx1 hx2
  refine Fn.intro (n := 39) (ts := [4]) Try.func24 rfl rfl rfl rfl (by simp) fun B hB => VC.go 100 ?_
  simp only [push_cast, ↓reduceIte, Nat.reduceEqDiff, Nat.reduceAdd, Nat.reduceMul, Nat.reduceSub, Nat.reduceLT, Nat.reduceLeDiff, reduceCtorEq, Nat.reduceMod, Int.reduceEq, Int.reduceLT, Int.reduceLE, Int.reduceToNat, dite_true]
  refine Eff.makeSlice (m := l.length) rfl ty22 rfl ty3 rfl rfl (by simp; omega) hx1' ?_
  intro b
  rw [show (madeCells _ _).toList = List.replicate l.length (Value.int .i64 0) from made_ints _]
  simp only [push_cast, ↓reduceIte, Nat.reduceEqDiff, Nat.reduceAdd, Nat.reduceMul, Nat.reduceSub, Nat.reduceLT, Nat.reduceLeDiff, reduceCtorEq, Nat.reduceMod, Int.reduceEq, Int.reduceLT, Int.reduceLE, Int.reduceToNat, dite_true]
  refine VC.loopM (ι := Nat × PH) (fun i => [(15, .v (.int .i64 i.1)), (14, .v (.int .i64 l.length)), (13, .v (.slice px l.length cx)), (5, .s 0 b 0 l.length l.length), (0, .v (.pointer (some ⟨bw, 0, none⟩)))]) (fun i => [⟨0, b, 3, ((l.take i.1).map fun x => Value.int .i64 (idx met x)) ++ List.replicate (l.length - i.1) (.int .i64 0)⟩]) (fun i => i.2) (fun i => i.1 ≤ l.length ∧ F.le i.2) (fun i => l.length - i.1) (0, F) ⟨Nat.zero_le _, PH.le_refl _⟩ (by simp [subk, Eng.look]) (List.Sublist.refl _) rfl ?_
  rintro ⟨i, F1⟩ ⟨hi, hF1⟩ G hG
  dsimp only at hi hF1 hG ⊢
  by_cases h : i < l.length
  case neg =>
    have h' : ¬ (i : Int) < (l.length : Int) := by omega
    rw [List.take_of_length_le (by omega), show l.length - i = 0 from by omega, List.replicate_zero, List.append_nil]
    refine VC.toR (m := ⟨0, b, 3, l.map fun x => Value.int .i64 (idx met x)⟩) (M := []) (List.Perm.refl _) [(15, .v (.int .i64 i)), (14, .v (.int .i64 l.length)), (5, .v (.slice (some ⟨b, 0, none⟩) l.length l.length))] (by simp [subv, Eng.look, AV.val]) (VC.go 100 ?_)
    simp only [push_cast, ↓reduceIte, Nat.reduceEqDiff, Nat.reduceAdd, Nat.reduceMul, Nat.reduceSub, Nat.reduceLT, Nat.reduceLeDiff, reduceCtorEq, Nat.reduceMod, Int.reduceEq, Int.reduceLT, Int.reduceLE, Int.reduceToNat, dite_true, h']
    refine ⟨_, _, rfl, .refl _, _, rfl, ?_⟩
    have hb := Row.back (g := b) (e := 3) (sz := 1) (m := l.length) (c := l.length) (cs := l.map fun x => Value.int .i64 (idx met x)) (by simp) (Nat.le_refl _) hx1'
    rw [List.take_of_length_le (by simp)] at hb
    rw [List.map_map]
    exact hb
  refine VC.go 100 ?_
  have h' : (i : Int) < (l.length : Int) := by omega
  have h0 : (0 : Int) ≤ (i : Int) := by omega
  obtain ⟨qx, rfl, hqx⟩ := (hx3.mono hF1).elem1 (i := i) (v := .int .i64 l[i]) (by simp [h])
  have e2 : IntKind.i64.wrap ((i : Int) + 1) = ((i + 1 : Nat) : Int) := wadd i h (Nat.le_trans hx1 hx2)
  have cw : F1.cell ⟨bw, 0, none⟩ = some (.map (some bm)) := by rw [cell_one (hF1 _ _ hw)]; rfl
  have hset := set_done (fun x => Value.int .i64 (idx met x)) l (.int .i64 0) h
  obtain ⟨cs, hcs⟩ : ∃ cs, cs = ((l.take i).map fun x => Value.int .i64 (idx met x)) ++ List.replicate (l.length - i) (.int .i64 0) := ⟨_, rfl⟩
  have hst : i < cs.length := by rw [hcs]; simp; omega
  rw [← hcs] at hset ⊢
  simp only [push_cast, ↓reduceIte, Nat.reduceEqDiff, Nat.reduceAdd, Nat.reduceMul, Nat.reduceSub, Nat.reduceLT, Nat.reduceLeDiff, reduceCtorEq, Nat.reduceMod, Int.reduceEq, Int.reduceLT, Int.reduceLE, Int.reduceToNat, dite_true, h', h0, hqx, hst, add_own, cw]
  refine Eff.lookup (keyInt .i64) rfl ty43 rfl Try.underlying3 ty3 rfl rfl (.inl (hF1 _ _ hm)) hes ?_
  by_cases hx : l[i] ∈ met
  · have hg : mget (idxMap met) l[i] = some (.int .i64 (idx met l[i])) := by rw [mget_idx, if_pos hx]
    simp only [push_cast, ↓reduceIte, Nat.reduceEqDiff, Nat.reduceAdd, Nat.reduceMul, Nat.reduceSub, Nat.reduceLT, Nat.reduceLeDiff, reduceCtorEq, Nat.reduceMod, Int.reduceEq, Int.reduceLT, Int.reduceLE, Int.reduceToNat, dite_true, hg, Option.getD_some, h', h0, List.length_set, List.set_set, hst, hset, e2]
    exact hG (i + 1, F1) _ ⟨h, hF1⟩ (by simp; omega) (by simp [subk, Eng.look]) (List.Sublist.refl _) rfl rfl
  · have hg : mget (idxMap met) l[i] = none := by rw [mget_idx, if_neg hx]
    have hi1 : idx met l[i] = -1 := idx_not hx
    rw [hi1] at hset
    simp only [push_cast, ↓reduceIte, Nat.reduceEqDiff, Nat.reduceAdd, Nat.reduceMul, Nat.reduceSub, Nat.reduceLT, Nat.reduceLeDiff, reduceCtorEq, Nat.reduceMod, Int.reduceEq, Int.reduceLT, Int.reduceLE, Int.reduceToNat, dite_true, hg, Option.getD_none, h', h0, List.length_set, hst, hset, e2]
    exact hG (i + 1, F1) _ ⟨h, hF1⟩ (by simp; omega) (by simp [subk, Eng.look]) (List.Sublist.refl _) rfl rfl
end Go.Proofs.Ythdbmbabfngakaa.G
