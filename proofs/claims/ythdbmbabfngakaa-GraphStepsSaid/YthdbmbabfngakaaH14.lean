/- Graphs: numbers are put where going on from them ends. -/
import Derived.Test.YthdbmbabfngakaaH13
namespace Go.Proofs.Ythdbmbabfngakaa.G
open Go Go.Eng Go.Proofs Go.Proofs.Ythdbmbabfngakaa.T Go.Proofs.Ythdbmbabfngakaa.K
set_option linter.unusedSimpArgs false
set_option linter.unusedVariables false
set_option maxRecDepth 100000
set_option maxHeartbeats 4000000
def moves (e : Int → Int) (l : List Int) : Bool := !(l.all fun k => decide (e k = k))
theorem moves_snoc (e : Int → Int) (l : List Int) (k : Int) : moves e (l ++ [k]) = (moves e l || !decide (e k = k)) := by
  simp [moves, List.all_append]
theorem getElem?_int {l : List Int} {i : Nat} (h : i < l.length) : (l.map (Value.int .i64))[i]? = some (.int .i64 l[i]) := by simp [h]
theorem putG (F : PH) (b3 b6 n : Nat) (e : Int → Int) (vl ve : Value) (r : PH) (l : List Int) (ch : Bool) (hr : Row r 3 1 vl (l.map (.int .i64))) (hb6 : F b6 = some (.cells #[ve] 22 (0, 0))) (hve : Ints F ve ((List.range n).map fun k : Nat => e k)) (hl : ∀ k ∈ l, k < n) (he : ∀ k : Int, k < 0 → e k = k) :
    Eng.Fn Try.prog 29 [vl, .pointer (some ⟨b6, 0, none⟩), .pointer (some ⟨b3, 0, none⟩)] F [cell1 b3 4 [.bool ch], r]
      (fun _ F' R' => ∃ r', R' = [cell1 b3 4 [.bool (ch || moves e l)], r'] ∧ Row r' 3 1 vl ((l.map e).map (.int .i64))) := by
  obtain ⟨pe, ce, rfl, he1, he2, he3⟩ := hve
  simp only [List.length_map, List.length_range, List.map_map] at he1 he3
  rw [show ((List.range n).map fun k : Nat => e k).length = n from by simp] at hb6
  have hends : ∀ F' : PH, F.le F' → ∀ k : Nat, k < n → ∃ q, pe = some q ∧ F'.cell (q.add k) = some (.int .i64 (e k)) := fun F' hF k hk => (he3.mono hF).elem1 (i := k) (v := .int .i64 (e k)) (by simp [hk])
  have c6 : F.cell ⟨b6, 0, none⟩ = some (.slice pe n ce) := by rw [cell_one hb6]; rfl
  refine Fn.intro (n := 31) (ts := []) Try.func29 rfl rfl rfl rfl (by simp) fun B hB => ?_
  by_cases h0 : l.length = 0
  · obtain rfl : l = [] := List.eq_nil_of_length_eq_zero h0
    obtain ⟨p, m, c, rfl, hm, _⟩ := hr.len
    obtain rfl : m = 0 := by simpa using hm.symm
    refine VC.fromR 0 (.refl _) (VC.reN [(0, .v (.slice p 0 c)), (1, .v (.pointer (some ⟨b6, 0, none⟩))), (2, .o 0 b3 0)] 2 (by simp [subv, Eng.look, AV.val, initL]) (VC.go 100 ?_))
    simp only [push_cast, ↓reduceIte, Nat.reduceEqDiff, Nat.reduceAdd, Nat.reduceMul, Nat.reduceSub, Nat.reduceLT, Nat.reduceLeDiff, reduceCtorEq, Nat.reduceMod, Int.reduceEq, Int.reduceLT, Int.reduceLE, Int.reduceToNat, dite_true]
    refine VC.loopL (ι := Unit) (fun _ => [(8, .v (.int .i64 0)), (7, .v (.int .i64 0))]) (fun _ => True) (fun _ => 0) () trivial (by simp [subk, Eng.look]) ?_
    intro _ _ G hG
    refine VC.go 100 ?_
    simp only [push_cast, ↓reduceIte, Nat.reduceEqDiff, Nat.reduceAdd, Nat.reduceMul, Nat.reduceSub, Nat.reduceLT, Nat.reduceLeDiff, reduceCtorEq, Nat.reduceMod, Int.reduceEq, Int.reduceLT, Int.reduceLE, Int.reduceToNat, dite_true]
    exact RetOk.r rfl (RetR.own (i := 0) rfl) ⟨r, by simp [moves], hr⟩
  obtain ⟨p, m, c, rfl, hm, hmc, hct⟩ := hr.has (fun e => h0 (by simpa using e))
  obtain rfl : m = l.length := by simpa using hm.symm
  refine VC.fromR 0 (.refl _) ?_
  refine VC.rowM 1 (.refl _) hr fun gl cs0 e1 e2 e3 e4 e5 => ?_
  subst e1
  rw [Nat.mul_one] at e2 e5
  refine VC.reN [(0, .s 1 gl 0 l.length c), (1, .v (.pointer (some ⟨b6, 0, none⟩))), (2, .o 0 b3 0)] 2 (by simp [subv, Eng.look, AV.val, initL]) (VC.go 100 ?_)
  simp only [push_cast, ↓reduceIte, Nat.reduceEqDiff, Nat.reduceAdd, Nat.reduceMul, Nat.reduceSub, Nat.reduceLT, Nat.reduceLeDiff, reduceCtorEq, Nat.reduceMod, Int.reduceEq, Int.reduceLT, Int.reduceLE, Int.reduceToNat, dite_true]
  refine VC.loopM (ι := Nat × List Value) (fun i => [(8, .v (.int .i64 i.1)), (7, .v (.int .i64 l.length)), (6, .s 1 gl 0 l.length c), (0, .s 1 gl 0 l.length c), (1, .v (.pointer (some ⟨b6, 0, none⟩))), (2, .o 0 b3 0)]) (fun i => [⟨1, gl, 3, i.2⟩, ⟨0, b3, 4, [.bool (ch || moves e (l.take i.1))]⟩]) (fun _ => F)
    (fun i => i.1 ≤ l.length ∧ i.2.length = c ∧ i.2.take l.length = ((l.take i.1).map e ++ l.drop i.1).map (.int .i64)) (fun i => l.length - i.1) (0, cs0) ⟨Nat.zero_le _, e2, by simpa using e5⟩ (by simp [subk, Eng.look]) (by simp [moves]) rfl ?_
  rintro ⟨i, cs⟩ ⟨hi, hcs, htk⟩ G hG
  dsimp only at hi hcs htk hG ⊢
  by_cases h : i < l.length
  case neg =>
    have h' : ¬ (i : Int) < (l.length : Int) := by omega
    rw [List.take_of_length_le (show l.length ≤ i from by omega), List.drop_of_length_le (show l.length ≤ i from by omega), List.append_nil] at htk
    rw [List.take_of_length_le (show l.length ≤ i from by omega)]
    refine VC.go 100 ?_
    simp only [push_cast, ↓reduceIte, Nat.reduceEqDiff, Nat.reduceAdd, Nat.reduceMul, Nat.reduceSub, Nat.reduceLT, Nat.reduceLeDiff, reduceCtorEq, Nat.reduceMod, Int.reduceEq, Int.reduceLT, Int.reduceLE, Int.reduceToNat, dite_true, h']
    refine RetOk.r rfl (R' := [cell1 b3 4 [.bool (ch || moves e l)], cell1 gl 3 cs]) ?_ ⟨_, rfl, ?_⟩
    · intro B w hs
      exact ((RetR.two (m1 := ⟨0, b3, 4, [.bool (ch || moves e l)]⟩) (m2 := ⟨1, gl, 3, cs⟩)) _ _ (hs.permM (List.Perm.swap _ _ _)))
    · have hb := Row.back (g := gl) (e := 3) (sz := 1) (m := l.length) (c := c) (cs := cs) (by rw [hcs, Nat.mul_one]) hmc hct
      rw [Nat.mul_one, htk] at hb
      exact hb
  have h' : (i : Int) < (l.length : Int) := by omega
  have hi0 : (0 : Int) ≤ (i : Int) := by omega
  have ew : IntKind.i64.wrap ((i : Int) + 1) = ((i + 1 : Nat) : Int) := wadd i h (Nat.le_trans hmc hct)
  have hA : ((l.take i).map e).length = i := by simp; omega
  have hget : cs[i]? = some (.int .i64 l[i]) := by
    rw [← List.getElem?_take_of_lt h, htk, getElem?_int (by simp; omega)]
    congr 2
    rw [List.getElem_append_right (by omega), List.getElem_drop]
    congr 1
    omega
  have hstep : ∀ cs' : List Value, cs'.take l.length = ((cs.take l.length).set i (.int .i64 (e l[i]))) → cs'.take l.length = ((l.take (i + 1)).map e ++ l.drop (i + 1)).map (.int .i64) := by
    intro cs' h1
    rw [h1, htk, List.map_append, List.set_append, if_neg (by simp; omega), List.length_map, hA, Nat.sub_self, List.drop_eq_getElem_cons h, List.map_cons, List.set_cons_zero, List.take_succ_eq_append_getElem h, List.map_append, List.map_append]
    simp
  have hch : moves e (l.take (i + 1)) = (moves e (l.take i) || !decide (e l[i] = l[i])) := by rw [List.take_succ_eq_append_getElem h, moves_snoc]
  have hsame : e l[i] = l[i] → cs.take l.length = ((l.take (i + 1)).map e ++ l.drop (i + 1)).map (.int .i64) := fun he' => by
    refine hstep cs ?_
    refine (List.ext_getElem? fun j => ?_).symm
    rw [List.getElem?_set]
    split
    · rename_i ej
      subst ej
      rw [if_pos (by rw [List.length_take]; omega), he', List.getElem?_take_of_lt h, hget]
    · rfl
  have hlt : i < cs.length := by omega
  by_cases hneg : l[i] < 0
  · have hn : ¬ 0 ≤ l[i] := by omega
    have hee := he _ hneg
    refine VC.go 100 ?_
    simp only [push_cast, ↓reduceIte, Nat.reduceEqDiff, Nat.reduceAdd, Nat.reduceMul, Nat.reduceSub, Nat.reduceLT, Nat.reduceLeDiff, reduceCtorEq, Nat.reduceMod, Int.reduceEq, Int.reduceLT, Int.reduceLE, Int.reduceToNat, dite_true, h', hi0, hget, hn, ew]
    refine hG (i + 1, cs) _ ⟨h, hcs, hsame hee⟩ (by simp; omega) (by simp [subk, Eng.look]) ?_ rfl rfl
    rw [hch, hee]
    simp
  obtain ⟨k, hk⟩ : ∃ k : Nat, l[i] = k := ⟨(l[i]).toNat, by omega⟩
  have hkn : k < n := by have := hl _ (List.getElem_mem h); omega
  have hk0 : (0 : Int) ≤ (k : Int) := by omega
  have hkn' : (k : Int) < (n : Int) := by omega
  obtain ⟨qe, rfl, hqe⟩ := hends F (PH.le_refl _) k hkn
  rw [hk] at hget hch hsame hstep
  by_cases hee : e k = k
  · refine VC.go 100 ?_
    simp only [push_cast, ↓reduceIte, Nat.reduceEqDiff, Nat.reduceAdd, Nat.reduceMul, Nat.reduceSub, Nat.reduceLT, Nat.reduceLeDiff, reduceCtorEq, Nat.reduceMod, Int.reduceEq, Int.reduceLT, Int.reduceLE, Int.reduceToNat, dite_true, h', hi0, hget, hk0, add_own, c6, hkn', hqe, eq_true hee, ew]
    refine hG (i + 1, cs) _ ⟨h, hcs, hsame hee⟩ (by simp; omega) (by simp [subk, Eng.look]) ?_ rfl rfl
    rw [hch, hee]
    simp
  · refine VC.go 100 ?_
    simp only [push_cast, ↓reduceIte, Nat.reduceEqDiff, Nat.reduceAdd, Nat.reduceMul, Nat.reduceSub, Nat.reduceLT, Nat.reduceLeDiff, reduceCtorEq, Nat.reduceMod, Int.reduceEq, Int.reduceLT, Int.reduceLE, Int.reduceToNat, dite_true, h', hi0, hget, hk0, add_own, c6, hkn', hqe, hee, ew, hlt]
    refine hG (i + 1, cs.set i (.int .i64 (e k))) _ ⟨h, by rw [List.length_set]; exact hcs, hstep _ (List.take_set ..)⟩ (by simp; omega) (by simp [subk, Eng.look]) ?_ rfl rfl
    rw [hch]
    simp [hee]
end Go.Proofs.Ythdbmbabfngakaa.G
