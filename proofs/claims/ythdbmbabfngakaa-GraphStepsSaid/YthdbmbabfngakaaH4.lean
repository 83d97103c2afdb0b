/- Graphs: the real numbers of a list. -/
import Derived.Test.YthdbmbabfngakaaH2
namespace Go.Proofs.Ythdbmbabfngakaa.G
open Go Go.Eng Go.Proofs Go.Proofs.Ythdbmbabfngakaa.T Go.Proofs.Ythdbmbabfngakaa.K
set_option linter.unusedSimpArgs false
set_option linter.unusedVariables false
set_option maxRecDepth 100000
set_option maxHeartbeats 4000000
theorem made_ints (n : Nat) : (madeCells (Value.int .i64 0).cells (n * 1)).toList = List.replicate n (Value.int .i64 0) := by
  refine List.ext_getElem? fun i => ?_
  rw [Nat.mul_one]
  unfold madeCells
  by_cases h : i < n
  · simp [h, Value.cells, Nat.mod_one]
  · simp [h]
theorem reals (F : PH) (ar av vl : Value) (ma : List Nd) (l : List Int) (h1 : ar.oneCell' = true) (ha : Nodes F av ma) (hl : Ints F vl l) (hlen : l.length ≤ 1000000) :
    PFn Try.prog 22 [.agg #[ar, av], vl] F (fun v F' => Ints F' v (l.map (real ma.length))) := by
  have ha' := ha
  obtain ⟨pa, ca, rfl, _, _⟩ := ha.val
  obtain ⟨px, cx, rfl, hx1, hx2, hx3⟩ := hl
  have hx1' : l.length ≤ maxLen := Nat.le_trans hx1 hx2
  refine Fn.intro (n := 26) (ts := [4]) Try.func22 rfl rfl rfl rfl (by simp) fun B hB => VC.go 100 ?_
  simp only [push_cast, ↓reduceIte, Nat.reduceEqDiff, Nat.reduceAdd, Nat.reduceMul, Nat.reduceSub, Nat.reduceLT, Nat.reduceLeDiff, reduceCtorEq, Nat.reduceMod, Int.reduceEq, Int.reduceLT, Int.reduceLE, Int.reduceToNat, dite_true, h1]
  intro b2
  refine Eff.makeSlice (m := l.length) rfl ty22 rfl ty3 rfl rfl (by simp; omega) hx1' ?_
  intro b10
  rw [show (madeCells _ _).toList = List.replicate l.length (Value.int .i64 0) from made_ints _]
  simp only [push_cast, ↓reduceIte, Nat.reduceEqDiff, Nat.reduceAdd, Nat.reduceMul, Nat.reduceSub, Nat.reduceLT, Nat.reduceLeDiff, reduceCtorEq, Nat.reduceMod, Int.reduceEq, Int.reduceLT, Int.reduceLE, Int.reduceToNat, dite_true]
  refine VC.loopM (ι := Nat × PH) (fun i => [(13, .v (.int .i64 i.1)), (12, .v (.int .i64 l.length)), (11, .v (.slice px l.length cx)), (5, .s 1 b10 0 l.length l.length), (2, .o 0 b2 0)]) (fun i => [⟨0, b2, 25, [ar, .slice pa ma.length ca]⟩, ⟨1, b10, 3, ((l.take i.1).map fun x => Value.int .i64 (real ma.length x)) ++ List.replicate (l.length - i.1) (.int .i64 0)⟩]) (fun i => i.2) (fun i => i.1 ≤ l.length ∧ F.le i.2) (fun i => l.length - i.1) (0, F) ⟨Nat.zero_le _, PH.le_refl _⟩ (by simp [subk, Eng.look]) (List.Sublist.refl _) rfl ?_
  rintro ⟨i, F1⟩ ⟨hi, hF1⟩ G hG
  dsimp only at hi hF1 hG ⊢
  by_cases h : i < l.length
  case neg =>
    have h' : ¬ (i : Int) < (l.length : Int) := by omega
    rw [List.take_of_length_le (by omega), show l.length - i = 0 from by omega, List.replicate_zero, List.append_nil]
    refine VC.freeze (m := ⟨1, b10, 3, l.map fun x => Value.int .i64 (real ma.length x)⟩) (M := [⟨0, b2, 25, [ar, .slice pa ma.length ca]⟩]) (List.Perm.swap _ _ _) fun F3 hF3 hb => VC.reL [(13, .v (.int .i64 i)), (12, .v (.int .i64 l.length)), (5, .v (.slice (some ⟨b10, 0, none⟩) l.length l.length))] (by simp [subv, Eng.look, AV.val]) (VC.go 100 ?_)
    simp only [push_cast, ↓reduceIte, Nat.reduceEqDiff, Nat.reduceAdd, Nat.reduceMul, Nat.reduceSub, Nat.reduceLT, Nat.reduceLeDiff, reduceCtorEq, Nat.reduceMod, Int.reduceEq, Int.reduceLT, Int.reduceLE, Int.reduceToNat, dite_true, h']
    refine RetOk.p rfl ?_
    exact ⟨some ⟨b10, 0, none⟩, l.length, by rw [List.length_map]; rfl, Nat.le_of_eq (List.length_map ..), hx1', by rw [List.length_map, List.map_map]; exact Src.blk hb (by simp)⟩
  refine VC.go 100 ?_
  have h' : (i : Int) < (l.length : Int) := by omega
  have h0 : (0 : Int) ≤ (i : Int) := by omega
  obtain ⟨qx, rfl, hqx⟩ := (hx3.mono hF1).elem1 (i := i) (v := .int .i64 l[i]) (by simp [h])
  have e2 : IntKind.i64.wrap ((i : Int) + 1) = ((i + 1 : Nat) : Int) := wadd i h (Nat.le_trans hx1 hx2)
  simp only [push_cast, ↓reduceIte, Nat.reduceEqDiff, Nat.reduceAdd, Nat.reduceMul, Nat.reduceSub, Nat.reduceLT, Nat.reduceLeDiff, reduceCtorEq, Nat.reduceMod, Int.reduceEq, Int.reduceLT, Int.reduceLE, Int.reduceToNat, dite_true, h', h0, hqx, h1]
  refine CallV.pure (realG F1 ar _ ma l[i] h1 (ha'.mono hF1)) ?_
  rintro _ F2 hF2 rfl
  have hst : i < ((l.take i).map (fun x => Value.int .i64 (real ma.length x)) ++ List.replicate (l.length - i) (Value.int .i64 0)).length := by simp; omega
  have hset : ((l.take i).map (fun x => Value.int .i64 (real ma.length x)) ++ List.replicate (l.length - i) (Value.int .i64 0)).set i (Value.int .i64 (real ma.length l[i])) = (l.take (i + 1)).map (fun x => Value.int .i64 (real ma.length x)) ++ List.replicate (l.length - (i + 1)) (Value.int .i64 0) := by
    have hA : ((l.take i).map (fun x => Value.int .i64 (real ma.length x))).length = i := by simp; omega
    rw [List.set_append, if_neg (by omega), hA, Nat.sub_self, show l.length - i = (l.length - (i + 1)) + 1 from by omega, List.replicate_succ, List.set_cons_zero, List.take_succ_eq_append_getElem h, List.map_append, List.append_assoc]
    rfl
  simp only [push_cast, ↓reduceIte, Nat.reduceEqDiff, Nat.reduceAdd, Nat.reduceMul, Nat.reduceSub, Nat.reduceLT, Nat.reduceLeDiff, reduceCtorEq, Nat.reduceMod, Int.reduceEq, Int.reduceLT, Int.reduceLE, Int.reduceToNat, dite_true, h', h0, hqx, h1, hst, hset, e2]
  refine hG (i + 1, F2) _ ⟨h, PH.le_trans hF1 hF2⟩ (by simp; omega) (by simp [subk, Eng.look]) (List.Sublist.refl _) rfl rfl
end Go.Proofs.Ythdbmbabfngakaa.G
/- Graphs: where going on ends, by definition. -/
namespace Go.Proofs.Ythdbmbabfngakaa.G
open Go Go.Eng Go.Proofs Go.Proofs.Ythdbmbabfngakaa.T Go.Proofs.Ythdbmbabfngakaa.K
set_option linter.unusedSimpArgs false
set_option linter.unusedVariables false
set_option maxRecDepth 100000
set_option maxHeartbeats 4000000
theorem endR (F : PH) (ar av : Value) (ma : List Nd) (lead : Int → Int) (k : Int) (h1 : ar.oneCell' = true) (ha : Nodes F av ma) (hk : k < ma.length) (hlen : ma.length ≤ 1000000) (hlt : ∀ k : Int, 0 ≤ k → k < ma.length → lead k < ma.length)
    (hL : ∀ F1 : PH, F.le F1 → ∀ k : Int, 0 ≤ k → k < ma.length → PFn Try.prog 19 [.agg #[ar, av], .int .i64 k] F1 (fun v _ => v = .int .i64 (lead k))) :
    PFn Try.prog 30 [.agg #[ar, av], .int .i64 k] F (fun v _ => v = .int .i64 (endN lead ma.length k)) := by
  obtain ⟨pa, ca, rfl, _, _⟩ := ha.val
  refine Fn.intro (n := 26) (ts := [4]) Try.func30 rfl rfl rfl rfl (by simp) fun B hB => VC.go 100 ?_
  simp only [push_cast, ↓reduceIte, Nat.reduceEqDiff, Nat.reduceAdd, Nat.reduceMul, Nat.reduceSub, Nat.reduceLT, Nat.reduceLeDiff, reduceCtorEq, Nat.reduceMod, Int.reduceEq, Int.reduceLT, Int.reduceLE, Int.reduceToNat, dite_true, h1]
  intro b2
  refine VC.loopM (ι := Nat × Int × PH) (fun i => [(5, .v (.int .i64 i.1)), (2, .o 0 b2 0), (1, .v (.int .i64 i.2.1))]) (fun _ => [⟨0, b2, 25, [ar, .slice pa ma.length ca]⟩]) (fun i => i.2.2) (fun i => i.1 ≤ ma.length + 1 ∧ i.2.1 < ma.length ∧ F.le i.2.2 ∧ endF lead (ma.length + 1 - i.1) i.2.1 = endN lead ma.length k) (fun i => ma.length + 1 - i.1) (0, k, F) ⟨Nat.zero_le _, hk, PH.le_refl _, rfl⟩ (by simp [subk, Eng.look]) (List.Sublist.refl _) rfl ?_
  rintro ⟨i, c, F1⟩ ⟨hi, hc, hF1, he⟩ G hG
  dsimp only at hi hc hF1 he hG ⊢
  refine VC.go 100 ?_
  by_cases h : i ≤ ma.length
  case neg =>
    have h' : ¬ (i : Int) ≤ (ma.length : Int) := by omega
    rw [show ma.length + 1 - i = 0 from by omega] at he
    rw [← he]
    simp only [push_cast, ↓reduceIte, Nat.reduceEqDiff, Nat.reduceAdd, Nat.reduceMul, Nat.reduceSub, Nat.reduceLT, Nat.reduceLeDiff, reduceCtorEq, Nat.reduceMod, Int.reduceEq, Int.reduceLT, Int.reduceLE, Int.reduceToNat, dite_true, h', h1]
    exact RetOk.p rfl rfl
  have h' : (i : Int) ≤ (ma.length : Int) := by omega
  rw [show ma.length + 1 - i = (ma.length - i) + 1 from by omega, endF] at he
  have e2 : IntKind.i64.wrap ((i : Int) + 1) = ((i + 1 : Nat) : Int) := by rw [IntWalk.i64_in _ (by omega)]; rfl
  by_cases h0 : c < 0
  · rw [if_pos h0] at he
    rw [← he]
    simp only [push_cast, ↓reduceIte, Nat.reduceEqDiff, Nat.reduceAdd, Nat.reduceMul, Nat.reduceSub, Nat.reduceLT, Nat.reduceLeDiff, reduceCtorEq, Nat.reduceMod, Int.reduceEq, Int.reduceLT, Int.reduceLE, Int.reduceToNat, dite_true, h', h1, eq_true h0]
    exact RetOk.p rfl rfl
  rw [if_neg h0] at he
  simp only [push_cast, ↓reduceIte, Nat.reduceEqDiff, Nat.reduceAdd, Nat.reduceMul, Nat.reduceSub, Nat.reduceLT, Nat.reduceLeDiff, reduceCtorEq, Nat.reduceMod, Int.reduceEq, Int.reduceLT, Int.reduceLE, Int.reduceToNat, dite_true, h', h1, h0]
  refine CallV.pure (hL F1 hF1 c (by omega) hc) ?_
  rintro _ F2 hF2 rfl
  by_cases g1 : lead c = -2
  · rw [if_pos g1] at he
    rw [← he]
    simp only [push_cast, ↓reduceIte, Nat.reduceEqDiff, Nat.reduceAdd, Nat.reduceMul, Nat.reduceSub, Nat.reduceLT, Nat.reduceLeDiff, reduceCtorEq, Nat.reduceMod, Int.reduceEq, Int.reduceLT, Int.reduceLE, Int.reduceToNat, dite_true, h1, eq_true g1]
    exact RetOk.p rfl rfl
  rw [if_neg g1] at he
  by_cases g2 : lead c < 0
  · rw [if_pos g2] at he
    rw [← he]
    simp only [push_cast, ↓reduceIte, Nat.reduceEqDiff, Nat.reduceAdd, Nat.reduceMul, Nat.reduceSub, Nat.reduceLT, Nat.reduceLeDiff, reduceCtorEq, Nat.reduceMod, Int.reduceEq, Int.reduceLT, Int.reduceLE, Int.reduceToNat, dite_true, h1, g1, eq_true g2]
    exact RetOk.p rfl rfl
  rw [if_neg g2] at he
  simp only [push_cast, ↓reduceIte, Nat.reduceEqDiff, Nat.reduceAdd, Nat.reduceMul, Nat.reduceSub, Nat.reduceLT, Nat.reduceLeDiff, reduceCtorEq, Nat.reduceMod, Int.reduceEq, Int.reduceLT, Int.reduceLE, Int.reduceToNat, dite_true, h1, g1, g2, e2]
  refine hG (i + 1, lead c, F2) _ ⟨by omega, hlt c (by omega) hc, PH.le_trans hF1 hF2, ?_⟩ (by simp; omega) (by simp [subk, Eng.look]) (List.Sublist.refl _) rfl rfl
  dsimp only
  rw [show ma.length + 1 - (i + 1) = ma.length - i from by omega]
  exact he
end Go.Proofs.Ythdbmbabfngakaa.G
