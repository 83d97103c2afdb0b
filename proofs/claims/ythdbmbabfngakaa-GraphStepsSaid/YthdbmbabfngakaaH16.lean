/- Graphs: into what is not met yet, by definition. -/
import Derived.Test.YthdbmbabfngakaaH15
namespace Go.Proofs.Ythdbmbabfngakaa.G
open Go Go.Eng Go.Proofs Go.Proofs.Ythdbmbabfngakaa.T Go.Proofs.Ythdbmbabfngakaa.K
set_option linter.unusedSimpArgs false
set_option linter.unusedVariables false
set_option maxRecDepth 100000
set_option maxHeartbeats 4000000
/-- A row of truth values, by place. -/
def rngB (n : Nat) (f : Nat → Bool) : List Value := (List.range n).map fun x => Value.bool (f x)
theorem rngB_len (n : Nat) (f : Nat → Bool) : (rngB n f).length = n := by simp [rngB]
theorem rngB_get {n a : Nat} (f : Nat → Bool) (h : a < n) : (rngB n f)[a]? = some (.bool (f a)) := by simp [rngB, h]
theorem rngB_set (n : Nat) (f : Nat → Bool) (a : Nat) (v : Bool) : (rngB n f).set a (.bool v) = rngB n (fun x => if x = a then v else f x) := by
  refine List.ext_getElem? fun i => ?_
  rw [List.getElem?_set]
  by_cases hi : i < n
  · have e1 := rngB_get f hi
    have e2 := rngB_get (fun x => if x = a then v else f x) hi
    rw [e2, e1]
    by_cases h : a = i
    · subst h; simp [rngB_len, hi]
    · simp [h, Ne.symm h]
  · have h1 : (rngB n f)[i]? = none := List.getElem?_eq_none (by rw [rngB_len]; omega)
    have h2 : (rngB n (fun x => if x = a then v else f x))[i]? = none := List.getElem?_eq_none (by rw [rngB_len]; omega)
    rw [h1, h2, rngB_len]
    split
    · split
      · omega
      · rfl
    · rfl
theorem made_rngB (n : Nat) : (madeCells (Value.bool false).cells (n * 1)).toList = rngB n (fun _ => false) := by
  refine List.ext_getElem? fun i => ?_
  rw [Nat.mul_one]
  unfold madeCells
  by_cases h : i < n
  · rw [rngB_get _ h]; simp [h, Value.cells, Nat.mod_one]
  · rw [List.getElem?_eq_none (by simp; omega), List.getElem?_eq_none (by rw [rngB_len]; omega)]
def hasOf (n : Nat) (met : List Int) : List Value := rngB n fun y => decide ((y : Int) ∈ met)
theorem hasOf_snoc (n : Nat) (met : List Int) (a : Nat) : (hasOf n met).set a (.bool true) = hasOf n (met ++ [(a : Int)]) := by
  unfold hasOf
  rw [rngB_set]
  congr 1
  funext y
  by_cases h : y = a
  · subst h; simp
  · rw [if_neg h]
    simp [show ¬ (y : Int) = (a : Int) from by omega]
theorem meetR (g : Gr) (F : PH) (ar av : Value) (bh : Nat) (h1 : ar.oneCell' = true) (ha : Nodes F av g.nodes) (hn : g.nodes.length ≤ 1000000) : ∀ (f : Nat) (F0 : PH) (k : Int) (met : List Int) (vm : Value) (rm : PH), F.le F0 → Met g.nodes.length met → g.nodes.length < f + met.length → Row rm 3 1 vm (met.map (.int .i64)) →
    Eng.Fn Try.prog 25 [.agg #[ar, av], .int .i64 k, vm, .slice (some ⟨bh, 0, none⟩) g.nodes.length g.nodes.length] F0 [cell1 bh 4 (hasOf g.nodes.length met), rm]
      (fun v F' R' => ∃ r', R' = [cell1 bh 4 (hasOf g.nodes.length (visit g f (real g.nodes.length k) met)), r'] ∧ Row r' 3 1 v ((visit g f (real g.nodes.length k) met).map (.int .i64)))
  | 0, F0, k, met, vm, rm, hF0, hmet, hf, hrm => absurd hmet.len (by omega)
  | f + 1, F0, k, met, vm, rm, hF0, hmet, hf, hrm => by
    have ha0 := ha.mono hF0
    have ha0' := ha0
    obtain ⟨pa, ca, rfl, hc1, hc2⟩ := ha0.val
    obtain ⟨pm, mm, cm, rfl, hmm, _⟩ := hrm.len
    obtain rfl : mm = met.length := by simpa using hmm.symm
    have hml := hmet.len
    obtain ⟨x, hx⟩ : ∃ x, x = real g.nodes.length k := ⟨_, rfl⟩
    rw [← hx]
    have hxr : x = -1 ∨ (0 ≤ x ∧ x < g.nodes.length) := by
      rw [hx]; unfold real; split
      · exact .inl rfl
      · exact .inr ⟨by omega, by omega⟩
    refine Fn.intro (n := 54) (ts := [8]) Try.func25 rfl rfl rfl rfl (by simp) fun B hB => ?_
    refine VC.fromR 0 (.refl _) (VC.reN [(0, .v (.agg #[ar, .slice pa g.nodes.length ca])), (1, .v (.int .i64 k)), (2, .v (.slice pm met.length cm)), (3, .s 0 bh 0 g.nodes.length g.nodes.length)] 1 (by simp [subv, Eng.look, AV.val, initL]) (VC.go 100 ?_))
    simp only [push_cast, ↓reduceIte, Nat.reduceEqDiff, Nat.reduceAdd, Nat.reduceMul, Nat.reduceSub, Nat.reduceLT, Nat.reduceLeDiff, reduceCtorEq, Nat.reduceMod, Int.reduceEq, Int.reduceLT, Int.reduceLE, Int.reduceToNat, dite_true, h1]
    intro b4
    refine CallV.pure (realR F0 ar _ g.nodes k h1 ha0') ?_
    rintro _ F1 hF1 rfl
    rw [← hx]
    have hF01 := PH.le_trans hF0 hF1
    rcases hxr with rfl | ⟨hx0, hxn⟩
    · rw [visit_old g (.inl (by omega))]
      simp only [push_cast, ↓reduceIte, Nat.reduceEqDiff, Nat.reduceAdd, Nat.reduceMul, Nat.reduceSub, Nat.reduceLT, Nat.reduceLeDiff, reduceCtorEq, Nat.reduceMod, Int.reduceEq, Int.reduceLT, Int.reduceLE, Int.reduceToNat, dite_true]
      exact RetOk.r rfl (RetR.own (i := 0) rfl) ⟨rm, rfl, hrm⟩
    obtain ⟨j, rfl⟩ : ∃ j : Nat, x = j := ⟨x.toNat, by omega⟩
    have hj : j < g.nodes.length := by omega
    have hneg : ¬ (j : Int) < 0 := by omega
    have hget : (hasOf g.nodes.length met)[j]? = some (.bool (decide ((j : Int) ∈ met))) := rngB_get _ hj
    have hlt : j < (hasOf g.nodes.length met).length := by unfold hasOf; rw [rngB_len]; exact hj
    have hset := hasOf_snoc g.nodes.length met j
    by_cases hm : (j : Int) ∈ met
    · rw [visit_old g (.inr hm)]
      rw [decide_eq_true hm] at hget
      simp only [push_cast, ↓reduceIte, Nat.reduceEqDiff, Nat.reduceAdd, Nat.reduceMul, Nat.reduceSub, Nat.reduceLT, Nat.reduceLeDiff, reduceCtorEq, Nat.reduceMod, Int.reduceEq, Int.reduceLT, Int.reduceLE, Int.reduceToNat, dite_true, hneg, hxn, hx0, hget]
      exact RetOk.r rfl (RetR.own (i := 0) rfl) ⟨rm, rfl, hrm⟩
    rw [decide_eq_false hm] at hget
    have hvis : visit g (f + 1) (j : Int) met = visits g f (realKids g j) (met ++ [(j : Int)]) := by rw [visit, if_neg (by rintro (h | h); omega; exact hm h)]
    rw [hvis]
    have hmet1 := hmet.snoc hx0 hxn hm
    obtain ⟨q, _, cs, eq, _, _, kl, kr⟩ := (ha.mono hF01).elem (by decide) (i := j) (a := g.nodes[j]) (List.getElem?_eq_getElem hj) RNd.len
    cases eq
    obtain ⟨m, hmm⟩ : ∃ m, m = g.nodes[j] := ⟨_, rfl⟩
    rw [← hmm] at kr
    have hrk : realKids g (j : Int) = m.kids.map (real g.nodes.length) := by unfold realKids kidsOf; rw [hmm]; simp [hj]
    obtain ⟨vn, vk, rfl, hvn, hvk⟩ := kr
    obtain ⟨pk, ck, rfl, hk1, hk2, hk3⟩ := hvk
    simp only [push_cast, ↓reduceIte, Nat.reduceEqDiff, Nat.reduceAdd, Nat.reduceMul, Nat.reduceSub, Nat.reduceLT, Nat.reduceLeDiff, reduceCtorEq, Nat.reduceMod, Int.reduceEq, Int.reduceLT, Int.reduceLE, Int.reduceToNat, dite_true, hneg, hxn, hx0, hget, hlt, hset]
    intro b27 F2 hF2 hb27
    refine Eff.append (ys := [.int .i64 j]) rfl rfl rfl ty22 rfl ty3 rfl (by decide) rfl rfl (List.Perm.refl _) hrm (Src.blk hb27 rfl) (by simp [Value.oneCell']) (by simp; omega) (by decide) ?_
    intro v2 r2 hr2
    simp only [push_cast, ↓reduceIte, Nat.reduceEqDiff, Nat.reduceAdd, Nat.reduceMul, Nat.reduceSub, Nat.reduceLT, Nat.reduceLeDiff, reduceCtorEq, Nat.reduceMod, Int.reduceEq, Int.reduceLT, Int.reduceLE, Int.reduceToNat, dite_true]
    refine VC.loopW (ι := Nat × Value × PH × PH) (fun i => [(9, .v (.int .i64 i.1)), (4, .o 1 b4 0), (3, .s 0 bh 0 g.nodes.length g.nodes.length), (2, .v i.2.1), (1, .v (.int .i64 j))]) (fun i => [⟨0, bh, 4, hasOf g.nodes.length (visits g f ((realKids g j).take i.1) (met ++ [(j : Int)]))⟩, ⟨1, b4, 25, [ar, .slice (some q) g.nodes.length ca]⟩]) (fun i => i.2.2.2) (fun i => [i.2.2.1])
      (fun i => i.1 ≤ m.kids.length ∧ F2.le i.2.2.2 ∧ Row i.2.2.1 3 1 i.2.1 ((visits g f ((realKids g j).take i.1) (met ++ [(j : Int)])).map (.int .i64))) (fun i => m.kids.length - i.1) (0, v2, r2, F2) ⟨Nat.zero_le _, PH.le_refl _, by simpa [visits] using hr2⟩ (by simp [subk, Eng.look]) (by simp [visits]) rfl (subR_refl _) ?_
    rintro ⟨i, vi, ri, F3⟩ ⟨hi, hF3, hri⟩ G hG
    dsimp only at hi hF3 hri hG ⊢
    have k3 := hF3.cell (hF2.cell (cell_at kl (o := 3) rfl))
    refine VC.go 100 ?_
    by_cases h : i < m.kids.length
    case neg =>
      have h' : ¬ (i : Int) < (m.kids.length : Int) := by omega
      rw [List.take_of_length_le (by rw [hrk, List.length_map]; omega)] at hri ⊢
      simp only [push_cast, ↓reduceIte, Nat.reduceEqDiff, Nat.reduceAdd, Nat.reduceMul, Nat.reduceSub, Nat.reduceLT, Nat.reduceLeDiff, reduceCtorEq, Nat.reduceMod, Int.reduceEq, Int.reduceLT, Int.reduceLE, Int.reduceToNat, dite_true, h1, hxn, hx0, k3, h']
      exact RetOk.r rfl (RetR.own (i := 0) rfl) ⟨ri, rfl, hri⟩
    have h' : (i : Int) < (m.kids.length : Int) := by omega
    have h0 : (0 : Int) ≤ (i : Int) := by omega
    have ew : IntKind.i64.wrap ((i : Int) + 1) = ((i + 1 : Nat) : Int) := wadd i h (Nat.le_trans hk1 hk2)
    obtain ⟨qk, rfl, hqk⟩ := (hk3.mono (PH.le_trans hF2 hF3)).elem1 (i := i) (v := .int .i64 m.kids[i]) (by simp [h])
    have hvm := visits_met g f ((realKids g j).take i) (met ++ [(j : Int)]) (fun y hy => reals_kids g j y (List.mem_of_mem_take hy)) hmet1
    obtain ⟨hvm1, l', hvl⟩ := hvm
    have hnext : visits g f ((realKids g j).take (i + 1)) (met ++ [(j : Int)]) = visit g f (real g.nodes.length m.kids[i]) (visits g f ((realKids g j).take i) (met ++ [(j : Int)])) := by
      have hi' : i < (realKids g j).length := by rw [hrk, List.length_map]; exact h
      rw [List.take_succ_eq_append_getElem hi', visits, List.foldl_append]
      simp only [List.foldl_cons, List.foldl_nil]
      congr 1
      simp only [hrk, List.getElem_map]
    obtain ⟨pv, mv, cv, rfl, _⟩ := hri.len
    simp only [push_cast, ↓reduceIte, Nat.reduceEqDiff, Nat.reduceAdd, Nat.reduceMul, Nat.reduceSub, Nat.reduceLT, Nat.reduceLeDiff, reduceCtorEq, Nat.reduceMod, Int.reduceEq, Int.reduceLT, Int.reduceLE, Int.reduceToNat, dite_true, h1, hxn, hx0, k3, h']
    refine VC.draw (.q 0 (.q 1 (.q 2 (.q 3 (.q 4 (.q 5 (.q 6 (.q 7 (.q 8 (.q 9 (.q 10 (.q 11 (.es 12 [0, 1, 2, 3, 4, 5, 6, 7, 8, 9, 10, 11] (.e 13 (.done))))))))))))))) mixed (by rfl) ?_
    simp only [push_cast, ↓reduceIte, Nat.reduceEqDiff, Nat.reduceAdd, Nat.reduceMul, Nat.reduceSub, Nat.reduceLT, Nat.reduceLeDiff, reduceCtorEq, Nat.reduceMod, Int.reduceEq, Int.reduceLT, Int.reduceLE, Int.reduceToNat, dite_true, h1, hxn, hx0, k3, h', h0, hqk]
    refine CallV.ownGen (i := 0) (R1 := [ri]) (Rf := []) (Q' := fun v F' cs' R'' => ∃ r', cs' = hasOf g.nodes.length (visits g f ((realKids g j).take (i + 1)) (met ++ [(j : Int)])) ∧ R'' = [r'] ∧ Row r' 3 1 v ((visits g f ((realKids g j).take (i + 1)) (met ++ [(j : Int)])).map (.int .i64))) rfl (List.Perm.refl _) (meetR g F ar _ bh h1 ha hn f F3 m.kids[i] _ _ ri (PH.le_trans hF01 (PH.le_trans hF2 hF3)) hvm1 (by rw [hvl]; simp; omega) hri) ?_ ?_
    · rintro v F' R' ⟨r', rfl, h2⟩
      rw [← hnext] at h2 ⊢
      exact ⟨_, _, rfl, r', rfl, rfl, h2⟩
    rintro v F4 cs' R'' hF4 ⟨r4, rfl, rfl, hr4⟩
    have k34 := hF4.cell k3
    have hqk4 := hF4.cell hqk
    obtain ⟨p4, m4, c4, rfl, _⟩ := hr4.len
    simp only [push_cast, ↓reduceIte, Nat.reduceEqDiff, Nat.reduceAdd, Nat.reduceMul, Nat.reduceSub, Nat.reduceLT, Nat.reduceLeDiff, reduceCtorEq, Nat.reduceMod, Int.reduceEq, Int.reduceLT, Int.reduceLE, Int.reduceToNat, dite_true, h1, hxn, hx0, k34, h', h0, hqk4]
    refine VC.go 100 ?_
    simp only [push_cast, ↓reduceIte, Nat.reduceEqDiff, Nat.reduceAdd, Nat.reduceMul, Nat.reduceSub, Nat.reduceLT, Nat.reduceLeDiff, reduceCtorEq, Nat.reduceMod, Int.reduceEq, Int.reduceLT, Int.reduceLE, Int.reduceToNat, dite_true, ew]
    exact hG (i + 1, .slice p4 m4 c4, r4, F4) _ ⟨h, PH.le_trans hF3 hF4, hr4⟩ (by simp; omega) (by simp [subk, Eng.look]) (List.Sublist.refl _) rfl (subR_refl _)
end Go.Proofs.Ythdbmbabfngakaa.G
