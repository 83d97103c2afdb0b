/- In right programs only binds are free: the walk. -/
import Derived.Test.YtlgfajdedmajcaaN1
import Derived.Test.YtlgfajdedmajcaaD1
import Derived.Test.YtlgfajdedmajcaaC3
namespace Go.Proofs.Ytlgfajdedmajcaa.N
open Go Go.Eng Go.Proofs Go.Proofs.Ytlgfajdedmajcaa.T Go.Proofs.Ytlgfajdedmajcaa.K
open V (lessL onceL atomsL within withinB withinL withinBs withinKid withinLs)
set_option linter.unusedSimpArgs false
set_option linter.unusedVariables false
set_option maxRecDepth 100000
set_option maxHeartbeats 4000000
theorem law_right (ds : List Dat) (bs : List Bind) (F : PH) (vd vb : Value) (hd : Dats F vd ds) (hbs : SlE F 11 (RBind F) vb bs) (hs : sizeBs bs ≤ 10000000) :
    PFn Try.prog 8 [.agg #[vd, vb]] F (fun v _ => v = .bool true) := by
  have hd' := hd
  have hb' := hbs
  have hbn := sizeBs_count bs
  obtain ⟨pd, cd, rfl, hd1, hd2⟩ := hd.val
  obtain ⟨pb, cb, rfl, hb1, hb2⟩ := hbs.val
  refine Fn.intro (n := 61) (ts := [2]) Try.func8 rfl rfl rfl rfl (by simp) fun B hB => VC.go 100 ?_
  simp only [push_cast, ↓reduceIte, Nat.reduceEqDiff, Nat.reduceAdd, Nat.reduceMul, Nat.reduceSub, Nat.reduceLT, Nat.reduceLeDiff, reduceCtorEq, Nat.reduceMod, Int.reduceEq, Int.reduceLT, Int.reduceLE, Int.reduceToNat, dite_true]
  intro b1
  refine CallV.pure (check ds bs F _ _ hd' hb' hs) ?_
  rintro _ F0 hF0 rfl
  simp only [push_cast, ↓reduceIte, Nat.reduceEqDiff, Nat.reduceAdd, Nat.reduceMul, Nat.reduceSub, Nat.reduceLT, Nat.reduceLeDiff, reduceCtorEq, Nat.reduceMod, Int.reduceEq, Int.reduceLT, Int.reduceLE, Int.reduceToNat, dite_true]
  refine CallV.pure (V.awake10 F0) ?_
  rintro _ F1 hF1 rfl
  by_cases g : (checkC ds bs).e = 0
  case neg =>
    simp only [push_cast, ↓reduceIte, Nat.reduceEqDiff, Nat.reduceAdd, Nat.reduceMul, Nat.reduceSub, Nat.reduceLT, Nat.reduceLeDiff, reduceCtorEq, Nat.reduceMod, Int.reduceEq, Int.reduceLT, Int.reduceLE, Int.reduceToNat, dite_true, g]
    refine CallV.pure (V.awake10 F1) ?_
    rintro _ F2 hF2 rfl
    simp only [push_cast, ↓reduceIte, Nat.reduceEqDiff, Nat.reduceAdd, Nat.reduceMul, Nat.reduceSub, Nat.reduceLT, Nat.reduceLeDiff, reduceCtorEq, Nat.reduceMod, Int.reduceEq, Int.reduceLT, Int.reduceLE, Int.reduceToNat, dite_true]
    exact RetOk.p rfl rfl
  have hFF1 := PH.le_trans hF0 hF1
  simp only [push_cast, ↓reduceIte, Nat.reduceEqDiff, Nat.reduceAdd, Nat.reduceMul, Nat.reduceSub, Nat.reduceLT, Nat.reduceLeDiff, reduceCtorEq, Nat.reduceMod, Int.reduceEq, Int.reduceLT, Int.reduceLE, Int.reduceToNat, dite_true, eq_true g]
  refine CallV.sl (namesF F1 _ bs (hb'.mono hFF1 (fun _ _ _ h => h.mono hFF1)) (by omega)) ?_
  intro v0 F2 m0 hF2 hm0 hv0
  have hall := sl_strs hm0 hv0
  clear hm0 hv0
  simp only [push_cast, ↓reduceIte, Nat.reduceEqDiff, Nat.reduceAdd, Nat.reduceMul, Nat.reduceSub, Nat.reduceLT, Nat.reduceLeDiff, reduceCtorEq, Nat.reduceMod, Int.reduceEq, Int.reduceLT, Int.reduceLE, Int.reduceToNat, dite_true]
  refine VC.loopF (ι := Nat × PH) (fun i => [(6, .v (.int .i64 i.1)), (5, .v v0), (1, .o 0 b1 0)]) (fun i => i.2) (fun i => i.1 ≤ bs.length ∧ F2.le i.2) (fun i => bs.length - i.1) (0, F2) ⟨Nat.zero_le _, PH.le_refl _⟩ (by simp [subk, Eng.look]) rfl ?_
  rintro ⟨k, F3⟩ ⟨hk, hF3⟩ G hG
  dsimp only at hk hF3 hG ⊢
  have hFF3 := PH.le_trans hFF1 (PH.le_trans hF2 hF3)
  refine VC.go 100 ?_
  by_cases h : k < bs.length
  case neg =>
    have h' : ¬ (k : Int) < (bs.length : Int) := by omega
    simp only [push_cast, ↓reduceIte, Nat.reduceEqDiff, Nat.reduceAdd, Nat.reduceMul, Nat.reduceSub, Nat.reduceLT, Nat.reduceLeDiff, reduceCtorEq, Nat.reduceMod, Int.reduceEq, Int.reduceLT, Int.reduceLE, Int.reduceToNat, dite_true, h']
    exact RetOk.p rfl rfl
  have h' : (k : Int) < (bs.length : Int) := by omega
  have h0 : (0 : Int) ≤ (k : Int) := by omega
  have e2 : IntKind.i64.wrap ((k : Int) + 1) = ((k + 1 : Nat) : Int) := wadd k h (Nat.le_trans hb1 hb2)
  obtain ⟨q, _, cs, eq, _, _, kl, kr⟩ := (hb'.mono (R' := RBind F3) hFF3 (fun _ _ _ h => h.mono hFF3)).elem (by decide) (i := k) (a := bs[k]) (List.getElem?_eq_getElem h) (fun _ _ h => h.len)
  cases eq
  have hmem : bs[k] ∈ bs := List.getElem_mem h
  have hsm := sizeBs_mem hmem
  have hse := bsize_eq bs[k]
  obtain ⟨bd, hbk⟩ : ∃ bd, bd = bs[k] := ⟨_, rfl⟩
  rw [← hbk] at hsm hse kr hmem
  have hfree := right_free g hmem
  have hnod := free_nodup bd
  obtain ⟨wv, cc, rfl, hwv, hcc⟩ := RBind_iff.1 kr
  obtain ⟨xa, xb, xe, xl, rfl, hx⟩ := RExp_iff.1 hcc
  have hwv' := hwv
  obtain ⟨pv, cv, rfl, _, _, _⟩ := hwv
  have hx' := hx
  obtain ⟨_, _, _, _, _, _, _, _, rfl, rfl, rfl, rfl⟩ := hx.slices
  have kf := cells_sub kl (o := 2) (m := 9) (by omega)
  simp only [List.drop_succ_cons, List.drop_zero, List.take_succ_cons, List.take_zero] at kf
  simp only [push_cast, ↓reduceIte, Nat.reduceEqDiff, Nat.reduceAdd, Nat.reduceMul, Nat.reduceSub, Nat.reduceLT, Nat.reduceLeDiff, reduceCtorEq, Nat.reduceMod, Int.reduceEq, Int.reduceLT, Int.reduceLE, Int.reduceToNat, dite_true, h', h0, kf]
  have hbb : bd.body.size ≤ 100000000 := by omega
  refine CallV.sl (V.free F3 (bd.args, bd.body) _ _ _ _ _ hwv' hx' (V.within_all _ bd.body rfl hbb) hbb) ?_
  intro v7 F4 m4 hF4 hm4 hv7
  have h7 := sl_strs hm4 hv7
  clear hm4 hv7
  dsimp only at h7
  generalize lessL (within bd.body) bd.args = l at h7 hfree hnod
  have h7' := h7
  obtain ⟨pl, cl, rfl, hl1, hl2, hl3⟩ := h7
  simp only [push_cast, ↓reduceIte, Nat.reduceEqDiff, Nat.reduceAdd, Nat.reduceMul, Nat.reduceSub, Nat.reduceLT, Nat.reduceLeDiff, reduceCtorEq, Nat.reduceMod, Int.reduceEq, Int.reduceLT, Int.reduceLE, Int.reduceToNat, dite_true]
  refine VC.loopF (ι := Nat × PH) (fun i => [(8, .v (.int .i64 i.1)), (7, .v (.slice pl l.length cl)), (6, .v (.int .i64 k)), (5, .v v0), (1, .o 0 b1 0)]) (fun i => i.2) (fun i => i.1 ≤ l.length ∧ F4.le i.2) (fun i => l.length - i.1) (0, F4) ⟨Nat.zero_le _, PH.le_refl _⟩ (by simp [subk, Eng.look]) rfl ?_
  rintro ⟨j, F5⟩ ⟨hj, hF5⟩ G2 hG2
  dsimp only at hj hF5 hG2 ⊢
  refine VC.go 100 ?_
  by_cases hjl : j < l.length
  case neg =>
    have h' : ¬ (j : Int) < (l.length : Int) := by omega
    simp only [push_cast, ↓reduceIte, Nat.reduceEqDiff, Nat.reduceAdd, Nat.reduceMul, Nat.reduceSub, Nat.reduceLT, Nat.reduceLeDiff, reduceCtorEq, Nat.reduceMod, Int.reduceEq, Int.reduceLT, Int.reduceLE, Int.reduceToNat, dite_true, h', e2]
    exact hG (k + 1, F5) _ ⟨by simp; omega, PH.le_trans hF3 (PH.le_trans hF4 hF5)⟩ (by simp; omega) (by simp [subk, Eng.look]) (List.Sublist.refl _) rfl rfl
  have hj' : (j : Int) < (l.length : Int) := by omega
  have h0j : (0 : Int) ≤ (j : Int) := by omega
  have h3 : (j : Int) ≤ (cl : Int) := by omega
  have h4 : ¬ cl = 0 := by omega
  have e4 : IntKind.i64.wrap ((j : Int) + 1) = ((j + 1 : Nat) : Int) := wadd j hjl (Nat.le_trans hl1 hl2)
  obtain ⟨qa, rfl, hqa⟩ := (hl3.mono hF5).elem1 (i := j) (v := .string l[j]) (by simp [hjl])
  have hin : V.hasB (bs.map Bind.name) l[j] = true := V.hasB_iff.2 (hfree _ (List.getElem_mem hjl))
  have hno : V.hasB (l.take j) l[j] = false := V.hasB_no fun hm => by
    have := hnod
    rw [← List.take_append_drop j l, List.nodup_append] at this
    refine this.2.2 _ hm _ ?_ rfl
    rw [List.drop_eq_getElem_cons hjl]
    exact List.mem_cons_self
  simp only [push_cast, ↓reduceIte, Nat.reduceEqDiff, Nat.reduceAdd, Nat.reduceMul, Nat.reduceSub, Nat.reduceLT, Nat.reduceLeDiff, reduceCtorEq, Nat.reduceMod, Int.reduceEq, Int.reduceLT, Int.reduceLE, Int.reduceToNat, dite_true, hj']
  refine VC.draw (.q 0 (.q 1 (.q 2 (.q 3 (.q 4 (.e 5 (.q 6 (.q 7 (.q 8 (.q 9 (.q 10 (.q 11 (.q 12 (.q 13 (.q 14 (.e 15 (.q 16 (.done)))))))))))))))))) mixed (by rfl) ?_
  simp only [push_cast, ↓reduceIte, Nat.reduceEqDiff, Nat.reduceAdd, Nat.reduceMul, Nat.reduceSub, Nat.reduceLT, Nat.reduceLeDiff, reduceCtorEq, Nat.reduceMod, Int.reduceEq, Int.reduceLT, Int.reduceLE, Int.reduceToNat, dite_true, hj', h0j, hqa]
  refine CallV.pure (V.has F5 _ (bs.map Bind.name) l[j] (hall.mono (PH.le_trans hF3 (PH.le_trans hF4 hF5)))) ?_
  rintro _ F6 hF6 rfl
  simp only [push_cast, ↓reduceIte, Nat.reduceEqDiff, Nat.reduceAdd, Nat.reduceMul, Nat.reduceSub, Nat.reduceLT, Nat.reduceLeDiff, reduceCtorEq, Nat.reduceMod, Int.reduceEq, Int.reduceLT, Int.reduceLE, Int.reduceToNat, dite_true, hin, hj', h0j, h3, h4, hF6.cell hqa, Nat.zero_mul, Nat.sub_zero, Option.map_some, add_zero']
  refine CallV.pure (V.has F6 _ (l.take j) l[j] (strs_take (h7'.mono (PH.le_trans hF5 hF6)) (by omega))) ?_
  rintro _ F7 hF7 rfl
  simp only [push_cast, ↓reduceIte, Nat.reduceEqDiff, Nat.reduceAdd, Nat.reduceMul, Nat.reduceSub, Nat.reduceLT, Nat.reduceLeDiff, reduceCtorEq, Nat.reduceMod, Int.reduceEq, Int.reduceLT, Int.reduceLE, Int.reduceToNat, dite_true, hno]
  refine VC.go 100 ?_
  simp only [push_cast, ↓reduceIte, Nat.reduceEqDiff, Nat.reduceAdd, Nat.reduceMul, Nat.reduceSub, Nat.reduceLT, Nat.reduceLeDiff, reduceCtorEq, Nat.reduceMod, Int.reduceEq, Int.reduceLT, Int.reduceLE, Int.reduceToNat, dite_true, e4]
  exact hG2 (j + 1, F7) _ ⟨by simp; omega, PH.le_trans hF5 (PH.le_trans hF6 hF7)⟩ (by simp; omega) (by simp [subk, Eng.look]) (List.Sublist.refl _) rfl rfl
end Go.Proofs.Ytlgfajdedmajcaa.N
