/- The document's checker: Check. (Written by gen/k8.py.) -/
import Derived.Test.YtjeidgjhkjnkeaaDoorK7
namespace Go.Proofs.YtjeidgjhkjnkeaaDoor.K
open Go Go.Eng Go.Proofs Go.Proofs.YtjeidgjhkjnkeaaDoor.T
set_option linter.unusedSimpArgs false
set_option linter.unusedVariables false
set_option maxRecDepth 100000
set_option maxHeartbeats 8000000
def twiceD (p : List Dat) (d : Dat) (c : Ck) : Ck := p.foldl (fun c x => whenC (x.name = d.name) c d.at_ 30) c
theorem twiceD_snoc (p : List Dat) (x d : Dat) (c : Ck) : twiceD (p ++ [x]) d c = whenC (x.name = d.name) (twiceD p d c) d.at_ 30 := by simp [twiceD, List.foldl_append]
def stepDat (p : List Dat) (d : Dat) (c : Ck) : Ck := whenC (d.arity < 0 ∨ 8 < d.arity) (twiceD p d c) d.at_ 33
def datasC : List Dat → List Dat → Ck → Ck
  | _, [], c => c
  | p, d :: l, c => datasC (p ++ [d]) l (stepDat p d c)
theorem datasC_snoc : ∀ (l p : List Dat) (d : Dat) (c : Ck), datasC p (l ++ [d]) c = stepDat (p ++ l) d (datasC p l c)
  | [], p, d, c => by simp [datasC]
  | x :: l, p, d, c => by simp [datasC, datasC_snoc l]
def mainB : ByteArray := bs [109, 97, 105, 110]
def checkC (ds : List Dat) (l : List Bind) : Ck := whenC (hasB (l.map Bind.name) mainB = false) (bindsC ds l (l.map Bind.name) (dupC [] l (datasC [] ds ⟨false, 0, 0⟩))) 0 36
theorem check (ds : List Dat) (bs : List Bind) (F : PH) (vd vb : Value) (hd : Dats F vd ds) (hbs : SlE F 11 (RBind F) vb bs) (hs : sizeBs bs ≤ 10000000) :
    PFn Tryd.prog 9 [.agg #[vd, vb]] F (fun v _ => v = .tuple #[.int .i64 (checkC ds bs).at_, .int .i64 (checkC ds bs).e]) := by
  have hd' := hd
  have hb' := hbs
  have hbn := sizeBs_count bs
  obtain ⟨pd, cd, rfl, hd1, hd2⟩ := hd.val
  obtain ⟨pb, cb, rfl, hb1, hb2⟩ := hbs.val
  generalize hr : checkC ds bs = r
  unfold checkC at hr
  refine Fn.intro (n := 122) (ts := [2, 3]) Tryd.func9 rfl rfl rfl rfl (by simp) fun B hB => VC.go 100 ?_
  simp only [push_cast, ↓reduceIte, Nat.reduceEqDiff, Nat.reduceAdd, Nat.reduceMul, Nat.reduceSub, Nat.reduceLT, Nat.reduceLeDiff, reduceCtorEq, Nat.reduceMod, Int.reduceEq, Int.reduceLT, Int.reduceLE, Int.reduceToNat, dite_true]
  intro b1 bc
  refine VC.loopM (ι := Nat × Ck × PH) (fun i => [(5, .v (.int .i64 i.1)), (4, .o 1 bc 0), (1, .o 0 b1 0)]) (fun i => [⟨0, b1, 25, [.slice pd ds.length cd, .slice pb bs.length cb]⟩, ⟨1, bc, 68, ckCells (.slice pd ds.length cd) (.slice pb bs.length cb) i.2.1⟩]) (fun i => i.2.2) (fun i => i.1 ≤ ds.length ∧ F.le i.2.2 ∧ i.2.1 = datasC [] (ds.take i.1) ⟨false, 0, 0⟩) (fun i => ds.length - i.1) (0, ⟨false, 0, 0⟩, F) ⟨Nat.zero_le _, PH.le_refl _, rfl⟩ (by simp [subk, Eng.look]) (List.Sublist.refl _) rfl ?_
  rintro ⟨k, c1, F1⟩ ⟨hk, hF1, hc⟩ G0 hG0
  dsimp only at hk hF1 hc hG0 ⊢
  refine VC.go 100 ?_
  by_cases h : k < ds.length
  case pos =>
    have h' : (k : Int) < (ds.length : Int) := by omega
    have h0 : (0 : Int) ≤ (k : Int) := by omega
    have e2 : IntKind.i64.wrap ((k : Int) + 1) = ((k + 1 : Nat) : Int) := wadd k h (Nat.le_trans hd1 hd2)
    have ht : datasC [] (ds.take (k + 1)) ⟨false, 0, 0⟩ = stepDat (ds.take k) ds[k] c1 := by rw [List.take_succ_eq_append_getElem h, datasC_snoc, hc]; simp
    obtain ⟨q, _, cs, eq, _, _, kl, kr⟩ := (hd'.mono' hF1).elem (by decide) (i := k) (a := ds[k]) (List.getElem?_eq_getElem h) (fun _ _ h => h.len)
    cases eq
    obtain rfl := kr
    obtain ⟨d, hdk⟩ : ∃ d, d = ds[k] := ⟨_, rfl⟩
    rw [← hdk] at kl ht
    simp only [push_cast, ↓reduceIte, Nat.reduceEqDiff, Nat.reduceAdd, Nat.reduceMul, Nat.reduceSub, Nat.reduceLT, Nat.reduceLeDiff, reduceCtorEq, Nat.reduceMod, Int.reduceEq, Int.reduceLT, Int.reduceLE, Int.reduceToNat, dite_true, h', h0, kl]
    intro b2
    refine VC.loopM (ι := Nat × Ck × PH) (fun i => [(7, .v (.int .i64 i.1)), (6, .o 2 b2 0), (5, .v (.int .i64 k)), (4, .o 1 bc 0), (1, .o 0 b1 0)]) (fun i => [⟨0, b1, 25, [.slice (some q) ds.length cd, .slice pb bs.length cb]⟩, ⟨1, bc, 68, ckCells (.slice (some q) ds.length cd) (.slice pb bs.length cb) i.2.1⟩, ⟨2, b2, 57, [.string d.name, .int .i64 d.arity, .int .i64 d.at_]⟩]) (fun i => i.2.2) (fun i => i.1 ≤ k ∧ F1.le i.2.2 ∧ i.2.1 = twiceD (ds.take i.1) d c1) (fun i => k - i.1) (0, c1, F1) ⟨Nat.zero_le _, PH.le_refl _, rfl⟩ (by simp [subk, Eng.look]) (List.Sublist.refl _) rfl ?_
    rintro ⟨j, c2, F2⟩ ⟨hj, hF2, hc2⟩ G2 hG2
    dsimp only at hj hF2 hc2 hG2 ⊢
    refine VC.go 100 ?_
    by_cases hjk : j < k
    case neg =>
      have hjk' : ¬ (j : Int) < (k : Int) := by omega
      obtain rfl : j = k := by omega
      by_cases a1 : d.arity < 0
      · simp only [push_cast, ↓reduceIte, Nat.reduceEqDiff, Nat.reduceAdd, Nat.reduceMul, Nat.reduceSub, Nat.reduceLT, Nat.reduceLeDiff, reduceCtorEq, Nat.reduceMod, Int.reduceEq, Int.reduceLT, Int.reduceLE, Int.reduceToNat, dite_true, hjk', a1]
        refine CallV.own (i := 1) rfl (fail F2 bc _ _ c2 d.at_ 33) ?_
        rintro _ F5 _ hF5 rfl
        simp only [push_cast, ↓reduceIte, Nat.reduceEqDiff, Nat.reduceAdd, Nat.reduceMul, Nat.reduceSub, Nat.reduceLT, Nat.reduceLeDiff, reduceCtorEq, Nat.reduceMod, Int.reduceEq, Int.reduceLT, Int.reduceLE, Int.reduceToNat, dite_true, e2]
        exact hG0 (j + 1, failC c2 d.at_ 33, F5) _ ⟨by simp; omega, PH.le_trans hF1 (PH.le_trans hF2 hF5), by rw [ht, stepDat, ← hc2, whenC, if_pos (.inl a1)]⟩ (by simp; omega) (by simp [subk, Eng.look]) (by simp) rfl rfl
      by_cases a2 : 8 < d.arity
      · simp only [push_cast, ↓reduceIte, Nat.reduceEqDiff, Nat.reduceAdd, Nat.reduceMul, Nat.reduceSub, Nat.reduceLT, Nat.reduceLeDiff, reduceCtorEq, Nat.reduceMod, Int.reduceEq, Int.reduceLT, Int.reduceLE, Int.reduceToNat, dite_true, hjk', a1, a2]
        refine CallV.own (i := 1) rfl (fail F2 bc _ _ c2 d.at_ 33) ?_
        rintro _ F5 _ hF5 rfl
        simp only [push_cast, ↓reduceIte, Nat.reduceEqDiff, Nat.reduceAdd, Nat.reduceMul, Nat.reduceSub, Nat.reduceLT, Nat.reduceLeDiff, reduceCtorEq, Nat.reduceMod, Int.reduceEq, Int.reduceLT, Int.reduceLE, Int.reduceToNat, dite_true, e2]
        exact hG0 (j + 1, failC c2 d.at_ 33, F5) _ ⟨by simp; omega, PH.le_trans hF1 (PH.le_trans hF2 hF5), by rw [ht, stepDat, ← hc2, whenC, if_pos (.inr a2)]⟩ (by simp; omega) (by simp [subk, Eng.look]) (by simp) rfl rfl
      · have a3 : ¬ (d.arity < 0 ∨ 8 < d.arity) := fun h => h.elim a1 a2
        simp only [push_cast, ↓reduceIte, Nat.reduceEqDiff, Nat.reduceAdd, Nat.reduceMul, Nat.reduceSub, Nat.reduceLT, Nat.reduceLeDiff, reduceCtorEq, Nat.reduceMod, Int.reduceEq, Int.reduceLT, Int.reduceLE, Int.reduceToNat, dite_true, hjk', a1, a2, e2]
        exact hG0 (j + 1, c2, F2) _ ⟨by simp; omega, PH.le_trans hF1 hF2, by rw [ht, stepDat, ← hc2, whenC, if_neg a3]⟩ (by simp; omega) (by simp [subk, Eng.look]) (by simp) rfl rfl
    have hjk' : (j : Int) < (k : Int) := by omega
    have hjl : j < ds.length := by omega
    have hjl' : (j : Int) < (ds.length : Int) := by omega
    have h0j : (0 : Int) ≤ (j : Int) := by omega
    have e4 : IntKind.i64.wrap ((j : Int) + 1) = ((j + 1 : Nat) : Int) := wadd j hjl (Nat.le_trans hd1 hd2)
    have hjt : twiceD (ds.take (j + 1)) d c1 = whenC ((ds[j]).name = d.name) c2 d.at_ 30 := by rw [List.take_succ_eq_append_getElem hjl, twiceD_snoc, hc2]
    obtain ⟨q3, _, cs3, eq3, _, _, kl3, kr3⟩ := (hd'.mono' (PH.le_trans hF1 hF2)).elem (by decide) (i := j) (a := ds[j]) (List.getElem?_eq_getElem hjl) (fun _ _ h => h.len)
    cases eq3
    obtain rfl := kr3
    have kc3 := cell_at kl3 (o := 0) rfl
    simp only [push_cast, ↓reduceIte, Nat.reduceEqDiff, Nat.reduceAdd, Nat.reduceMul, Nat.reduceSub, Nat.reduceLT, Nat.reduceLeDiff, reduceCtorEq, Nat.reduceMod, Int.reduceEq, Int.reduceLT, Int.reduceLE, Int.reduceToNat, dite_true, hjk']
    refine VC.draw (.q 0 (.q 1 (.q 2 (.q 3 (.q 4 (.q 5 (.q 6 (.q 7 (.q 8 (.done)))))))))) mixed (by rfl) ?_
    simp only [push_cast, ↓reduceIte, Nat.reduceEqDiff, Nat.reduceAdd, Nat.reduceMul, Nat.reduceSub, Nat.reduceLT, Nat.reduceLeDiff, reduceCtorEq, Nat.reduceMod, Int.reduceEq, Int.reduceLT, Int.reduceLE, Int.reduceToNat, dite_true, h0j, hjl', kc3]
    refine VC.go 100 ?_
    by_cases nn : (ds[j]).name = d.name
    · simp only [push_cast, ↓reduceIte, Nat.reduceEqDiff, Nat.reduceAdd, Nat.reduceMul, Nat.reduceSub, Nat.reduceLT, Nat.reduceLeDiff, reduceCtorEq, Nat.reduceMod, Int.reduceEq, Int.reduceLT, Int.reduceLE, Int.reduceToNat, dite_true, eq_true nn]
      refine CallV.own (i := 1) rfl (fail F2 bc _ _ c2 d.at_ 30) ?_
      rintro _ F5 _ hF5 rfl
      simp only [push_cast, ↓reduceIte, Nat.reduceEqDiff, Nat.reduceAdd, Nat.reduceMul, Nat.reduceSub, Nat.reduceLT, Nat.reduceLeDiff, reduceCtorEq, Nat.reduceMod, Int.reduceEq, Int.reduceLT, Int.reduceLE, Int.reduceToNat, dite_true, e4]
      exact hG2 (j + 1, failC c2 d.at_ 30, F5) _ ⟨by simp; omega, PH.le_trans hF2 hF5, by rw [hjt, whenC, if_pos nn]⟩ (by simp; omega) (by simp [subk, Eng.look]) (by simp) rfl rfl
    · simp only [push_cast, ↓reduceIte, Nat.reduceEqDiff, Nat.reduceAdd, Nat.reduceMul, Nat.reduceSub, Nat.reduceLT, Nat.reduceLeDiff, reduceCtorEq, Nat.reduceMod, Int.reduceEq, Int.reduceLT, Int.reduceLE, Int.reduceToNat, dite_true, nn, e4]
      exact hG2 (j + 1, c2, F2) _ ⟨by simp; omega, hF2, by rw [hjt, whenC, if_neg nn]⟩ (by simp; omega) (by simp [subk, Eng.look]) (by simp) rfl rfl
  have h' : ¬ (k : Int) < (ds.length : Int) := by omega
  rw [List.take_of_length_le (by omega)] at hc
  subst hc
  generalize datasC [] ds ⟨false, 0, 0⟩ = c0 at hr ⊢
  simp only [push_cast, ↓reduceIte, Nat.reduceEqDiff, Nat.reduceAdd, Nat.reduceMul, Nat.reduceSub, Nat.reduceLT, Nat.reduceLeDiff, reduceCtorEq, Nat.reduceMod, Int.reduceEq, Int.reduceLT, Int.reduceLE, Int.reduceToNat, dite_true, h']
  refine CallV.sl (namesF F1 _ bs (hb'.mono hF1 (fun _ _ _ h => h.mono hF1)) (by omega)) ?_
  intro v0 F0 m0 hF0 hm0 hv0
  have hown := sl_strs hm0 hv0
  clear hm0 hv0
  obtain ⟨own, ho⟩ : ∃ own, own = bs.map Bind.name := ⟨_, rfl⟩
  rw [← ho] at hown hr
  have hol : own.length = bs.length := by rw [ho]; simp
  have hown' := hown
  obtain ⟨pn, cn, rfl, hn1, hn2, hn3⟩ := hown
  have hFF0 := PH.le_trans hF1 hF0
  clear hG0 h h' hk
  simp only [push_cast, ↓reduceIte, Nat.reduceEqDiff, Nat.reduceAdd, Nat.reduceMul, Nat.reduceSub, Nat.reduceLT, Nat.reduceLeDiff, reduceCtorEq, Nat.reduceMod, Int.reduceEq, Int.reduceLT, Int.reduceLE, Int.reduceToNat, dite_true]
  refine VC.loopM (ι := Nat × Ck × PH) (fun i => [(9, .v (.int .i64 i.1)), (8, .v (.slice pn own.length cn)), (4, .o 1 bc 0), (1, .o 0 b1 0)]) (fun i => [⟨0, b1, 25, [.slice pd ds.length cd, .slice pb bs.length cb]⟩, ⟨1, bc, 68, ckCells (.slice pd ds.length cd) (.slice pb bs.length cb) i.2.1⟩]) (fun i => i.2.2) (fun i => i.1 ≤ own.length ∧ F0.le i.2.2 ∧ i.2.1 = dupC [] (bs.take i.1) c0) (fun i => own.length - i.1) (0, c0, F0) ⟨Nat.zero_le _, PH.le_refl _, rfl⟩ (by simp [subk, Eng.look]) (List.Sublist.refl _) rfl ?_
  rintro ⟨k, c1, F1⟩ ⟨hk, hF1, hc⟩ G hG
  dsimp only at hk hF1 hc hG ⊢
  refine VC.go 100 ?_
  by_cases h : k < own.length
  case pos =>
    have h' : (k : Int) < (own.length : Int) := by omega
    have h0 : (0 : Int) ≤ (k : Int) := by omega
    have h2 : (k : Int) < (own.length : Int) := by omega
    have h3 : (k : Int) ≤ (cn : Int) := by omega
    have h4 : ¬ cn = 0 := by omega
    have h5 : k < bs.length := by omega
    have h6 : (k : Int) < (bs.length : Int) := by omega
    obtain ⟨qa, rfl, hqa⟩ := (hn3.mono hF1).elem1 (i := k) (v := .string own[k]) (by simp [h])
    have hFF1 := PH.le_trans hFF0 hF1
    obtain ⟨q, _, cs, eq, _, _, kl, kr⟩ := (hb'.mono (R' := RBind F1) hFF1 (fun _ _ _ h => h.mono hFF1)).elem (by decide) (i := k) (a := bs[k]) (List.getElem?_eq_getElem h5) (fun _ _ h => h.len)
    cases eq
    obtain ⟨wv, cc, rfl, _, _⟩ := RBind_iff.1 kr
    have kc := cell_at kl (o := 1) rfl
    have e2 : IntKind.i64.wrap ((k : Int) + 1) = ((k + 1 : Nat) : Int) := wadd k h (Nat.le_trans hn1 hn2)
    have hnk : (bs[k]).name = own[k] := by subst ho; simp
    have hpk : [] ++ (bs.take k).map Bind.name = own.take k := by subst ho; simp [List.map_take]
    have ht : dupC [] (bs.take (k + 1)) c0 = stepD ([] ++ (bs.take k).map Bind.name) bs[k] c1 := by rw [List.take_succ_eq_append_getElem h5, dupC_snoc, hc]
    by_cases g : own[k] = ⟨#[]⟩
    · simp only [push_cast, ↓reduceIte, Nat.reduceEqDiff, Nat.reduceAdd, Nat.reduceMul, Nat.reduceSub, Nat.reduceLT, Nat.reduceLeDiff, reduceCtorEq, Nat.reduceMod, Int.reduceEq, Int.reduceLT, Int.reduceLE, Int.reduceToNat, dite_true, h', h0, hqa, eq_true g, h6, kc]
      refine CallV.own (i := 1) rfl (fail F1 bc _ _ c1 (bs[k]).at_ 31) ?_
      rintro _ Fx _ hFx rfl
      simp only [push_cast, ↓reduceIte, Nat.reduceEqDiff, Nat.reduceAdd, Nat.reduceMul, Nat.reduceSub, Nat.reduceLT, Nat.reduceLeDiff, reduceCtorEq, Nat.reduceMod, Int.reduceEq, Int.reduceLT, Int.reduceLE, Int.reduceToNat, dite_true]
      refine VC.draw (.q 0 (.q 1 (.q 2 (.q 3 (.q 4 (.q 5 (.q 6 (.e 7 (.done))))))))) mixed (by rfl) ?_
      simp only [push_cast, ↓reduceIte, Nat.reduceEqDiff, Nat.reduceAdd, Nat.reduceMul, Nat.reduceSub, Nat.reduceLT, Nat.reduceLeDiff, reduceCtorEq, Nat.reduceMod, Int.reduceEq, Int.reduceLT, Int.reduceLE, Int.reduceToNat, dite_true, h0, h2, h3, h4, (hFx).cell hqa, Nat.zero_mul, Nat.sub_zero, Option.map_some, add_zero']
      refine CallV.pure (has Fx _ (own.take k) own[k] (strs_take (hown'.mono (PH.le_trans hF1 (hFx))) (by omega))) ?_
      rintro _ Fy hFy rfl
      cases hh : hasB (own.take k) own[k] with
      | true =>
        simp only [push_cast, ↓reduceIte, Nat.reduceEqDiff, Nat.reduceAdd, Nat.reduceMul, Nat.reduceSub, Nat.reduceLT, Nat.reduceLeDiff, reduceCtorEq, Nat.reduceMod, Int.reduceEq, Int.reduceLT, Int.reduceLE, Int.reduceToNat, dite_true]
        refine VC.go 100 ?_
        simp only [push_cast, ↓reduceIte, Nat.reduceEqDiff, Nat.reduceAdd, Nat.reduceMul, Nat.reduceSub, Nat.reduceLT, Nat.reduceLeDiff, reduceCtorEq, Nat.reduceMod, Int.reduceEq, Int.reduceLT, Int.reduceLE, Int.reduceToNat, dite_true, h0, h6, (PH.le_trans (hFx) hFy).cell kc]
        refine CallV.own (i := 1) rfl (fail Fy bc _ _ (failC c1 (bs[k]).at_ 31) (bs[k]).at_ 30) ?_
        rintro _ Fz _ hFz rfl
        simp only [push_cast, ↓reduceIte, Nat.reduceEqDiff, Nat.reduceAdd, Nat.reduceMul, Nat.reduceSub, Nat.reduceLT, Nat.reduceLeDiff, reduceCtorEq, Nat.reduceMod, Int.reduceEq, Int.reduceLT, Int.reduceLE, Int.reduceToNat, dite_true, e2]
        exact hG (k + 1, failC (failC c1 (bs[k]).at_ 31) (bs[k]).at_ 30, Fz) _ ⟨by simp; omega, PH.le_trans hF1 (PH.le_trans (hFx) (PH.le_trans hFy hFz)), by rw [ht]; simp only [stepD, whenC, hnk, hpk]; rw [hh, if_pos rfl, if_pos g]⟩ (by simp; omega) (by simp [subk, Eng.look]) (List.Sublist.refl _) rfl rfl
      | false =>
        simp only [push_cast, ↓reduceIte, Nat.reduceEqDiff, Nat.reduceAdd, Nat.reduceMul, Nat.reduceSub, Nat.reduceLT, Nat.reduceLeDiff, reduceCtorEq, Nat.reduceMod, Int.reduceEq, Int.reduceLT, Int.reduceLE, Int.reduceToNat, dite_true]
        refine VC.go 100 ?_
        simp only [push_cast, ↓reduceIte, Nat.reduceEqDiff, Nat.reduceAdd, Nat.reduceMul, Nat.reduceSub, Nat.reduceLT, Nat.reduceLeDiff, reduceCtorEq, Nat.reduceMod, Int.reduceEq, Int.reduceLT, Int.reduceLE, Int.reduceToNat, dite_true, e2]
        exact hG (k + 1, failC c1 (bs[k]).at_ 31, Fy) _ ⟨by simp; omega, PH.le_trans hF1 (PH.le_trans (hFx) hFy), by rw [ht]; simp only [stepD, whenC, hnk, hpk]; rw [hh, if_neg Bool.false_ne_true, if_pos g]⟩ (by simp; omega) (by simp [subk, Eng.look]) (List.Sublist.refl _) rfl rfl
    · simp only [push_cast, ↓reduceIte, Nat.reduceEqDiff, Nat.reduceAdd, Nat.reduceMul, Nat.reduceSub, Nat.reduceLT, Nat.reduceLeDiff, reduceCtorEq, Nat.reduceMod, Int.reduceEq, Int.reduceLT, Int.reduceLE, Int.reduceToNat, dite_true, h', h0, hqa, g, h6]
      refine VC.draw (.q 0 (.q 1 (.q 2 (.q 3 (.q 4 (.q 5 (.q 6 (.e 7 (.done))))))))) mixed (by rfl) ?_
      simp only [push_cast, ↓reduceIte, Nat.reduceEqDiff, Nat.reduceAdd, Nat.reduceMul, Nat.reduceSub, Nat.reduceLT, Nat.reduceLeDiff, reduceCtorEq, Nat.reduceMod, Int.reduceEq, Int.reduceLT, Int.reduceLE, Int.reduceToNat, dite_true, h0, h2, h3, h4, (PH.le_refl F1).cell hqa, Nat.zero_mul, Nat.sub_zero, Option.map_some, add_zero']
      refine CallV.pure (has F1 _ (own.take k) own[k] (strs_take (hown'.mono (PH.le_trans hF1 (PH.le_refl F1))) (by omega))) ?_
      rintro _ Fy hFy rfl
      cases hh : hasB (own.take k) own[k] with
      | true =>
        simp only [push_cast, ↓reduceIte, Nat.reduceEqDiff, Nat.reduceAdd, Nat.reduceMul, Nat.reduceSub, Nat.reduceLT, Nat.reduceLeDiff, reduceCtorEq, Nat.reduceMod, Int.reduceEq, Int.reduceLT, Int.reduceLE, Int.reduceToNat, dite_true]
        refine VC.go 100 ?_
        simp only [push_cast, ↓reduceIte, Nat.reduceEqDiff, Nat.reduceAdd, Nat.reduceMul, Nat.reduceSub, Nat.reduceLT, Nat.reduceLeDiff, reduceCtorEq, Nat.reduceMod, Int.reduceEq, Int.reduceLT, Int.reduceLE, Int.reduceToNat, dite_true, h0, h6, (PH.le_trans (PH.le_refl F1) hFy).cell kc]
        refine CallV.own (i := 1) rfl (fail Fy bc _ _ (c1) (bs[k]).at_ 30) ?_
        rintro _ Fz _ hFz rfl
        simp only [push_cast, ↓reduceIte, Nat.reduceEqDiff, Nat.reduceAdd, Nat.reduceMul, Nat.reduceSub, Nat.reduceLT, Nat.reduceLeDiff, reduceCtorEq, Nat.reduceMod, Int.reduceEq, Int.reduceLT, Int.reduceLE, Int.reduceToNat, dite_true, e2]
        exact hG (k + 1, failC (c1) (bs[k]).at_ 30, Fz) _ ⟨by simp; omega, PH.le_trans hF1 (PH.le_trans (PH.le_refl F1) (PH.le_trans hFy hFz)), by rw [ht]; simp only [stepD, whenC, hnk, hpk]; rw [hh, if_pos rfl, if_neg g]⟩ (by simp; omega) (by simp [subk, Eng.look]) (List.Sublist.refl _) rfl rfl
      | false =>
        simp only [push_cast, ↓reduceIte, Nat.reduceEqDiff, Nat.reduceAdd, Nat.reduceMul, Nat.reduceSub, Nat.reduceLT, Nat.reduceLeDiff, reduceCtorEq, Nat.reduceMod, Int.reduceEq, Int.reduceLT, Int.reduceLE, Int.reduceToNat, dite_true]
        refine VC.go 100 ?_
        simp only [push_cast, ↓reduceIte, Nat.reduceEqDiff, Nat.reduceAdd, Nat.reduceMul, Nat.reduceSub, Nat.reduceLT, Nat.reduceLeDiff, reduceCtorEq, Nat.reduceMod, Int.reduceEq, Int.reduceLT, Int.reduceLE, Int.reduceToNat, dite_true, e2]
        exact hG (k + 1, c1, Fy) _ ⟨by simp; omega, PH.le_trans hF1 (PH.le_trans (PH.le_refl F1) hFy), by rw [ht]; simp only [stepD, whenC, hnk, hpk]; rw [hh, if_neg Bool.false_ne_true, if_neg g]⟩ (by simp; omega) (by simp [subk, Eng.look]) (List.Sublist.refl _) rfl rfl
  have h' : ¬ (k : Int) < (own.length : Int) := by omega
  rw [List.take_of_length_le (by omega)] at hc
  subst hc
  have hFF1 := PH.le_trans hFF0 hF1
  simp only [push_cast, ↓reduceIte, Nat.reduceEqDiff, Nat.reduceAdd, Nat.reduceMul, Nat.reduceSub, Nat.reduceLT, Nat.reduceLeDiff, reduceCtorEq, Nat.reduceMod, Int.reduceEq, Int.reduceLT, Int.reduceLE, Int.reduceToNat, dite_true, h']
  refine VC.loopM (ι := Nat × Ck × PH) (fun i => [(10, .v (.int .i64 i.1)), (8, .v (.slice pn own.length cn)), (4, .o 1 bc 0), (1, .o 0 b1 0)]) (fun i => [⟨0, b1, 25, [.slice pd ds.length cd, .slice pb bs.length cb]⟩, ⟨1, bc, 68, ckCells (.slice pd ds.length cd) (.slice pb bs.length cb) i.2.1⟩]) (fun i => i.2.2) (fun i => i.1 ≤ bs.length ∧ F1.le i.2.2 ∧ i.2.1 = bindsC ds (bs.take i.1) own (dupC [] bs c0)) (fun i => bs.length - i.1) (0, _, F1) ⟨Nat.zero_le _, PH.le_refl _, by simp [bindsC]⟩ (by simp [subk, Eng.look]) (List.Sublist.refl _) rfl ?_
  rintro ⟨j, c3, F3⟩ ⟨hj, hF3, hc3⟩ G2 hG2
  dsimp only at hj hF3 hc3 hG2 ⊢
  refine VC.go 100 ?_
  have hFF3 := PH.le_trans hFF1 hF3
  by_cases h : j < bs.length
  case pos =>
    have h' : (j : Int) < (bs.length : Int) := by omega
    have h0 : (0 : Int) ≤ (j : Int) := by omega
    obtain ⟨q, _, cs, eq, _, _, kl, kr⟩ := (hb'.mono (R' := RBind F3) hFF3 (fun _ _ _ h => h.mono hFF3)).elem (by decide) (i := j) (a := bs[j]) (List.getElem?_eq_getElem h) (fun _ _ h => h.len)
    cases eq
    have hsm := sizeBs_mem2 bs j h
    have hse := bsize_eq bs[j]
    have ht : bindsC ds (bs.take (j + 1)) own (dupC [] bs c0) = formC ds bs[j] own c3 := by rw [List.take_succ_eq_append_getElem h, bindsC_snoc, hc3]
    have e2 : IntKind.i64.wrap ((j : Int) + 1) = ((j + 1 : Nat) : Int) := wadd j h (Nat.le_trans hb1 hb2)
    obtain ⟨bd, hbk⟩ : ∃ bd, bd = bs[j] := ⟨_, rfl⟩
    rw [← hbk] at hsm hse ht kr
    obtain ⟨wv, cc, rfl, hwv, hcc⟩ := RBind_iff.1 kr
    obtain ⟨xa, xb, xe, xl, rfl, hx⟩ := RExp_iff.1 hcc
    have hwv' := hwv
    obtain ⟨pv, cv, rfl, _, _, _⟩ := hwv
    have hx' := hx
    obtain ⟨_, _, _, _, _, _, _, _, rfl, rfl, rfl, rfl⟩ := hx.slices
    simp only [push_cast, ↓reduceIte, Nat.reduceEqDiff, Nat.reduceAdd, Nat.reduceMul, Nat.reduceSub, Nat.reduceLT, Nat.reduceLeDiff, reduceCtorEq, Nat.reduceMod, Int.reduceEq, Int.reduceLT, Int.reduceLE, Int.reduceToNat, dite_true, h', h0, kl]
    refine CallV.own (i := 1) rfl (formF ds bd (exp_all ds _ _ rfl) F3 bc _ _ _ _ _ _ _ _ c3 own hwv' hx' (hown'.mono (PH.le_trans hF1 hF3)) (hd'.mono' hFF3) rfl (by omega)) ?_
    rintro _ F4 _ hF4 rfl
    simp only [push_cast, ↓reduceIte, Nat.reduceEqDiff, Nat.reduceAdd, Nat.reduceMul, Nat.reduceSub, Nat.reduceLT, Nat.reduceLeDiff, reduceCtorEq, Nat.reduceMod, Int.reduceEq, Int.reduceLT, Int.reduceLE, Int.reduceToNat, dite_true, e2]
    exact hG2 (j + 1, formC ds bd own c3, F4) _ ⟨by simp; omega, PH.le_trans hF3 hF4, by rw [ht]⟩ (by simp; omega) (by simp [subk, Eng.look]) (List.Sublist.refl _) rfl rfl
  have h' : ¬ (j : Int) < (bs.length : Int) := by omega
  rw [List.take_of_length_le (by omega)] at hc3
  subst hc3
  simp only [push_cast, ↓reduceIte, Nat.reduceEqDiff, Nat.reduceAdd, Nat.reduceMul, Nat.reduceSub, Nat.reduceLT, Nat.reduceLeDiff, reduceCtorEq, Nat.reduceMod, Int.reduceEq, Int.reduceLT, Int.reduceLE, Int.reduceToNat, dite_true, h']
  refine CallV.pure (has F3 _ own mainB (hown'.mono (PH.le_trans hF1 hF3))) ?_
  rintro _ F4 hF4 rfl
  cases hh : hasB own mainB with
  | true =>
    simp only [push_cast, ↓reduceIte, Nat.reduceEqDiff, Nat.reduceAdd, Nat.reduceMul, Nat.reduceSub, Nat.reduceLT, Nat.reduceLeDiff, reduceCtorEq, Nat.reduceMod, Int.reduceEq, Int.reduceLT, Int.reduceLE, Int.reduceToNat, dite_true]
    refine VC.draw (.q 0 (.q 1 (.q 2 (.q 3 (.q 4 (.q 5 (.q 6 (.q 7 (.q 8 (.q 9 (.done))))))))))) mixed (by rfl) ?_
    simp only [push_cast, ↓reduceIte, Nat.reduceEqDiff, Nat.reduceAdd, Nat.reduceMul, Nat.reduceSub, Nat.reduceLT, Nat.reduceLeDiff, reduceCtorEq, Nat.reduceMod, Int.reduceEq, Int.reduceLT, Int.reduceLE, Int.reduceToNat, dite_true]
    refine VC.go 100 ?_
    simp only [push_cast, ↓reduceIte, Nat.reduceEqDiff, Nat.reduceAdd, Nat.reduceMul, Nat.reduceSub, Nat.reduceLT, Nat.reduceLeDiff, reduceCtorEq, Nat.reduceMod, Int.reduceEq, Int.reduceLT, Int.reduceLE, Int.reduceToNat, dite_true]
    refine RetOk.p rfl ?_
    rw [← hr, whenC, hh, if_neg (by simp)]
    rfl
  | false =>
    simp only [push_cast, ↓reduceIte, Nat.reduceEqDiff, Nat.reduceAdd, Nat.reduceMul, Nat.reduceSub, Nat.reduceLT, Nat.reduceLeDiff, reduceCtorEq, Nat.reduceMod, Int.reduceEq, Int.reduceLT, Int.reduceLE, Int.reduceToNat, dite_true]
    refine CallV.own (i := 1) rfl (fail F4 bc _ _ (bindsC ds bs own (dupC [] bs c0)) 0 36) ?_
    rintro _ F5 _ hF5 rfl
    simp only [push_cast, ↓reduceIte, Nat.reduceEqDiff, Nat.reduceAdd, Nat.reduceMul, Nat.reduceSub, Nat.reduceLT, Nat.reduceLeDiff, reduceCtorEq, Nat.reduceMod, Int.reduceEq, Int.reduceLT, Int.reduceLE, Int.reduceToNat, dite_true]
    refine VC.draw (.q 0 (.q 1 (.q 2 (.q 3 (.q 4 (.q 5 (.q 6 (.q 7 (.q 8 (.q 9 (.done))))))))))) mixed (by rfl) ?_
    simp only [push_cast, ↓reduceIte, Nat.reduceEqDiff, Nat.reduceAdd, Nat.reduceMul, Nat.reduceSub, Nat.reduceLT, Nat.reduceLeDiff, reduceCtorEq, Nat.reduceMod, Int.reduceEq, Int.reduceLT, Int.reduceLE, Int.reduceToNat, dite_true]
    refine VC.go 100 ?_
    simp only [push_cast, ↓reduceIte, Nat.reduceEqDiff, Nat.reduceAdd, Nat.reduceMul, Nat.reduceSub, Nat.reduceLT, Nat.reduceLeDiff, reduceCtorEq, Nat.reduceMod, Int.reduceEq, Int.reduceLT, Int.reduceLE, Int.reduceToNat, dite_true]
    refine RetOk.p rfl ?_
    rw [← hr, whenC, hh, if_pos rfl]
    rfl
end Go.Proofs.YtjeidgjhkjnkeaaDoor.K
