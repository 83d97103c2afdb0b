/- My texts K4 K5 K6 K7 K8, in one. -/
import Derived.Test.YtoepmdbicdoieaaDoorKA
/- The document's checker: its walk over lets. (Written by gen/k4.py.) -/
namespace Go.Proofs.YtoepmdbicdoieaaDoor.K
open Go Go.Eng Go.Proofs Go.Proofs.YtoepmdbicdoieaaDoor.T
set_option linter.unusedSimpArgs false
set_option linter.unusedVariables false
set_option maxRecDepth 100000
set_option maxHeartbeats 4000000
def letC (ds : List Dat) (e : Exp) (inn : List ByteArray) (c : Ck) : Ck := if e.binds.length = 0 ∨ e.kids.length = 0 then failC c e.at_ 2 else kidC ds e.kids (inn ++ e.binds.map Bind.name) (bindsC ds e.binds (inn ++ e.binds.map Bind.name) (dupC [] e.binds c))
theorem letF (ds : List Dat) (e : Exp) (ih : ∀ e' : Exp, e'.size < e.size → ExpK ds e') (F : PH) (b : Nat) (vd vb vin va w1 we wl : Value) (c : Ck) (inn : List ByteArray) (hX : ExpAt F e va w1 we wl) (hi : Strs F vin inn) (hd : Dats F vd ds) (hb : vb.oneCell' = true) (hs : inn.length + e.size ≤ 100000000) :
    ChkFn 119 [.agg (expCells e va w1 we wl).toArray, vin] F b vd vb c (letC ds e inn c) := by
  have hX' := hX
  have hsz := size_eq e
  have hbn := sizeBs_count e.binds
  have hbinds := hX.binds
  have hkids := hX.kids
  obtain ⟨pa, ca, pb, cb, pe, ce, pl, cl, rfl, rfl, rfl, rfl⟩ := hX.slices
  obtain ⟨_, _, eb, hb1, hb2⟩ := hbinds.val
  cases eb
  have hd' := hd
  obtain ⟨pd, cd, rfl, _, _⟩ := hd.val
  generalize hr : letC ds e inn c = r
  unfold letC at hr
  refine OFn.intro (n := 86) (ts := []) Tryd.func119 rfl rfl rfl rfl (by simp) fun B hB => VC.go 100 ?_
  by_cases g1 : e.binds.length = 0
  · have g1' : (e.binds.length : Int) = 0 := by omega
    simp only [push_cast, ↓reduceIte, Nat.reduceEqDiff, Nat.reduceAdd, Nat.reduceMul, Nat.reduceSub, Nat.reduceLT, Nat.reduceLeDiff, reduceCtorEq, Nat.reduceMod, Int.reduceEq, Int.reduceLT, Int.reduceLE, Int.reduceToNat, dite_true, eq_true g1', hb]
    intro bx
    refine CallV.own (i := 0) rfl (fail F b _ vb _ e.at_ 2) ?_
    rintro _ F2 _ hF2 rfl
    simp only [push_cast, ↓reduceIte, Nat.reduceEqDiff, Nat.reduceAdd, Nat.reduceMul, Nat.reduceSub, Nat.reduceLT, Nat.reduceLeDiff, reduceCtorEq, Nat.reduceMod, Int.reduceEq, Int.reduceLT, Int.reduceLE, Int.reduceToNat, dite_true]
    rw [if_pos (.inl g1)] at hr
    subst hr
    exact chk_ret rfl
  have g1' : ¬ (e.binds.length : Int) = 0 := by omega
  by_cases g2 : e.kids.length = 0
  · have g2' : (e.kids.length : Int) = 0 := by omega
    simp only [push_cast, ↓reduceIte, Nat.reduceEqDiff, Nat.reduceAdd, Nat.reduceMul, Nat.reduceSub, Nat.reduceLT, Nat.reduceLeDiff, reduceCtorEq, Nat.reduceMod, Int.reduceEq, Int.reduceLT, Int.reduceLE, Int.reduceToNat, dite_true, g1', eq_true g2', hb]
    intro bx
    refine CallV.own (i := 0) rfl (fail F b _ vb _ e.at_ 2) ?_
    rintro _ F2 _ hF2 rfl
    simp only [push_cast, ↓reduceIte, Nat.reduceEqDiff, Nat.reduceAdd, Nat.reduceMul, Nat.reduceSub, Nat.reduceLT, Nat.reduceLeDiff, reduceCtorEq, Nat.reduceMod, Int.reduceEq, Int.reduceLT, Int.reduceLE, Int.reduceToNat, dite_true]
    rw [if_pos (.inr g2)] at hr
    subst hr
    exact chk_ret rfl
  have g2' : ¬ (e.kids.length : Int) = 0 := by omega
  rw [if_neg (by omega)] at hr
  simp only [push_cast, ↓reduceIte, Nat.reduceEqDiff, Nat.reduceAdd, Nat.reduceMul, Nat.reduceSub, Nat.reduceLT, Nat.reduceLeDiff, reduceCtorEq, Nat.reduceMod, Int.reduceEq, Int.reduceLT, Int.reduceLE, Int.reduceToNat, dite_true, g1', g2', hb]
  intro bx
  refine CallV.sl (namesF F _ e.binds hbinds (by omega)) ?_
  intro v0 F0 m0 hF0 hm0 hv0
  have hown := sl_strs hm0 hv0
  clear hm0 hv0
  obtain ⟨own, ho⟩ : ∃ own, own = e.binds.map Bind.name := ⟨_, rfl⟩
  rw [← ho] at hown hr
  have hol : own.length = e.binds.length := by rw [ho]; simp
  have hown' := hown
  obtain ⟨pn, cn, rfl, hn1, hn2, hn3⟩ := hown
  simp only [push_cast, ↓reduceIte, Nat.reduceEqDiff, Nat.reduceAdd, Nat.reduceMul, Nat.reduceSub, Nat.reduceLT, Nat.reduceLeDiff, reduceCtorEq, Nat.reduceMod, Int.reduceEq, Int.reduceLT, Int.reduceLE, Int.reduceToNat, dite_true]
  refine VC.loopM (ι := Nat × Ck × PH) (fun i => [(7, .v (.int .i64 i.1)), (6, .v (.slice pn own.length cn)), (4, .o 1 bx 0), (2, .v vin), (0, .o 0 b 0)]) (fun i => [⟨0, b, 126, ckCells (.slice pd ds.length cd) vb i.2.1⟩, ⟨1, bx, 49, expCells e (.slice pa e.atoms.length ca) (.slice pb e.binds.length cb) (.slice pe e.kids.length ce) (.slice pl e.alts.length cl)⟩]) (fun i => i.2.2) (fun i => i.1 ≤ own.length ∧ F0.le i.2.2 ∧ i.2.1 = dupC [] (e.binds.take i.1) c) (fun i => own.length - i.1) (0, c, F0) ⟨Nat.zero_le _, PH.le_refl _, rfl⟩ (by simp [subk, Eng.look]) (List.Sublist.refl _) rfl ?_
  rintro ⟨k, c1, F1⟩ ⟨hk, hF1, hc⟩ G hG
  dsimp only at hk hF1 hc hG ⊢
  refine VC.go 100 ?_
  by_cases h : k < own.length
  case pos =>
    have h' : (k : Int) < (own.length : Int) := by omega
    have h0 : (0 : Int) ≤ (k : Int) := by omega
    have h2 : (k : Int) < (own.length : Int) := by omega
    have h3 : (k : Int) ≤ (cn : Int) := by omega
    have h4 : ¬ cn = 0 := by omega
    have h5 : k < e.binds.length := by omega
    have h6 : (k : Int) < (e.binds.length : Int) := by omega
    obtain ⟨qa, rfl, hqa⟩ := (hn3.mono hF1).elem1 (i := k) (v := .string own[k]) (by simp [h])
    have hFF1 := PH.le_trans hF0 hF1
    obtain ⟨q, _, cs, eq, _, _, kl, kr⟩ := (hbinds.mono (R' := RBind F1) hFF1 (fun _ _ _ h => h.mono hFF1)).elem (by decide) (i := k) (a := e.binds[k]) (List.getElem?_eq_getElem h5) (fun _ _ h => h.len)
    cases eq
    obtain ⟨wv, cc, rfl, _, _⟩ := RBind_iff.1 kr
    have kc := cell_at kl (o := 1) rfl
    have e2 : IntKind.i64.wrap ((k : Int) + 1) = ((k + 1 : Nat) : Int) := wadd k h (Nat.le_trans hn1 hn2)
    have hnk : (e.binds[k]).name = own[k] := by subst ho; simp
    have hpk : [] ++ (e.binds.take k).map Bind.name = own.take k := by subst ho; simp [List.map_take]
    have ht : dupC [] (e.binds.take (k + 1)) c = stepD ([] ++ (e.binds.take k).map Bind.name) e.binds[k] c1 := by rw [List.take_succ_eq_append_getElem h5, dupC_snoc, hc]
    by_cases g : own[k] = ⟨#[]⟩
    · simp only [push_cast, ↓reduceIte, Nat.reduceEqDiff, Nat.reduceAdd, Nat.reduceMul, Nat.reduceSub, Nat.reduceLT, Nat.reduceLeDiff, reduceCtorEq, Nat.reduceMod, Int.reduceEq, Int.reduceLT, Int.reduceLE, Int.reduceToNat, dite_true, h', h0, hqa, eq_true g, h6, kc, hb]
      refine CallV.own (i := 0) rfl (fail F1 b _ vb c1 (e.binds[k]).at_ 31) ?_
      rintro _ Fx _ hFx rfl
      simp only [push_cast, ↓reduceIte, Nat.reduceEqDiff, Nat.reduceAdd, Nat.reduceMul, Nat.reduceSub, Nat.reduceLT, Nat.reduceLeDiff, reduceCtorEq, Nat.reduceMod, Int.reduceEq, Int.reduceLT, Int.reduceLE, Int.reduceToNat, dite_true, hb]
      refine VC.draw (.q 0 (.q 1 (.q 2 (.q 3 (.q 4 (.q 5 (.q 6 (.e 7 (.done))))))))) mixed (by rfl) ?_
      simp only [push_cast, ↓reduceIte, Nat.reduceEqDiff, Nat.reduceAdd, Nat.reduceMul, Nat.reduceSub, Nat.reduceLT, Nat.reduceLeDiff, reduceCtorEq, Nat.reduceMod, Int.reduceEq, Int.reduceLT, Int.reduceLE, Int.reduceToNat, dite_true, h0, h2, h3, h4, (hFx).cell hqa, Nat.zero_mul, Nat.sub_zero, Option.map_some, add_zero']
      refine CallV.pure (has Fx _ (own.take k) own[k] (strs_take (hown'.mono (PH.le_trans hF1 (hFx))) (by omega))) ?_
      rintro _ Fy hFy rfl
      cases hh : hasB (own.take k) own[k] with
      | true =>
        simp only [push_cast, ↓reduceIte, Nat.reduceEqDiff, Nat.reduceAdd, Nat.reduceMul, Nat.reduceSub, Nat.reduceLT, Nat.reduceLeDiff, reduceCtorEq, Nat.reduceMod, Int.reduceEq, Int.reduceLT, Int.reduceLE, Int.reduceToNat, dite_true]
        refine VC.go 100 ?_
        simp only [push_cast, ↓reduceIte, Nat.reduceEqDiff, Nat.reduceAdd, Nat.reduceMul, Nat.reduceSub, Nat.reduceLT, Nat.reduceLeDiff, reduceCtorEq, Nat.reduceMod, Int.reduceEq, Int.reduceLT, Int.reduceLE, Int.reduceToNat, dite_true, h0, h6, (PH.le_trans (hFx) hFy).cell kc]
        refine CallV.own (i := 0) rfl (fail Fy b _ vb _ (e.binds[k]).at_ 30) ?_
        rintro _ Fz _ hFz rfl
        simp only [push_cast, ↓reduceIte, Nat.reduceEqDiff, Nat.reduceAdd, Nat.reduceMul, Nat.reduceSub, Nat.reduceLT, Nat.reduceLeDiff, reduceCtorEq, Nat.reduceMod, Int.reduceEq, Int.reduceLT, Int.reduceLE, Int.reduceToNat, dite_true, e2]
        exact hG (k + 1, failC (failC c1 (e.binds[k]).at_ 31) (e.binds[k]).at_ 30, Fz) _ ⟨by simp; omega, PH.le_trans hF1 (PH.le_trans (hFx) (PH.le_trans hFy hFz)), by rw [ht]; simp only [stepD, whenC, hnk, hpk]; rw [hh, if_pos rfl, if_pos g]⟩ (by simp; omega) (by simp [subk, Eng.look]) (List.Sublist.refl _) rfl rfl
      | false =>
        simp only [push_cast, ↓reduceIte, Nat.reduceEqDiff, Nat.reduceAdd, Nat.reduceMul, Nat.reduceSub, Nat.reduceLT, Nat.reduceLeDiff, reduceCtorEq, Nat.reduceMod, Int.reduceEq, Int.reduceLT, Int.reduceLE, Int.reduceToNat, dite_true]
        refine VC.go 100 ?_
        simp only [push_cast, ↓reduceIte, Nat.reduceEqDiff, Nat.reduceAdd, Nat.reduceMul, Nat.reduceSub, Nat.reduceLT, Nat.reduceLeDiff, reduceCtorEq, Nat.reduceMod, Int.reduceEq, Int.reduceLT, Int.reduceLE, Int.reduceToNat, dite_true, e2]
        exact hG (k + 1, failC c1 (e.binds[k]).at_ 31, Fy) _ ⟨by simp; omega, PH.le_trans hF1 (PH.le_trans (hFx) hFy), by rw [ht]; simp only [stepD, whenC, hnk, hpk]; rw [hh, if_neg Bool.false_ne_true, if_pos g]⟩ (by simp; omega) (by simp [subk, Eng.look]) (List.Sublist.refl _) rfl rfl
    · simp only [push_cast, ↓reduceIte, Nat.reduceEqDiff, Nat.reduceAdd, Nat.reduceMul, Nat.reduceSub, Nat.reduceLT, Nat.reduceLeDiff, reduceCtorEq, Nat.reduceMod, Int.reduceEq, Int.reduceLT, Int.reduceLE, Int.reduceToNat, dite_true, h', h0, hqa, g, h6, hb]
      refine VC.draw (.q 0 (.q 1 (.q 2 (.q 3 (.q 4 (.q 5 (.q 6 (.e 7 (.done))))))))) mixed (by rfl) ?_
      simp only [push_cast, ↓reduceIte, Nat.reduceEqDiff, Nat.reduceAdd, Nat.reduceMul, Nat.reduceSub, Nat.reduceLT, Nat.reduceLeDiff, reduceCtorEq, Nat.reduceMod, Int.reduceEq, Int.reduceLT, Int.reduceLE, Int.reduceToNat, dite_true, h0, h2, h3, h4, (PH.le_refl F1).cell hqa, Nat.zero_mul, Nat.sub_zero, Option.map_some, add_zero']
      refine CallV.pure (has F1 _ (own.take k) own[k] (strs_take (hown'.mono (PH.le_trans hF1 (PH.le_refl F1))) (by omega))) ?_
      rintro _ Fy hFy rfl
      cases hh : hasB (own.take k) own[k] with
      | true =>
        simp only [push_cast, ↓reduceIte, Nat.reduceEqDiff, Nat.reduceAdd, Nat.reduceMul, Nat.reduceSub, Nat.reduceLT, Nat.reduceLeDiff, reduceCtorEq, Nat.reduceMod, Int.reduceEq, Int.reduceLT, Int.reduceLE, Int.reduceToNat, dite_true]
        refine VC.go 100 ?_
        simp only [push_cast, ↓reduceIte, Nat.reduceEqDiff, Nat.reduceAdd, Nat.reduceMul, Nat.reduceSub, Nat.reduceLT, Nat.reduceLeDiff, reduceCtorEq, Nat.reduceMod, Int.reduceEq, Int.reduceLT, Int.reduceLE, Int.reduceToNat, dite_true, h0, h6, (PH.le_trans (PH.le_refl F1) hFy).cell kc]
        refine CallV.own (i := 0) rfl (fail Fy b _ vb _ (e.binds[k]).at_ 30) ?_
        rintro _ Fz _ hFz rfl
        simp only [push_cast, ↓reduceIte, Nat.reduceEqDiff, Nat.reduceAdd, Nat.reduceMul, Nat.reduceSub, Nat.reduceLT, Nat.reduceLeDiff, reduceCtorEq, Nat.reduceMod, Int.reduceEq, Int.reduceLT, Int.reduceLE, Int.reduceToNat, dite_true, e2]
        exact hG (k + 1, failC (c1) (e.binds[k]).at_ 30, Fz) _ ⟨by simp; omega, PH.le_trans hF1 (PH.le_trans (PH.le_refl F1) (PH.le_trans hFy hFz)), by rw [ht]; simp only [stepD, whenC, hnk, hpk]; rw [hh, if_pos rfl, if_neg g]⟩ (by simp; omega) (by simp [subk, Eng.look]) (List.Sublist.refl _) rfl rfl
      | false =>
        simp only [push_cast, ↓reduceIte, Nat.reduceEqDiff, Nat.reduceAdd, Nat.reduceMul, Nat.reduceSub, Nat.reduceLT, Nat.reduceLeDiff, reduceCtorEq, Nat.reduceMod, Int.reduceEq, Int.reduceLT, Int.reduceLE, Int.reduceToNat, dite_true]
        refine VC.go 100 ?_
        simp only [push_cast, ↓reduceIte, Nat.reduceEqDiff, Nat.reduceAdd, Nat.reduceMul, Nat.reduceSub, Nat.reduceLT, Nat.reduceLeDiff, reduceCtorEq, Nat.reduceMod, Int.reduceEq, Int.reduceLT, Int.reduceLE, Int.reduceToNat, dite_true, e2]
        exact hG (k + 1, c1, Fy) _ ⟨by simp; omega, PH.le_trans hF1 (PH.le_trans (PH.le_refl F1) hFy), by rw [ht]; simp only [stepD, whenC, hnk, hpk]; rw [hh, if_neg Bool.false_ne_true, if_neg g]⟩ (by simp; omega) (by simp [subk, Eng.look]) (List.Sublist.refl _) rfl rfl
  have h' : ¬ (k : Int) < (own.length : Int) := by omega
  rw [List.take_of_length_le (by omega)] at hc
  subst hc
  have hFF1 := PH.le_trans hF0 hF1
  simp only [push_cast, ↓reduceIte, Nat.reduceEqDiff, Nat.reduceAdd, Nat.reduceMul, Nat.reduceSub, Nat.reduceLT, Nat.reduceLeDiff, reduceCtorEq, Nat.reduceMod, Int.reduceEq, Int.reduceLT, Int.reduceLE, Int.reduceToNat, dite_true, h', hb]
  refine CallV.sl (withs F1 _ _ inn own (hi.mono hFF1) (hown'.mono hF1) (by omega)) ?_
  intro v2 F2 m2 hF2 hm2 hv2
  have hin := sl_strs hm2 hv2
  have hil : (inn ++ own).length = inn.length + e.binds.length := by simp [hol]
  simp only [push_cast, ↓reduceIte, Nat.reduceEqDiff, Nat.reduceAdd, Nat.reduceMul, Nat.reduceSub, Nat.reduceLT, Nat.reduceLeDiff, reduceCtorEq, Nat.reduceMod, Int.reduceEq, Int.reduceLT, Int.reduceLE, Int.reduceToNat, dite_true]
  refine VC.loopM (ι := Nat × Ck × PH) (fun i => [(8, .v (.int .i64 i.1)), (4, .o 1 bx 0), (2, .v v2), (0, .o 0 b 0)]) (fun i => [⟨0, b, 126, ckCells (.slice pd ds.length cd) vb i.2.1⟩, ⟨1, bx, 49, expCells e (.slice pa e.atoms.length ca) (.slice pb e.binds.length cb) (.slice pe e.kids.length ce) (.slice pl e.alts.length cl)⟩]) (fun i => i.2.2) (fun i => i.1 ≤ e.binds.length ∧ F2.le i.2.2 ∧ i.2.1 = bindsC ds (e.binds.take i.1) (inn ++ own) (dupC [] e.binds c)) (fun i => e.binds.length - i.1) (0, _, F2) ⟨Nat.zero_le _, PH.le_refl _, by simp [bindsC]⟩ (by simp [subk, Eng.look]) (List.Sublist.refl _) rfl ?_
  rintro ⟨j, c3, F3⟩ ⟨hj, hF3, hc3⟩ G2 hG2
  dsimp only at hj hF3 hc3 hG2 ⊢
  refine VC.go 100 ?_
  have hFF3 := PH.le_trans hFF1 (PH.le_trans hF2 hF3)
  by_cases h : j < e.binds.length
  case pos =>
    have h' : (j : Int) < (e.binds.length : Int) := by omega
    have h0 : (0 : Int) ≤ (j : Int) := by omega
    obtain ⟨q, _, cs, eq, _, _, kl, kr⟩ := (hbinds.mono (R' := RBind F3) hFF3 (fun _ _ _ h => h.mono hFF3)).elem (by decide) (i := j) (a := e.binds[j]) (List.getElem?_eq_getElem h) (fun _ _ h => h.len)
    cases eq
    have hmem : e.binds[j] ∈ e.binds := List.getElem_mem h
    have hsm := sizeBs_mem2 e.binds j h
    have hse := bsize_eq e.binds[j]
    have ht : bindsC ds (e.binds.take (j + 1)) (inn ++ own) (dupC [] e.binds c) = formC ds e.binds[j] (inn ++ own) c3 := by rw [List.take_succ_eq_append_getElem h, bindsC_snoc, hc3]
    have e2 : IntKind.i64.wrap ((j : Int) + 1) = ((j + 1 : Nat) : Int) := wadd j h (Nat.le_trans hb1 hb2)
    generalize hbk : e.binds[j] = bd at *
    obtain ⟨wv, cc, rfl, hwv, hcc⟩ := RBind_iff.1 kr
    obtain ⟨xa, xb, xe, xl, rfl, hx⟩ := RExp_iff.1 hcc
    have hwv' := hwv
    obtain ⟨pv, cv, rfl, _, _, _⟩ := hwv
    have hx' := hx
    obtain ⟨_, _, _, _, _, _, _, _, rfl, rfl, rfl, rfl⟩ := hx.slices
    simp only [push_cast, ↓reduceIte, Nat.reduceEqDiff, Nat.reduceAdd, Nat.reduceMul, Nat.reduceSub, Nat.reduceLT, Nat.reduceLeDiff, reduceCtorEq, Nat.reduceMod, Int.reduceEq, Int.reduceLT, Int.reduceLE, Int.reduceToNat, dite_true, h', h0, kl, hb]
    refine CallV.own (i := 0) rfl (formF ds bd (ih bd.body (by omega)) F3 b _ vb _ _ _ _ _ _ c3 (inn ++ own) hwv' hx' (hin.mono hF3) (hd'.mono' hFF3) hb (by rw [hil]; omega)) ?_
    rintro _ F4 _ hF4 rfl
    simp only [push_cast, ↓reduceIte, Nat.reduceEqDiff, Nat.reduceAdd, Nat.reduceMul, Nat.reduceSub, Nat.reduceLT, Nat.reduceLeDiff, reduceCtorEq, Nat.reduceMod, Int.reduceEq, Int.reduceLT, Int.reduceLE, Int.reduceToNat, dite_true, e2]
    exact hG2 (j + 1, _, F4) _ ⟨by simp; omega, PH.le_trans hF3 hF4, by rw [ht]⟩ (by simp; omega) (by simp [subk, Eng.look]) (List.Sublist.refl _) rfl rfl
  have h' : ¬ (j : Int) < (e.binds.length : Int) := by omega
  rw [List.take_of_length_le (by omega)] at hc3
  subst hc3
  obtain ⟨kd, ks, hks⟩ : ∃ kd ks, e.kids = kd :: ks := by
    cases hk : e.kids with
    | nil => rw [hk] at g2; simp at g2
    | cons a l => exact ⟨a, l, rfl⟩
  obtain ⟨q, _, cs, eq, _, _, kl, kr⟩ := (hkids.mono (R' := RExp F3) hFF3 (fun _ _ _ h => h.mono hFF3)).elem (by decide) (i := 0) (a := kd) (by rw [hks]; rfl) (fun _ _ h => h.len)
  cases eq
  obtain ⟨xa, xb, xe, xl, rfl, hx⟩ := RExp_iff.1 kr
  have hx' := hx
  obtain ⟨_, _, _, _, _, _, _, _, rfl, rfl, rfl, rfl⟩ := hx.slices
  rw [Nat.zero_mul] at kl
  have g3 : (0 : Int) < (e.kids.length : Int) := by omega
  have hsm := sizeEs_mem (e := kd) (l := e.kids) (by rw [hks]; exact List.mem_cons_self)
  simp only [push_cast, ↓reduceIte, Nat.reduceEqDiff, Nat.reduceAdd, Nat.reduceMul, Nat.reduceSub, Nat.reduceLT, Nat.reduceLeDiff, reduceCtorEq, Nat.reduceMod, Int.reduceEq, Int.reduceLT, Int.reduceLE, Int.reduceToNat, dite_true, h', g3, Nat.zero_mul, kl, hb]
  refine CallV.own (i := 0) rfl (ih kd (by omega) F3 b _ vb _ _ _ _ _ _ (inn ++ own) hx' (hin.mono hF3) (hd'.mono' hFF3) hb (by rw [hil]; omega)) ?_
  rintro _ F4 _ hF4 rfl
  simp only [push_cast, ↓reduceIte, Nat.reduceEqDiff, Nat.reduceAdd, Nat.reduceMul, Nat.reduceSub, Nat.reduceLT, Nat.reduceLeDiff, reduceCtorEq, Nat.reduceMod, Int.reduceEq, Int.reduceLT, Int.reduceLE, Int.reduceToNat, dite_true]
  rw [hks] at hr
  simp only [kidC] at hr
  subst hr
  exact chk_ret rfl
end Go.Proofs.YtoepmdbicdoieaaDoor.K

/- The document's checker: its walk over alternatives. -/
namespace Go.Proofs.YtoepmdbicdoieaaDoor.K
open Go Go.Eng Go.Proofs Go.Proofs.YtoepmdbicdoieaaDoor.T
set_option linter.unusedSimpArgs false
set_option linter.unusedVariables false
set_option maxRecDepth 100000
set_option maxHeartbeats 4000000
theorem altF (ds : List Dat) (a : Alt) (hE : ExpK ds a.body) (again : Bool) (F : PH) (b : Nat) (vd vb vin v va w1 we wl : Value) (c : Ck) (inn : List ByteArray) (hv : Strs F v a.vars) (hX : ExpAt F a.body va w1 we wl) (hi : Strs F vin inn) (hd : Dats F vd ds) (hb : vb.oneCell' = true) (hs : inn.length + a.size ≤ 100000000) :
    ChkFn 131 [.agg (.int .i64 a.kind :: .int .i64 a.at_ :: .string a.name :: .int .i64 a.n :: v :: expCells a.body va w1 we wl).toArray, .bool again, vin] F b vd vb c (altC ds a again inn c) := by
  have hX' := hX
  obtain ⟨pa, ca, pb, cb, pe, ce, pl, cl, rfl, rfl, rfl, rfl⟩ := hX.slices
  have hd' := hd
  obtain ⟨pd, cd, rfl, _, _⟩ := hd.val
  have hv' := hv
  obtain ⟨pv, cv, rfl, hv1, hv2, hv3⟩ := hv
  have hbs := asize_eq a
  have hal := sizeS_len a.vars
  generalize hr : altC ds a again inn c = r
  rw [altC_eq] at hr
  refine OFn.intro (n := 87) (ts := []) Tryd.func131 rfl rfl rfl rfl (by simp) fun B hB => ?_
  refine VC.go 5 ?_
  simp only [push_cast, ↓reduceIte, Nat.reduceEqDiff, Nat.reduceAdd, Nat.reduceMul, Nat.reduceSub, Nat.reduceLT, Nat.reduceLeDiff, reduceCtorEq, Nat.reduceMod, Int.reduceEq, Int.reduceLT, Int.reduceLE, Int.reduceToNat, dite_true, hb]
  intro bx
  refine VC.cutM (ι := Value × Ck × PH) (fun i => [(5, .o 1 bx 0), (2, .v (.bool again)), (3, .v i.1), (0, .o 0 b 0)]) (fun i => [⟨0, b, 126, ckCells (.slice pd ds.length cd) vb i.2.1⟩, ⟨1, bx, 148, .int .i64 a.kind :: .int .i64 a.at_ :: .string a.name :: .int .i64 a.n :: .slice pv a.vars.length cv :: expCells a.body (.slice pa a.body.atoms.length ca) (.slice pb a.body.binds.length cb) (.slice pe a.body.kids.length ce) (.slice pl a.body.alts.length cl)⟩]) (fun i => i.2.2) (fun i => F.le i.2.2 ∧ i.2.1 = headC ds a.kind a.at_ a.name a.vars c ∧ Strs i.2.2 i.1 (altIn a.kind a.name a.vars inn)) ?_ ?_
  · intro G hG
    refine VC.go 100 ?_
    by_cases g1 : a.kind = 1
    · have hd1 : altIn a.kind a.name a.vars inn = inn ++ a.vars := if_pos g1
      have fin : ∀ (c2 : Ck) (F2 : PH) (S' : St) (v3 : Value), F.le F2 → c2 = headC ds a.kind a.at_ a.name a.vars c → Strs F2 v3 (inn ++ a.vars) → subk S'.L [(5, .o 1 bx 0), (2, .v (.bool again)), (3, .v v3), (0, .o 0 b 0)] →
          ([⟨0, b, 126, ckCells (.slice pd ds.length cd) vb c2⟩, ⟨1, bx, 148, .int .i64 a.kind :: .int .i64 a.at_ :: .string a.name :: .int .i64 a.n :: .slice pv a.vars.length cv :: expCells a.body (.slice pa a.body.atoms.length ca) (.slice pb a.body.binds.length cb) (.slice pe a.body.kids.length ce) (.slice pl a.body.alts.length cl)⟩] : List Own).Sublist S'.M → S'.F = F2 → S'.R = [] → G S' :=
        fun c2 F2 S' v3 h1 h2 h3 h4 h5 h6 h7 => hG (v3, c2, F2) S' ⟨h1, h2, by rw [hd1]; exact h3⟩ h4 h5 h6 h7
      simp only [push_cast, ↓reduceIte, Nat.reduceEqDiff, Nat.reduceAdd, Nat.reduceMul, Nat.reduceSub, Nat.reduceLT, Nat.reduceLeDiff, reduceCtorEq, Nat.reduceMod, Int.reduceEq, Int.reduceLT, Int.reduceLE, Int.reduceToNat, dite_true, eq_true g1, hb]
      refine VC.draw (.q 0 (.q 1 (.q 2 (.q 3 (.q 4 (.q 5 (.e 6 (.q 7 (.q 8 (.q 9 (.q 10 (.q 11 (.done))))))))))))) mixed (by rfl) ?_
      simp only [push_cast, ↓reduceIte, Nat.reduceEqDiff, Nat.reduceAdd, Nat.reduceMul, Nat.reduceSub, Nat.reduceLT, Nat.reduceLeDiff, reduceCtorEq, Nat.reduceMod, Int.reduceEq, Int.reduceLT, Int.reduceLE, Int.reduceToNat, dite_true, hb]
      refine CallV.pure (arity F _ vb ds a.name hd' hb) ?_
      rintro _ F2 hF2 rfl
      simp only [push_cast, ↓reduceIte, Nat.reduceEqDiff, Nat.reduceAdd, Nat.reduceMul, Nat.reduceSub, Nat.reduceLT, Nat.reduceLeDiff, reduceCtorEq, Nat.reduceMod, Int.reduceEq, Int.reduceLT, Int.reduceLE, Int.reduceToNat, dite_true]
      refine VC.go 100 ?_
      cases ha : arityD ds a.name with
      | none =>
        simp only [push_cast, ↓reduceIte, Nat.reduceEqDiff, Nat.reduceAdd, Nat.reduceMul, Nat.reduceSub, Nat.reduceLT, Nat.reduceLeDiff, reduceCtorEq, Nat.reduceMod, Int.reduceEq, Int.reduceLT, Int.reduceLE, Int.reduceToNat, dite_true, Option.isSome_none, hb]
        refine CallV.own (i := 0) rfl (fail F2 b _ vb c a.at_ 32) ?_
        rintro _ F3 _ hF3 rfl
        simp only [push_cast, ↓reduceIte, Nat.reduceEqDiff, Nat.reduceAdd, Nat.reduceMul, Nat.reduceSub, Nat.reduceLT, Nat.reduceLeDiff, reduceCtorEq, Nat.reduceMod, Int.reduceEq, Int.reduceLT, Int.reduceLE, Int.reduceToNat, dite_true, hb]
        refine CallV.sl (withs F3 _ _ inn a.vars (hi.mono (PH.le_trans hF2 hF3)) (hv'.mono (PH.le_trans hF2 hF3)) (by omega)) ?_
        intro v3 F4 m hF4 hm hv3
        simp only [push_cast, ↓reduceIte, Nat.reduceEqDiff, Nat.reduceAdd, Nat.reduceMul, Nat.reduceSub, Nat.reduceLT, Nat.reduceLeDiff, reduceCtorEq, Nat.reduceMod, Int.reduceEq, Int.reduceLT, Int.reduceLE, Int.reduceToNat, dite_true]
        exact fin (failC c a.at_ 32) F4 _ v3 (PH.le_trans hF2 (PH.le_trans hF3 hF4)) (by simp only [headC, if_pos g1, ha]) (sl_strs hm hv3) (by simp [subk, Eng.look]) (List.Sublist.refl _) rfl rfl
      | some m =>
        by_cases g2 : m = (a.vars.length : Int)
        case neg =>
          simp only [push_cast, ↓reduceIte, Nat.reduceEqDiff, Nat.reduceAdd, Nat.reduceMul, Nat.reduceSub, Nat.reduceLT, Nat.reduceLeDiff, reduceCtorEq, Nat.reduceMod, Int.reduceEq, Int.reduceLT, Int.reduceLE, Int.reduceToNat, dite_true, Option.isSome_some, Option.getD_some, g2, hb]
          refine CallV.own (i := 0) rfl (fail F2 b _ vb c a.at_ 33) ?_
          rintro _ F3 _ hF3 rfl
          simp only [push_cast, ↓reduceIte, Nat.reduceEqDiff, Nat.reduceAdd, Nat.reduceMul, Nat.reduceSub, Nat.reduceLT, Nat.reduceLeDiff, reduceCtorEq, Nat.reduceMod, Int.reduceEq, Int.reduceLT, Int.reduceLE, Int.reduceToNat, dite_true, hb]
          refine CallV.sl (withs F3 _ _ inn a.vars (hi.mono (PH.le_trans hF2 hF3)) (hv'.mono (PH.le_trans hF2 hF3)) (by omega)) ?_
          intro v3 F4 m hF4 hm hv3
          simp only [push_cast, ↓reduceIte, Nat.reduceEqDiff, Nat.reduceAdd, Nat.reduceMul, Nat.reduceSub, Nat.reduceLT, Nat.reduceLeDiff, reduceCtorEq, Nat.reduceMod, Int.reduceEq, Int.reduceLT, Int.reduceLE, Int.reduceToNat, dite_true]
          exact fin (failC c a.at_ 33) F4 _ v3 (PH.le_trans hF2 (PH.le_trans hF3 hF4)) (by simp only [headC, if_pos g1, ha, if_pos g2]) (sl_strs hm hv3) (by simp [subk, Eng.look]) (List.Sublist.refl _) rfl rfl
        simp only [push_cast, ↓reduceIte, Nat.reduceEqDiff, Nat.reduceAdd, Nat.reduceMul, Nat.reduceSub, Nat.reduceLT, Nat.reduceLeDiff, reduceCtorEq, Nat.reduceMod, Int.reduceEq, Int.reduceLT, Int.reduceLE, Int.reduceToNat, dite_true, Option.isSome_some, Option.getD_some, eq_true g2, hb]
        refine CallV.pure (has F2 _ a.vars ⟨#[]⟩ (hv'.mono hF2)) ?_
        rintro _ F5 hF5 rfl
        have hF25 := PH.le_trans hF2 hF5
        cases hh : hasB a.vars ⟨#[]⟩ with
        | true =>
          simp only [push_cast, ↓reduceIte, Nat.reduceEqDiff, Nat.reduceAdd, Nat.reduceMul, Nat.reduceSub, Nat.reduceLT, Nat.reduceLeDiff, reduceCtorEq, Nat.reduceMod, Int.reduceEq, Int.reduceLT, Int.reduceLE, Int.reduceToNat, dite_true, hb]
          refine CallV.own (i := 0) rfl (fail F5 b _ vb c a.at_ 31) ?_
          rintro _ F3 _ hF3 rfl
          simp only [push_cast, ↓reduceIte, Nat.reduceEqDiff, Nat.reduceAdd, Nat.reduceMul, Nat.reduceSub, Nat.reduceLT, Nat.reduceLeDiff, reduceCtorEq, Nat.reduceMod, Int.reduceEq, Int.reduceLT, Int.reduceLE, Int.reduceToNat, dite_true, hb]
          refine CallV.sl (withs F3 _ _ inn a.vars (hi.mono (PH.le_trans hF25 hF3)) (hv'.mono (PH.le_trans hF25 hF3)) (by omega)) ?_
          intro v3 F4 m hF4 hm hv3
          simp only [push_cast, ↓reduceIte, Nat.reduceEqDiff, Nat.reduceAdd, Nat.reduceMul, Nat.reduceSub, Nat.reduceLT, Nat.reduceLeDiff, reduceCtorEq, Nat.reduceMod, Int.reduceEq, Int.reduceLT, Int.reduceLE, Int.reduceToNat, dite_true]
          exact fin (failC c a.at_ 31) F4 _ v3 (PH.le_trans hF25 (PH.le_trans hF3 hF4)) (by simp only [headC, if_pos g1, ha, if_neg (not_not_intro g2), if_pos hh]) (sl_strs hm hv3) (by simp [subk, Eng.look]) (List.Sublist.refl _) rfl rfl
        | false =>
          simp only [push_cast, ↓reduceIte, Nat.reduceEqDiff, Nat.reduceAdd, Nat.reduceMul, Nat.reduceSub, Nat.reduceLT, Nat.reduceLeDiff, reduceCtorEq, Nat.reduceMod, Int.reduceEq, Int.reduceLT, Int.reduceLE, Int.reduceToNat, dite_true, hb]
          refine CallV.pure (twice F5 _ a.vars (hv'.mono hF25)) ?_
          rintro _ F6 hF6 rfl
          have hF26 := PH.le_trans hF25 hF6
          cases ht : twiceB [] a.vars with
          | true =>
            simp only [push_cast, ↓reduceIte, Nat.reduceEqDiff, Nat.reduceAdd, Nat.reduceMul, Nat.reduceSub, Nat.reduceLT, Nat.reduceLeDiff, reduceCtorEq, Nat.reduceMod, Int.reduceEq, Int.reduceLT, Int.reduceLE, Int.reduceToNat, dite_true, hb]
            refine CallV.own (i := 0) rfl (fail F6 b _ vb c a.at_ 30) ?_
            rintro _ F3 _ hF3 rfl
            simp only [push_cast, ↓reduceIte, Nat.reduceEqDiff, Nat.reduceAdd, Nat.reduceMul, Nat.reduceSub, Nat.reduceLT, Nat.reduceLeDiff, reduceCtorEq, Nat.reduceMod, Int.reduceEq, Int.reduceLT, Int.reduceLE, Int.reduceToNat, dite_true, hb]
            refine CallV.sl (withs F3 _ _ inn a.vars (hi.mono (PH.le_trans hF26 hF3)) (hv'.mono (PH.le_trans hF26 hF3)) (by omega)) ?_
            intro v3 F4 m hF4 hm hv3
            simp only [push_cast, ↓reduceIte, Nat.reduceEqDiff, Nat.reduceAdd, Nat.reduceMul, Nat.reduceSub, Nat.reduceLT, Nat.reduceLeDiff, reduceCtorEq, Nat.reduceMod, Int.reduceEq, Int.reduceLT, Int.reduceLE, Int.reduceToNat, dite_true]
            exact fin (failC c a.at_ 30) F4 _ v3 (PH.le_trans hF26 (PH.le_trans hF3 hF4)) (by simp only [headC, if_pos g1, ha, if_neg (not_not_intro g2), hh, Bool.false_eq_true, if_false, ht, if_true]) (sl_strs hm hv3) (by simp [subk, Eng.look]) (List.Sublist.refl _) rfl rfl
          | false =>
            simp only [push_cast, ↓reduceIte, Nat.reduceEqDiff, Nat.reduceAdd, Nat.reduceMul, Nat.reduceSub, Nat.reduceLT, Nat.reduceLeDiff, reduceCtorEq, Nat.reduceMod, Int.reduceEq, Int.reduceLT, Int.reduceLE, Int.reduceToNat, dite_true, hb]
            refine CallV.sl (withs F6 _ _ inn a.vars (hi.mono hF26) (hv'.mono hF26) (by omega)) ?_
            intro v3 F4 m hF4 hm hv3
            simp only [push_cast, ↓reduceIte, Nat.reduceEqDiff, Nat.reduceAdd, Nat.reduceMul, Nat.reduceSub, Nat.reduceLT, Nat.reduceLeDiff, reduceCtorEq, Nat.reduceMod, Int.reduceEq, Int.reduceLT, Int.reduceLE, Int.reduceToNat, dite_true]
            exact fin c F4 _ v3 (PH.le_trans hF26 hF4) (by simp only [headC, if_pos g1, ha, if_neg (not_not_intro g2), hh, Bool.false_eq_true, if_false, ht]) (sl_strs hm hv3) (by simp [subk, Eng.look]) (List.Sublist.refl _) rfl rfl
    by_cases g2 : a.kind = 2
    · simp only [push_cast, ↓reduceIte, Nat.reduceEqDiff, Nat.reduceAdd, Nat.reduceMul, Nat.reduceSub, Nat.reduceLT, Nat.reduceLeDiff, reduceCtorEq, Nat.reduceMod, Int.reduceEq, Int.reduceLT, Int.reduceLE, Int.reduceToNat, dite_true, g1, eq_true g2, hb]
      exact hG (vin, c, F) _ ⟨PH.le_refl _, by simp only [headC, if_neg g1, if_pos g2], by simp only [altIn, if_neg g1, if_neg (show ¬ a.kind = 3 by omega)]; exact hi⟩ (by simp [subk, Eng.look]) (List.Sublist.refl _) rfl rfl
    by_cases g3 : a.kind = 3
    · have hd3 : altIn a.kind a.name a.vars inn = inn ++ [a.name] := by simp only [altIn, if_neg g1, if_pos g3]
      by_cases g4 : a.name = ⟨#[]⟩
      · simp only [push_cast, ↓reduceIte, Nat.reduceEqDiff, Nat.reduceAdd, Nat.reduceMul, Nat.reduceSub, Nat.reduceLT, Nat.reduceLeDiff, reduceCtorEq, Nat.reduceMod, Int.reduceEq, Int.reduceLT, Int.reduceLE, Int.reduceToNat, dite_true, g1, g2, eq_true g3, eq_true g4, hb]
        refine CallV.own (i := 0) rfl (fail F b _ vb c a.at_ 31) ?_
        rintro _ F3 _ hF3 rfl
        simp only [push_cast, ↓reduceIte, Nat.reduceEqDiff, Nat.reduceAdd, Nat.reduceMul, Nat.reduceSub, Nat.reduceLT, Nat.reduceLeDiff, reduceCtorEq, Nat.reduceMod, Int.reduceEq, Int.reduceLT, Int.reduceLE, Int.reduceToNat, dite_true, hb]
        intro b5 F5 hF5 hb5
        refine CallV.sl (withs F5 _ _ inn [a.name] (hi.mono (PH.le_trans hF3 hF5)) (strs_blk (l := [a.name]) hb5 one_max) (by simp; omega)) ?_
        intro v3 F4 m hF4 hm hv3
        simp only [push_cast, ↓reduceIte, Nat.reduceEqDiff, Nat.reduceAdd, Nat.reduceMul, Nat.reduceSub, Nat.reduceLT, Nat.reduceLeDiff, reduceCtorEq, Nat.reduceMod, Int.reduceEq, Int.reduceLT, Int.reduceLE, Int.reduceToNat, dite_true]
        exact hG (v3, failC c a.at_ 31, F4) _ ⟨PH.le_trans hF3 (PH.le_trans hF5 hF4), by simp only [headC, if_neg g1, if_neg g2, if_pos g3, whenC, if_pos g4], by rw [hd3]; exact sl_strs hm hv3⟩ (by simp [subk, Eng.look]) (List.Sublist.refl _) rfl rfl
      · simp only [push_cast, ↓reduceIte, Nat.reduceEqDiff, Nat.reduceAdd, Nat.reduceMul, Nat.reduceSub, Nat.reduceLT, Nat.reduceLeDiff, reduceCtorEq, Nat.reduceMod, Int.reduceEq, Int.reduceLT, Int.reduceLE, Int.reduceToNat, dite_true, g1, g2, eq_true g3, g4, hb]
        intro b5 F5 hF5 hb5
        refine CallV.sl (withs F5 _ _ inn [a.name] (hi.mono hF5) (strs_blk (l := [a.name]) hb5 one_max) (by simp; omega)) ?_
        intro v3 F4 m hF4 hm hv3
        simp only [push_cast, ↓reduceIte, Nat.reduceEqDiff, Nat.reduceAdd, Nat.reduceMul, Nat.reduceSub, Nat.reduceLT, Nat.reduceLeDiff, reduceCtorEq, Nat.reduceMod, Int.reduceEq, Int.reduceLT, Int.reduceLE, Int.reduceToNat, dite_true]
        exact hG (v3, c, F4) _ ⟨PH.le_trans hF5 hF4, by simp only [headC, if_neg g1, if_neg g2, if_pos g3, whenC, if_neg g4], by rw [hd3]; exact sl_strs hm hv3⟩ (by simp [subk, Eng.look]) (List.Sublist.refl _) rfl rfl
    · simp only [push_cast, ↓reduceIte, Nat.reduceEqDiff, Nat.reduceAdd, Nat.reduceMul, Nat.reduceSub, Nat.reduceLT, Nat.reduceLeDiff, reduceCtorEq, Nat.reduceMod, Int.reduceEq, Int.reduceLT, Int.reduceLE, Int.reduceToNat, dite_true, g1, g2, g3, hb]
      refine CallV.own (i := 0) rfl (fail F b _ vb c a.at_ 2) ?_
      rintro _ F3 _ hF3 rfl
      simp only [push_cast, ↓reduceIte, Nat.reduceEqDiff, Nat.reduceAdd, Nat.reduceMul, Nat.reduceSub, Nat.reduceLT, Nat.reduceLeDiff, reduceCtorEq, Nat.reduceMod, Int.reduceEq, Int.reduceLT, Int.reduceLE, Int.reduceToNat, dite_true]
      exact hG (vin, failC c a.at_ 2, F3) _ ⟨hF3, by simp only [headC, if_neg g1, if_neg g2, if_neg g3], by simp only [altIn, if_neg g1, if_neg g3]; exact hi.mono hF3⟩ (by simp [subk, Eng.look]) (List.Sublist.refl _) rfl rfl
  · rintro ⟨v1, c2, F2⟩ ⟨hF2, rfl, hin⟩
    dsimp only at hF2 hin ⊢
    refine VC.go 100 ?_
    have hil : (altIn a.kind a.name a.vars inn).length ≤ inn.length + a.vars.length + 1 := by
      unfold altIn
      split
      · simp
      · split
        · simp
        · omega
    cases again
    · simp only [push_cast, ↓reduceIte, Nat.reduceEqDiff, Nat.reduceAdd, Nat.reduceMul, Nat.reduceSub, Nat.reduceLT, Nat.reduceLeDiff, reduceCtorEq, Nat.reduceMod, Int.reduceEq, Int.reduceLT, Int.reduceLE, Int.reduceToNat, dite_true, hb]
      refine CallV.own (i := 0) rfl (hE F2 b _ vb _ _ _ _ _ (headC ds a.kind a.at_ a.name a.vars c) _ (hX'.mono hF2) hin (hd'.mono' hF2) hb (by omega)) ?_
      rintro _ F4 _ hF4 rfl
      simp only [push_cast, ↓reduceIte, Nat.reduceEqDiff, Nat.reduceAdd, Nat.reduceMul, Nat.reduceSub, Nat.reduceLT, Nat.reduceLeDiff, reduceCtorEq, Nat.reduceMod, Int.reduceEq, Int.reduceLT, Int.reduceLE, Int.reduceToNat, dite_true]
      simp only [whenC, Bool.false_eq_true, if_false] at hr
      subst hr
      exact chk_ret rfl
    · simp only [push_cast, ↓reduceIte, Nat.reduceEqDiff, Nat.reduceAdd, Nat.reduceMul, Nat.reduceSub, Nat.reduceLT, Nat.reduceLeDiff, reduceCtorEq, Nat.reduceMod, Int.reduceEq, Int.reduceLT, Int.reduceLE, Int.reduceToNat, dite_true, hb]
      refine CallV.own (i := 0) rfl (fail F2 b _ vb (headC ds a.kind a.at_ a.name a.vars c) a.at_ 30) ?_
      rintro _ F3 _ hF3 rfl
      simp only [push_cast, ↓reduceIte, Nat.reduceEqDiff, Nat.reduceAdd, Nat.reduceMul, Nat.reduceSub, Nat.reduceLT, Nat.reduceLeDiff, reduceCtorEq, Nat.reduceMod, Int.reduceEq, Int.reduceLT, Int.reduceLE, Int.reduceToNat, dite_true, hb]
      refine CallV.own (i := 0) rfl (hE F3 b _ vb _ _ _ _ _ (failC (headC ds a.kind a.at_ a.name a.vars c) a.at_ 30) _ (hX'.mono (PH.le_trans hF2 hF3)) (hin.mono hF3) (hd'.mono' (PH.le_trans hF2 hF3)) hb (by omega)) ?_
      rintro _ F4 _ hF4 rfl
      simp only [push_cast, ↓reduceIte, Nat.reduceEqDiff, Nat.reduceAdd, Nat.reduceMul, Nat.reduceSub, Nat.reduceLT, Nat.reduceLeDiff, reduceCtorEq, Nat.reduceMod, Int.reduceEq, Int.reduceLT, Int.reduceLE, Int.reduceToNat, dite_true]
      simp only [whenC, if_true] at hr
      subst hr
      exact chk_ret rfl
end Go.Proofs.YtoepmdbicdoieaaDoor.K

/- The document's checker: its walk over cases. (Written by gen/k6.py.) -/
namespace Go.Proofs.YtoepmdbicdoieaaDoor.K
open Go Go.Eng Go.Proofs Go.Proofs.YtoepmdbicdoieaaDoor.T
set_option linter.unusedSimpArgs false
set_option linter.unusedVariables false
set_option maxRecDepth 100000
set_option maxHeartbeats 8000000
def casesC (ds : List Dat) (e : Exp) (inn : List ByteArray) (c : Ck) : Ck := if e.kids.length = 0 ∨ e.alts.length = 0 then failC c e.at_ 2 else altsC ds [] e.alts inn (kidC ds e.kids inn c)
theorem altsC_append (ds : List Dat) (inn : List ByteArray) : ∀ (l p m : List Alt) (c : Ck), altsC ds p (l ++ m) inn c = altsC ds (p ++ l) m inn (altsC ds p l inn c)
  | [], p, m, c => by simp [altsC]
  | x :: l, p, m, c => by rw [List.cons_append, altsC_cons, altsC_cons, altsC_append ds inn l]; simp
theorem casesF (ds : List Dat) (e : Exp) (ih : ∀ e' : Exp, e'.size < e.size → ExpK ds e') (F : PH) (b : Nat) (vd vb vin va w1 we wl : Value) (c : Ck) (inn : List ByteArray) (hX : ExpAt F e va w1 we wl) (hi : Strs F vin inn) (hd : Dats F vd ds) (hb : vb.oneCell' = true) (hs : inn.length + e.size ≤ 100000000) :
    ChkFn 120 [.agg (expCells e va w1 we wl).toArray, vin] F b vd vb c (casesC ds e inn c) := by
  have hX' := hX
  have hsz := size_eq e
  have halts := hX.alts
  have hkids := hX.kids
  obtain ⟨pa, ca, pb, cb, pe, ce, pl, cl, rfl, rfl, rfl, rfl⟩ := hX.slices
  obtain ⟨_, _, el, hl1, hl2⟩ := halts.val
  cases el
  have hd' := hd
  obtain ⟨pd, cd, rfl, _, _⟩ := hd.val
  generalize hr : casesC ds e inn c = r
  unfold casesC at hr
  refine OFn.intro (n := 108) (ts := []) Tryd.func120 rfl rfl rfl rfl (by simp) fun B hB => VC.go 100 ?_
  by_cases g1 : e.kids.length = 0
  · have g1' : (e.kids.length : Int) = 0 := by omega
    simp only [push_cast, ↓reduceIte, Nat.reduceEqDiff, Nat.reduceAdd, Nat.reduceMul, Nat.reduceSub, Nat.reduceLT, Nat.reduceLeDiff, reduceCtorEq, Nat.reduceMod, Int.reduceEq, Int.reduceLT, Int.reduceLE, Int.reduceToNat, dite_true, eq_true g1', hb]
    intro bx
    refine CallV.own (i := 0) rfl (fail F b _ vb c e.at_ 2) ?_
    rintro _ F2 _ hF2 rfl
    simp only [push_cast, ↓reduceIte, Nat.reduceEqDiff, Nat.reduceAdd, Nat.reduceMul, Nat.reduceSub, Nat.reduceLT, Nat.reduceLeDiff, reduceCtorEq, Nat.reduceMod, Int.reduceEq, Int.reduceLT, Int.reduceLE, Int.reduceToNat, dite_true]
    rw [if_pos (.inl g1)] at hr
    subst hr
    exact chk_ret rfl
  have g1' : ¬ (e.kids.length : Int) = 0 := by omega
  by_cases g2 : e.alts.length = 0
  · have g2' : (e.alts.length : Int) = 0 := by omega
    simp only [push_cast, ↓reduceIte, Nat.reduceEqDiff, Nat.reduceAdd, Nat.reduceMul, Nat.reduceSub, Nat.reduceLT, Nat.reduceLeDiff, reduceCtorEq, Nat.reduceMod, Int.reduceEq, Int.reduceLT, Int.reduceLE, Int.reduceToNat, dite_true, g1', eq_true g2', hb]
    intro bx
    refine CallV.own (i := 0) rfl (fail F b _ vb c e.at_ 2) ?_
    rintro _ F2 _ hF2 rfl
    simp only [push_cast, ↓reduceIte, Nat.reduceEqDiff, Nat.reduceAdd, Nat.reduceMul, Nat.reduceSub, Nat.reduceLT, Nat.reduceLeDiff, reduceCtorEq, Nat.reduceMod, Int.reduceEq, Int.reduceLT, Int.reduceLE, Int.reduceToNat, dite_true]
    rw [if_pos (.inr g2)] at hr
    subst hr
    exact chk_ret rfl
  have g2' : ¬ (e.alts.length : Int) = 0 := by omega
  rw [if_neg (by omega)] at hr
  obtain ⟨kd, ks, hks⟩ : ∃ kd ks, e.kids = kd :: ks := by
    cases hk : e.kids with
    | nil => rw [hk] at g1; simp at g1
    | cons a l => exact ⟨a, l, rfl⟩
  obtain ⟨q, _, cs, eq, _, _, kl, kr⟩ := hkids.elem (by decide) (i := 0) (a := kd) (by rw [hks]; rfl) (fun _ _ h => h.len)
  cases eq
  obtain ⟨xa, xb, xe, xl, rfl, hx⟩ := RExp_iff.1 kr
  have hx' := hx
  obtain ⟨_, _, _, _, _, _, _, _, rfl, rfl, rfl, rfl⟩ := hx.slices
  rw [Nat.zero_mul] at kl
  have g3 : (0 : Int) < (e.kids.length : Int) := by omega
  have hsm := sizeEs_mem (e := kd) (l := e.kids) (by rw [hks]; exact List.mem_cons_self)
  simp only [push_cast, ↓reduceIte, Nat.reduceEqDiff, Nat.reduceAdd, Nat.reduceMul, Nat.reduceSub, Nat.reduceLT, Nat.reduceLeDiff, reduceCtorEq, Nat.reduceMod, Int.reduceEq, Int.reduceLT, Int.reduceLE, Int.reduceToNat, dite_true, g1', g2', g3, Nat.zero_mul, kl, hb]
  intro bx
  refine CallV.own (i := 0) rfl (ih kd (by omega) F b _ vb _ _ _ _ _ c inn hx' hi hd' hb (by omega)) ?_
  rintro _ F0 _ hF0 rfl
  rw [hks] at hr
  simp only [kidC] at hr
  generalize expC ds kd inn c = c0 at hr ⊢
  clear hx hx' kl kr
  simp only [push_cast, ↓reduceIte, Nat.reduceEqDiff, Nat.reduceAdd, Nat.reduceMul, Nat.reduceSub, Nat.reduceLT, Nat.reduceLeDiff, reduceCtorEq, Nat.reduceMod, Int.reduceEq, Int.reduceLT, Int.reduceLE, Int.reduceToNat, dite_true]
  refine VC.loopM (ι := Nat × Ck × PH) (fun i => [(6, .v (.int .i64 i.1)), (4, .o 1 bx 0), (2, .v vin), (0, .o 0 b 0)]) (fun i => [⟨0, b, 126, ckCells (.slice pd ds.length cd) vb i.2.1⟩, ⟨1, bx, 49, expCells e (.slice pa e.atoms.length ca) (.slice pb e.binds.length cb) (.slice (some q) e.kids.length ce) (.slice pl e.alts.length cl)⟩]) (fun i => i.2.2) (fun i => i.1 ≤ e.alts.length ∧ F0.le i.2.2 ∧ i.2.1 = altsC ds [] (e.alts.take i.1) inn c0) (fun i => e.alts.length - i.1) (0, c0, F0) ⟨Nat.zero_le _, PH.le_refl _, by simp [altsC]⟩ (by simp [subk, Eng.look]) (List.Sublist.refl _) rfl ?_
  rintro ⟨k, c1, F1⟩ ⟨hk, hF1, hc⟩ G hG
  dsimp only at hk hF1 hc hG ⊢
  have hFF1 := PH.le_trans hF0 hF1
  refine VC.go 100 ?_
  by_cases h : k < e.alts.length
  case neg =>
    have h' : ¬ (k : Int) < (e.alts.length : Int) := by omega
    rw [List.take_of_length_le (by omega)] at hc
    simp only [push_cast, ↓reduceIte, Nat.reduceEqDiff, Nat.reduceAdd, Nat.reduceMul, Nat.reduceSub, Nat.reduceLT, Nat.reduceLeDiff, reduceCtorEq, Nat.reduceMod, Int.reduceEq, Int.reduceLT, Int.reduceLE, Int.reduceToNat, dite_true, h', hb]
    subst hc hr
    exact chk_ret rfl
  have h' : (k : Int) < (e.alts.length : Int) := by omega
  have h0 : (0 : Int) ≤ (k : Int) := by omega
  obtain ⟨bad1, at1, ee1⟩ := c1
  cases bad1 with
  | true =>
    simp only [push_cast, ↓reduceIte, Nat.reduceEqDiff, Nat.reduceAdd, Nat.reduceMul, Nat.reduceSub, Nat.reduceLT, Nat.reduceLeDiff, reduceCtorEq, Nat.reduceMod, Int.reduceEq, Int.reduceLT, Int.reduceLE, Int.reduceToNat, dite_true, h', hb]
    have : r = ⟨true, at1, ee1⟩ := by
      rw [← hr, ← List.take_append_drop k e.alts, altsC_append, ← hc]
      exact altsC_bad _ _ _ _ _ rfl
    subst this
    exact chk_ret rfl
  | false =>
  have ht : altsC ds [] (e.alts.take (k + 1)) inn c0 = altStep ds (e.alts.take k) e.alts[k] inn ⟨false, at1, ee1⟩ := by rw [List.take_succ_eq_append_getElem h, altsC_snoc, hc]; simp
  have e2 : IntKind.i64.wrap ((k : Int) + 1) = ((k + 1 : Nat) : Int) := wadd k h (Nat.le_trans hl1 hl2)
  have hsm2 := sizeLs_mem (List.getElem_mem h)
  have hse := asize_eq e.alts[k]
  obtain ⟨q2, _, cs2, eq2, _, _, kl, kr⟩ := (halts.mono (R' := RAlt F1) hFF1 (fun _ _ _ h => h.mono hFF1)).elem (by decide) (i := k) (a := e.alts[k]) (List.getElem?_eq_getElem h) (fun _ _ h => h.len)
  cases eq2
  obtain ⟨a, hak⟩ : ∃ a, a = e.alts[k] := ⟨_, rfl⟩
  rw [← hak] at ht hsm2 hse kr
  obtain ⟨wv, cc, rfl, hwv, hcc⟩ := RAlt_iff.1 kr
  obtain ⟨ya, yb, ye, yl, rfl, hy⟩ := RExp_iff.1 hcc
  have hwv' := hwv
  obtain ⟨pv, cv, rfl, _, _, _⟩ := hwv
  have hy' := hy
  obtain ⟨p1, c1', p2, c2', p3, c3', p4, c4', rfl, rfl, rfl, rfl⟩ := hy.slices
  simp only [push_cast, ↓reduceIte, Nat.reduceEqDiff, Nat.reduceAdd, Nat.reduceMul, Nat.reduceSub, Nat.reduceLT, Nat.reduceLeDiff, reduceCtorEq, Nat.reduceMod, Int.reduceEq, Int.reduceLT, Int.reduceLE, Int.reduceToNat, dite_true, h', h0, kl, hb]
  intro b7
  refine VC.loopM (ι := Nat × Bool × Ck × PH) (fun i => [(9, .v (.int .i64 i.1)), (8, .v (.bool i.2.1)), (7, .o 2 b7 0), (6, .v (.int .i64 k)), (4, .o 1 bx 0), (2, .v vin), (0, .o 0 b 0)]) (fun i => [⟨0, b, 126, ckCells (.slice pd ds.length cd) vb i.2.2.1⟩, ⟨1, bx, 49, expCells e (.slice pa e.atoms.length ca) (.slice pb e.binds.length cb) (.slice (some q) e.kids.length ce) (.slice (some q2) e.alts.length cl)⟩, ⟨2, b7, 148, .int .i64 a.kind :: .int .i64 a.at_ :: .string a.name :: .int .i64 a.n :: .slice pv a.vars.length cv :: expCells a.body (.slice p1 a.body.atoms.length c1') (.slice p2 a.body.binds.length c2') (.slice p3 a.body.kids.length c3') (.slice p4 a.body.alts.length c4')⟩]) (fun i => i.2.2.2) (fun i => i.1 ≤ k ∧ F1.le i.2.2.2 ∧ i.2.1 = againB (e.alts.take i.1) a ∧ i.2.2.1 = lastC (e.alts.take i.1) a ⟨false, at1, ee1⟩) (fun i => k - i.1) (0, false, ⟨false, at1, ee1⟩, F1) ⟨Nat.zero_le _, PH.le_refl _, rfl, rfl⟩ (by simp [subk, Eng.look]) (List.Sublist.refl _) rfl ?_
  rintro ⟨j, r, c3, F3⟩ ⟨hj, hF3, hag, hc3⟩ G2 hG2
  dsimp only at hj hF3 hag hc3 hG2 ⊢
  have hFF3 := PH.le_trans hFF1 hF3
  refine VC.go 100 ?_
  by_cases hjk : j < k
  case neg =>
    have hjk' : ¬ (j : Int) < (k : Int) := by omega
    obtain rfl : j = k := by omega
    simp only [push_cast, ↓reduceIte, Nat.reduceEqDiff, Nat.reduceAdd, Nat.reduceMul, Nat.reduceSub, Nat.reduceLT, Nat.reduceLeDiff, reduceCtorEq, Nat.reduceMod, Int.reduceEq, Int.reduceLT, Int.reduceLE, Int.reduceToNat, dite_true, hjk', hb]
    refine CallV.own (i := 0) rfl (altF ds a (ih a.body (by omega)) r F3 b _ vb _ _ _ _ _ _ c3 inn (hwv'.mono hF3) (hy'.mono hF3) (hi.mono hFF3) (hd'.mono' hFF3) hb (by omega)) ?_
    rintro _ F4 _ hF4 rfl
    simp only [push_cast, ↓reduceIte, Nat.reduceEqDiff, Nat.reduceAdd, Nat.reduceMul, Nat.reduceSub, Nat.reduceLT, Nat.reduceLeDiff, reduceCtorEq, Nat.reduceMod, Int.reduceEq, Int.reduceLT, Int.reduceLE, Int.reduceToNat, dite_true, e2]
    exact hG (j + 1, altC ds a r inn c3, F4) _ ⟨by simp; omega, PH.le_trans hF1 (PH.le_trans hF3 hF4), by rw [ht]; simp only [altStep, Bool.false_eq_true, if_false]; rw [hag, hc3]⟩ (by simp; omega) (by simp [subk, Eng.look]) (by simp) rfl rfl
  have hjk' : (j : Int) < (k : Int) := by omega
  have hjl : j < e.alts.length := by omega
  have hjl' : (j : Int) < (e.alts.length : Int) := by omega
  have h0j : (0 : Int) ≤ (j : Int) := by omega
  have e4 : IntKind.i64.wrap ((j : Int) + 1) = ((j + 1 : Nat) : Int) := wadd j hjl (Nat.le_trans hl1 hl2)
  have hbt0 : e.alts.take (j + 1) = e.alts.take j ++ [e.alts[j]] := List.take_succ_eq_append_getElem hjl
  obtain ⟨q3, _, cs3, eq3, _, _, kl3, kr3⟩ := (halts.mono (R' := RAlt F3) hFF3 (fun _ _ _ h => h.mono hFF3)).elem (by decide) (i := j) (a := e.alts[j]) (List.getElem?_eq_getElem hjl) (fun _ _ h => h.len)
  cases eq3
  obtain ⟨bb, hbb⟩ : ∃ bb, bb = e.alts[j] := ⟨_, rfl⟩
  have hbt : e.alts.take (j + 1) = e.alts.take j ++ [bb] := by rw [hbb]; exact hbt0
  rw [← hbb] at kr3
  obtain ⟨wv3, cc3, rfl, hwv3, hcc3⟩ := RAlt_iff.1 kr3
  obtain ⟨za, zb, ze, zl, rfl, hz⟩ := RExp_iff.1 hcc3
  obtain ⟨pv3, cv3, rfl, _, _, _⟩ := hwv3
  obtain ⟨_, _, _, _, _, _, _, _, rfl, rfl, rfl, rfl⟩ := hz.slices
  by_cases g3 : bb.kind = 3
  · simp only [push_cast, ↓reduceIte, Nat.reduceEqDiff, Nat.reduceAdd, Nat.reduceMul, Nat.reduceSub, Nat.reduceLT, Nat.reduceLeDiff, reduceCtorEq, Nat.reduceMod, Int.reduceEq, Int.reduceLT, Int.reduceLE, Int.reduceToNat, dite_true, hjk', hjl', h0j, kl3, eq_true g3, hb]
    intro b10
    refine CallV.own (i := 0) rfl (fail F3 b _ vb c3 a.at_ 35) ?_
    rintro _ F5 _ hF5 rfl
    cases r with
    | true =>
      simp only [push_cast, ↓reduceIte, Nat.reduceEqDiff, Nat.reduceAdd, Nat.reduceMul, Nat.reduceSub, Nat.reduceLT, Nat.reduceLeDiff, reduceCtorEq, Nat.reduceMod, Int.reduceEq, Int.reduceLT, Int.reduceLE, Int.reduceToNat, dite_true, hb, e4]
      exact hG2 (j + 1, true, failC c3 a.at_ 35, F5) _ ⟨by simp; omega, PH.le_trans hF3 hF5, by rw [hbt, againB_snoc, ← hag]; simp [], by rw [hbt, lastC_snoc, ← hc3, whenC, if_pos g3]⟩ (by simp; omega) (by simp [subk, Eng.look]) (by simp) rfl rfl
    | false =>
      have n1 : ¬ bb.kind = 1 := by omega
      have n2 : ¬ bb.kind = 2 := by omega
      by_cases q1 : a.kind = 1
      · have q2 : ¬ a.kind = 2 := by omega
        simp only [push_cast, ↓reduceIte, Nat.reduceEqDiff, Nat.reduceAdd, Nat.reduceMul, Nat.reduceSub, Nat.reduceLT, Nat.reduceLeDiff, reduceCtorEq, Nat.reduceMod, Int.reduceEq, Int.reduceLT, Int.reduceLE, Int.reduceToNat, dite_true, hb, n1, eq_true q1, q2, e4]
        exact hG2 (j + 1, false, failC c3 a.at_ 35, F5) _ ⟨by simp; omega, PH.le_trans hF3 hF5, by rw [hbt, againB_snoc, ← hag]; simp [n1, n2], by rw [hbt, lastC_snoc, ← hc3, whenC, if_pos g3]⟩ (by simp; omega) (by simp [subk, Eng.look]) (by simp) rfl rfl
      · by_cases q2 : a.kind = 2
        · simp only [push_cast, ↓reduceIte, Nat.reduceEqDiff, Nat.reduceAdd, Nat.reduceMul, Nat.reduceSub, Nat.reduceLT, Nat.reduceLeDiff, reduceCtorEq, Nat.reduceMod, Int.reduceEq, Int.reduceLT, Int.reduceLE, Int.reduceToNat, dite_true, hb, n1, n2, q1, eq_true q2, e4]
          exact hG2 (j + 1, false, failC c3 a.at_ 35, F5) _ ⟨by simp; omega, PH.le_trans hF3 hF5, by rw [hbt, againB_snoc, ← hag]; simp [n1, n2], by rw [hbt, lastC_snoc, ← hc3, whenC, if_pos g3]⟩ (by simp; omega) (by simp [subk, Eng.look]) (by simp) rfl rfl
        · simp only [push_cast, ↓reduceIte, Nat.reduceEqDiff, Nat.reduceAdd, Nat.reduceMul, Nat.reduceSub, Nat.reduceLT, Nat.reduceLeDiff, reduceCtorEq, Nat.reduceMod, Int.reduceEq, Int.reduceLT, Int.reduceLE, Int.reduceToNat, dite_true, hb, n1, n2, q1, q2, e4]
          exact hG2 (j + 1, false, failC c3 a.at_ 35, F5) _ ⟨by simp; omega, PH.le_trans hF3 hF5, by rw [hbt, againB_snoc, ← hag]; simp [n1, n2], by rw [hbt, lastC_snoc, ← hc3, whenC, if_pos g3]⟩ (by simp; omega) (by simp [subk, Eng.look]) (by simp) rfl rfl
  · simp only [push_cast, ↓reduceIte, Nat.reduceEqDiff, Nat.reduceAdd, Nat.reduceMul, Nat.reduceSub, Nat.reduceLT, Nat.reduceLeDiff, reduceCtorEq, Nat.reduceMod, Int.reduceEq, Int.reduceLT, Int.reduceLE, Int.reduceToNat, dite_true, hjk', hjl', h0j, kl3, g3, hb]
    intro b10
    cases r with
    | true =>
      simp only [push_cast, ↓reduceIte, Nat.reduceEqDiff, Nat.reduceAdd, Nat.reduceMul, Nat.reduceSub, Nat.reduceLT, Nat.reduceLeDiff, reduceCtorEq, Nat.reduceMod, Int.reduceEq, Int.reduceLT, Int.reduceLE, Int.reduceToNat, dite_true, g3, hb, e4]
      exact hG2 (j + 1, true, c3, F3) _ ⟨by simp; omega, hF3, by rw [hbt, againB_snoc, ← hag]; simp [], by rw [hbt, lastC_snoc, ← hc3, whenC, if_neg g3]⟩ (by simp; omega) (by simp [subk, Eng.look]) (by simp) rfl rfl
    | false =>
      by_cases q1 : a.kind = 1
      · have q2 : ¬ a.kind = 2 := by omega
        by_cases n1 : bb.kind = 1
        · by_cases nn : a.name = bb.name
          · simp only [push_cast, ↓reduceIte, Nat.reduceEqDiff, Nat.reduceAdd, Nat.reduceMul, Nat.reduceSub, Nat.reduceLT, Nat.reduceLeDiff, reduceCtorEq, Nat.reduceMod, Int.reduceEq, Int.reduceLT, Int.reduceLE, Int.reduceToNat, dite_true, g3, hb, eq_true n1, eq_true q1, q2, eq_true nn, e4]
            exact hG2 (j + 1, true, c3, F3) _ ⟨by simp; omega, hF3, by rw [hbt, againB_snoc, ← hag]; simp [q1, n1, nn], by rw [hbt, lastC_snoc, ← hc3, whenC, if_neg g3]⟩ (by simp; omega) (by simp [subk, Eng.look]) (by simp) rfl rfl
          · simp only [push_cast, ↓reduceIte, Nat.reduceEqDiff, Nat.reduceAdd, Nat.reduceMul, Nat.reduceSub, Nat.reduceLT, Nat.reduceLeDiff, reduceCtorEq, Nat.reduceMod, Int.reduceEq, Int.reduceLT, Int.reduceLE, Int.reduceToNat, dite_true, g3, hb, eq_true n1, eq_true q1, q2, nn, e4]
            exact hG2 (j + 1, false, c3, F3) _ ⟨by simp; omega, hF3, by rw [hbt, againB_snoc, ← hag]; simp [q1, q2, n1, nn], by rw [hbt, lastC_snoc, ← hc3, whenC, if_neg g3]⟩ (by simp; omega) (by simp [subk, Eng.look]) (by simp) rfl rfl
        · simp only [push_cast, ↓reduceIte, Nat.reduceEqDiff, Nat.reduceAdd, Nat.reduceMul, Nat.reduceSub, Nat.reduceLT, Nat.reduceLeDiff, reduceCtorEq, Nat.reduceMod, Int.reduceEq, Int.reduceLT, Int.reduceLE, Int.reduceToNat, dite_true, g3, hb, n1, eq_true q1, q2, e4]
          exact hG2 (j + 1, false, c3, F3) _ ⟨by simp; omega, hF3, by rw [hbt, againB_snoc, ← hag]; simp [q1, q2, n1], by rw [hbt, lastC_snoc, ← hc3, whenC, if_neg g3]⟩ (by simp; omega) (by simp [subk, Eng.look]) (by simp) rfl rfl
      · by_cases q2 : a.kind = 2
        · by_cases n2 : bb.kind = 2
          · by_cases nn : a.n = bb.n
            · simp only [push_cast, ↓reduceIte, Nat.reduceEqDiff, Nat.reduceAdd, Nat.reduceMul, Nat.reduceSub, Nat.reduceLT, Nat.reduceLeDiff, reduceCtorEq, Nat.reduceMod, Int.reduceEq, Int.reduceLT, Int.reduceLE, Int.reduceToNat, dite_true, g3, hb, q1, eq_true q2, eq_true n2, eq_true nn, e4]
              exact hG2 (j + 1, true, c3, F3) _ ⟨by simp; omega, hF3, by rw [hbt, againB_snoc, ← hag]; simp [q1, q2, n2, nn], by rw [hbt, lastC_snoc, ← hc3, whenC, if_neg g3]⟩ (by simp; omega) (by simp [subk, Eng.look]) (by simp) rfl rfl
            · simp only [push_cast, ↓reduceIte, Nat.reduceEqDiff, Nat.reduceAdd, Nat.reduceMul, Nat.reduceSub, Nat.reduceLT, Nat.reduceLeDiff, reduceCtorEq, Nat.reduceMod, Int.reduceEq, Int.reduceLT, Int.reduceLE, Int.reduceToNat, dite_true, g3, hb, q1, eq_true q2, eq_true n2, nn, e4]
              exact hG2 (j + 1, false, c3, F3) _ ⟨by simp; omega, hF3, by rw [hbt, againB_snoc, ← hag]; simp [q1, q2, n2, nn], by rw [hbt, lastC_snoc, ← hc3, whenC, if_neg g3]⟩ (by simp; omega) (by simp [subk, Eng.look]) (by simp) rfl rfl
          · simp only [push_cast, ↓reduceIte, Nat.reduceEqDiff, Nat.reduceAdd, Nat.reduceMul, Nat.reduceSub, Nat.reduceLT, Nat.reduceLeDiff, reduceCtorEq, Nat.reduceMod, Int.reduceEq, Int.reduceLT, Int.reduceLE, Int.reduceToNat, dite_true, g3, hb, q1, eq_true q2, n2, e4]
            exact hG2 (j + 1, false, c3, F3) _ ⟨by simp; omega, hF3, by rw [hbt, againB_snoc, ← hag]; simp [q1, q2, n2], by rw [hbt, lastC_snoc, ← hc3, whenC, if_neg g3]⟩ (by simp; omega) (by simp [subk, Eng.look]) (by simp) rfl rfl
        · simp only [push_cast, ↓reduceIte, Nat.reduceEqDiff, Nat.reduceAdd, Nat.reduceMul, Nat.reduceSub, Nat.reduceLT, Nat.reduceLeDiff, reduceCtorEq, Nat.reduceMod, Int.reduceEq, Int.reduceLT, Int.reduceLE, Int.reduceToNat, dite_true, g3, hb, q1, q2, e4]
          exact hG2 (j + 1, false, c3, F3) _ ⟨by simp; omega, hF3, by rw [hbt, againB_snoc, ← hag]; simp [q1, q2], by rw [hbt, lastC_snoc, ← hc3, whenC, if_neg g3]⟩ (by simp; omega) (by simp [subk, Eng.look]) (by simp) rfl rfl
end Go.Proofs.YtoepmdbicdoieaaDoor.K

/- The document's checker: its walk over expressions. (Written by gen/k7.py.) -/
namespace Go.Proofs.YtoepmdbicdoieaaDoor.K
open Go Go.Eng Go.Proofs Go.Proofs.YtoepmdbicdoieaaDoor.T
set_option linter.unusedSimpArgs false
set_option linter.unusedVariables false
set_option maxRecDepth 100000
set_option maxHeartbeats 8000000
theorem exp_ok (ds : List Dat) (e : Exp) (ih : ∀ e' : Exp, e'.size < e.size → ExpK ds e') : ExpK ds e := by
  intro F b vd vb vin va w1 we wl c inn hX hi hd hb hs
  have hX' := hX
  obtain ⟨pa, ca, pb, cb, pe, ce, pl, cl, rfl, rfl, rfl, rfl⟩ := hX.slices
  have hd' := hd
  obtain ⟨pd, cd, rfl, _, _⟩ := hd.val
  refine OFn.intro (n := 112) (ts := []) Tryd.func89 rfl rfl rfl rfl (by simp) fun B hB => VC.go 100 ?_
  generalize hr : expC ds e inn c = r
  rw [expC_eq] at hr
  obtain ⟨bad, at1, ee1⟩ := c
  cases bad
  case true =>
    obtain rfl : r = ⟨true, at1, ee1⟩ := hr.symm
    simp only [push_cast, ↓reduceIte, Nat.reduceEqDiff, Nat.reduceAdd, Nat.reduceMul, Nat.reduceSub, Nat.reduceLT, Nat.reduceLeDiff, reduceCtorEq, Nat.reduceMod, Int.reduceEq, Int.reduceLT, Int.reduceLE, Int.reduceToNat, dite_true, hb]
    intro bx
    exact chk_ret rfl
  simp only [Bool.false_eq_true, if_false] at hr
  simp only [push_cast, ↓reduceIte, Nat.reduceEqDiff, Nat.reduceAdd, Nat.reduceMul, Nat.reduceSub, Nat.reduceLT, Nat.reduceLeDiff, reduceCtorEq, Nat.reduceMod, Int.reduceEq, Int.reduceLT, Int.reduceLE, Int.reduceToNat, dite_true, hb]
  intro bx
  by_cases g1 : e.kind = 1
  · rw [if_pos g1] at hr
    simp only [push_cast, ↓reduceIte, Nat.reduceEqDiff, Nat.reduceAdd, Nat.reduceMul, Nat.reduceSub, Nat.reduceLT, Nat.reduceLeDiff, reduceCtorEq, Nat.reduceMod, Int.reduceEq, Int.reduceLT, Int.reduceLE, Int.reduceToNat, dite_true, eq_true g1, hb]
    refine CallV.pure (has F _ inn e.name hi) ?_
    rintro _ F2 hF2 rfl
    by_cases t0 : hasB inn e.name = false
    · simp only [push_cast, ↓reduceIte, Nat.reduceEqDiff, Nat.reduceAdd, Nat.reduceMul, Nat.reduceSub, Nat.reduceLT, Nat.reduceLeDiff, reduceCtorEq, Nat.reduceMod, Int.reduceEq, Int.reduceLT, Int.reduceLE, Int.reduceToNat, dite_true, t0, hb]
      refine CallV.own (i := 0) rfl (fail F2 b _ vb (⟨false, at1, ee1⟩) e.at_ 31) ?_
      rintro _ F5 _ hF5 rfl
      by_cases t1 : 8 < e.atoms.length
      · simp only [push_cast, ↓reduceIte, Nat.reduceEqDiff, Nat.reduceAdd, Nat.reduceMul, Nat.reduceSub, Nat.reduceLT, Nat.reduceLeDiff, reduceCtorEq, Nat.reduceMod, Int.reduceEq, Int.reduceLT, Int.reduceLE, Int.reduceToNat, dite_true, show (8 : Int) < (e.atoms.length : Int) by omega, hb]
        refine CallV.own (i := 0) rfl (fail F5 b _ vb (failC (⟨false, at1, ee1⟩) e.at_ 31) e.at_ 33) ?_
        rintro _ F6 _ hF6 rfl
        simp only [push_cast, ↓reduceIte, Nat.reduceEqDiff, Nat.reduceAdd, Nat.reduceMul, Nat.reduceSub, Nat.reduceLT, Nat.reduceLeDiff, reduceCtorEq, Nat.reduceMod, Int.reduceEq, Int.reduceLT, Int.reduceLE, Int.reduceToNat, dite_true, hb]
        refine CallV.own (i := 0) rfl (atomsF F6 b _ vb _ _ _ _ _ (failC (failC (⟨false, at1, ee1⟩) e.at_ 31) e.at_ 33) e inn (hX'.mono (PH.le_trans (PH.le_trans (hF2) hF5) hF6)) (hi.mono (PH.le_trans (PH.le_trans (hF2) hF5) hF6)) rfl hb) ?_
        rintro _ Fz _ hFz rfl
        simp only [push_cast, ↓reduceIte, Nat.reduceEqDiff, Nat.reduceAdd, Nat.reduceMul, Nat.reduceSub, Nat.reduceLT, Nat.reduceLeDiff, reduceCtorEq, Nat.reduceMod, Int.reduceEq, Int.reduceLT, Int.reduceLE, Int.reduceToNat, dite_true]
        have e9 : r = atomsC e.at_ inn e.atoms (failC (failC (⟨false, at1, ee1⟩) e.at_ 31) e.at_ 33) := by rw [← hr]; simp only [whenC]; rw [if_pos t1, if_pos t0]
        subst e9
        exact chk_ret rfl
      · simp only [push_cast, ↓reduceIte, Nat.reduceEqDiff, Nat.reduceAdd, Nat.reduceMul, Nat.reduceSub, Nat.reduceLT, Nat.reduceLeDiff, reduceCtorEq, Nat.reduceMod, Int.reduceEq, Int.reduceLT, Int.reduceLE, Int.reduceToNat, dite_true, show ¬ (8 : Int) < (e.atoms.length : Int) by omega, hb]
        refine CallV.own (i := 0) rfl (atomsF F5 b _ vb _ _ _ _ _ (failC (⟨false, at1, ee1⟩) e.at_ 31) e inn (hX'.mono (PH.le_trans (hF2) hF5)) (hi.mono (PH.le_trans (hF2) hF5)) rfl hb) ?_
        rintro _ Fz _ hFz rfl
        simp only [push_cast, ↓reduceIte, Nat.reduceEqDiff, Nat.reduceAdd, Nat.reduceMul, Nat.reduceSub, Nat.reduceLT, Nat.reduceLeDiff, reduceCtorEq, Nat.reduceMod, Int.reduceEq, Int.reduceLT, Int.reduceLE, Int.reduceToNat, dite_true]
        have e9 : r = atomsC e.at_ inn e.atoms (failC (⟨false, at1, ee1⟩) e.at_ 31) := by rw [← hr]; simp only [whenC]; rw [if_neg t1, if_pos t0]
        subst e9
        exact chk_ret rfl
    · simp only [push_cast, ↓reduceIte, Nat.reduceEqDiff, Nat.reduceAdd, Nat.reduceMul, Nat.reduceSub, Nat.reduceLT, Nat.reduceLeDiff, reduceCtorEq, Nat.reduceMod, Int.reduceEq, Int.reduceLT, Int.reduceLE, Int.reduceToNat, dite_true, eq_true_of_ne_false t0, hb]
      by_cases t1 : 8 < e.atoms.length
      · simp only [push_cast, ↓reduceIte, Nat.reduceEqDiff, Nat.reduceAdd, Nat.reduceMul, Nat.reduceSub, Nat.reduceLT, Nat.reduceLeDiff, reduceCtorEq, Nat.reduceMod, Int.reduceEq, Int.reduceLT, Int.reduceLE, Int.reduceToNat, dite_true, show (8 : Int) < (e.atoms.length : Int) by omega, hb]
        refine CallV.own (i := 0) rfl (fail F2 b _ vb (⟨false, at1, ee1⟩) e.at_ 33) ?_
        rintro _ F6 _ hF6 rfl
        simp only [push_cast, ↓reduceIte, Nat.reduceEqDiff, Nat.reduceAdd, Nat.reduceMul, Nat.reduceSub, Nat.reduceLT, Nat.reduceLeDiff, reduceCtorEq, Nat.reduceMod, Int.reduceEq, Int.reduceLT, Int.reduceLE, Int.reduceToNat, dite_true, hb]
        refine CallV.own (i := 0) rfl (atomsF F6 b _ vb _ _ _ _ _ (failC (⟨false, at1, ee1⟩) e.at_ 33) e inn (hX'.mono (PH.le_trans (hF2) hF6)) (hi.mono (PH.le_trans (hF2) hF6)) rfl hb) ?_
        rintro _ Fz _ hFz rfl
        simp only [push_cast, ↓reduceIte, Nat.reduceEqDiff, Nat.reduceAdd, Nat.reduceMul, Nat.reduceSub, Nat.reduceLT, Nat.reduceLeDiff, reduceCtorEq, Nat.reduceMod, Int.reduceEq, Int.reduceLT, Int.reduceLE, Int.reduceToNat, dite_true]
        have e9 : r = atomsC e.at_ inn e.atoms (failC (⟨false, at1, ee1⟩) e.at_ 33) := by rw [← hr]; simp only [whenC]; rw [if_pos t1, if_neg t0]
        subst e9
        exact chk_ret rfl
      · simp only [push_cast, ↓reduceIte, Nat.reduceEqDiff, Nat.reduceAdd, Nat.reduceMul, Nat.reduceSub, Nat.reduceLT, Nat.reduceLeDiff, reduceCtorEq, Nat.reduceMod, Int.reduceEq, Int.reduceLT, Int.reduceLE, Int.reduceToNat, dite_true, show ¬ (8 : Int) < (e.atoms.length : Int) by omega, hb]
        refine CallV.own (i := 0) rfl (atomsF F2 b _ vb _ _ _ _ _ (⟨false, at1, ee1⟩) e inn (hX'.mono (hF2)) (hi.mono (hF2)) rfl hb) ?_
        rintro _ Fz _ hFz rfl
        simp only [push_cast, ↓reduceIte, Nat.reduceEqDiff, Nat.reduceAdd, Nat.reduceMul, Nat.reduceSub, Nat.reduceLT, Nat.reduceLeDiff, reduceCtorEq, Nat.reduceMod, Int.reduceEq, Int.reduceLT, Int.reduceLE, Int.reduceToNat, dite_true]
        have e9 : r = atomsC e.at_ inn e.atoms (⟨false, at1, ee1⟩) := by rw [← hr]; simp only [whenC]; rw [if_neg t1, if_neg t0]
        subst e9
        exact chk_ret rfl
  rw [if_neg g1] at hr
  by_cases g2 : e.kind = 2
  · rw [if_pos g2] at hr
    simp only [push_cast, ↓reduceIte, Nat.reduceEqDiff, Nat.reduceAdd, Nat.reduceMul, Nat.reduceSub, Nat.reduceLT, Nat.reduceLeDiff, reduceCtorEq, Nat.reduceMod, Int.reduceEq, Int.reduceLT, Int.reduceLE, Int.reduceToNat, dite_true, g1, eq_true g2, hb]
    refine VC.draw (.q 0 (.q 1 (.q 2 (.q 3 (.q 4 (.q 5 (.e 6 (.q 7 (.q 8 (.q 9 (.q 10 (.q 11 (.done))))))))))))) mixed (by rfl) ?_
    simp only [push_cast, ↓reduceIte, Nat.reduceEqDiff, Nat.reduceAdd, Nat.reduceMul, Nat.reduceSub, Nat.reduceLT, Nat.reduceLeDiff, reduceCtorEq, Nat.reduceMod, Int.reduceEq, Int.reduceLT, Int.reduceLE, Int.reduceToNat, dite_true, hb]
    refine CallV.pure (arity F _ vb ds e.name hd' hb) ?_
    rintro _ F2 hF2 rfl
    simp only [push_cast, ↓reduceIte, Nat.reduceEqDiff, Nat.reduceAdd, Nat.reduceMul, Nat.reduceSub, Nat.reduceLT, Nat.reduceLeDiff, reduceCtorEq, Nat.reduceMod, Int.reduceEq, Int.reduceLT, Int.reduceLE, Int.reduceToNat, dite_true]
    refine VC.go 100 ?_
    by_cases t0 : (arityD ds e.name).isSome = false
    · simp only [push_cast, ↓reduceIte, Nat.reduceEqDiff, Nat.reduceAdd, Nat.reduceMul, Nat.reduceSub, Nat.reduceLT, Nat.reduceLeDiff, reduceCtorEq, Nat.reduceMod, Int.reduceEq, Int.reduceLT, Int.reduceLE, Int.reduceToNat, dite_true, t0, hb]
      refine CallV.own (i := 0) rfl (fail F2 b _ vb (⟨false, at1, ee1⟩) e.at_ 32) ?_
      rintro _ F5 _ hF5 rfl
      by_cases t1 : ¬ (e.atoms.length : Int) = (arityD ds e.name).getD 0
      · simp only [push_cast, ↓reduceIte, Nat.reduceEqDiff, Nat.reduceAdd, Nat.reduceMul, Nat.reduceSub, Nat.reduceLT, Nat.reduceLeDiff, reduceCtorEq, Nat.reduceMod, Int.reduceEq, Int.reduceLT, Int.reduceLE, Int.reduceToNat, dite_true, t1, hb]
        refine CallV.own (i := 0) rfl (fail F5 b _ vb (failC (⟨false, at1, ee1⟩) e.at_ 32) e.at_ 33) ?_
        rintro _ F6 _ hF6 rfl
        simp only [push_cast, ↓reduceIte, Nat.reduceEqDiff, Nat.reduceAdd, Nat.reduceMul, Nat.reduceSub, Nat.reduceLT, Nat.reduceLeDiff, reduceCtorEq, Nat.reduceMod, Int.reduceEq, Int.reduceLT, Int.reduceLE, Int.reduceToNat, dite_true, hb]
        refine CallV.own (i := 0) rfl (atomsF F6 b _ vb _ _ _ _ _ (failC (failC (⟨false, at1, ee1⟩) e.at_ 32) e.at_ 33) e inn (hX'.mono (PH.le_trans (PH.le_trans (hF2) hF5) hF6)) (hi.mono (PH.le_trans (PH.le_trans (hF2) hF5) hF6)) rfl hb) ?_
        rintro _ Fz _ hFz rfl
        simp only [push_cast, ↓reduceIte, Nat.reduceEqDiff, Nat.reduceAdd, Nat.reduceMul, Nat.reduceSub, Nat.reduceLT, Nat.reduceLeDiff, reduceCtorEq, Nat.reduceMod, Int.reduceEq, Int.reduceLT, Int.reduceLE, Int.reduceToNat, dite_true]
        have e9 : r = atomsC e.at_ inn e.atoms (failC (failC (⟨false, at1, ee1⟩) e.at_ 32) e.at_ 33) := by rw [← hr]; simp only [whenC]; rw [if_pos t1, if_pos t0]
        subst e9
        exact chk_ret rfl
      · simp only [push_cast, ↓reduceIte, Nat.reduceEqDiff, Nat.reduceAdd, Nat.reduceMul, Nat.reduceSub, Nat.reduceLT, Nat.reduceLeDiff, reduceCtorEq, Nat.reduceMod, Int.reduceEq, Int.reduceLT, Int.reduceLE, Int.reduceToNat, dite_true, eq_true (Decidable.not_not.1 t1), hb]
        refine CallV.own (i := 0) rfl (atomsF F5 b _ vb _ _ _ _ _ (failC (⟨false, at1, ee1⟩) e.at_ 32) e inn (hX'.mono (PH.le_trans (hF2) hF5)) (hi.mono (PH.le_trans (hF2) hF5)) rfl hb) ?_
        rintro _ Fz _ hFz rfl
        simp only [push_cast, ↓reduceIte, Nat.reduceEqDiff, Nat.reduceAdd, Nat.reduceMul, Nat.reduceSub, Nat.reduceLT, Nat.reduceLeDiff, reduceCtorEq, Nat.reduceMod, Int.reduceEq, Int.reduceLT, Int.reduceLE, Int.reduceToNat, dite_true]
        have e9 : r = atomsC e.at_ inn e.atoms (failC (⟨false, at1, ee1⟩) e.at_ 32) := by rw [← hr]; simp only [whenC]; rw [if_neg t1, if_pos t0]
        subst e9
        exact chk_ret rfl
    · simp only [push_cast, ↓reduceIte, Nat.reduceEqDiff, Nat.reduceAdd, Nat.reduceMul, Nat.reduceSub, Nat.reduceLT, Nat.reduceLeDiff, reduceCtorEq, Nat.reduceMod, Int.reduceEq, Int.reduceLT, Int.reduceLE, Int.reduceToNat, dite_true, eq_true_of_ne_false t0, hb]
      by_cases t1 : ¬ (e.atoms.length : Int) = (arityD ds e.name).getD 0
      · simp only [push_cast, ↓reduceIte, Nat.reduceEqDiff, Nat.reduceAdd, Nat.reduceMul, Nat.reduceSub, Nat.reduceLT, Nat.reduceLeDiff, reduceCtorEq, Nat.reduceMod, Int.reduceEq, Int.reduceLT, Int.reduceLE, Int.reduceToNat, dite_true, t1, hb]
        refine CallV.own (i := 0) rfl (fail F2 b _ vb (⟨false, at1, ee1⟩) e.at_ 33) ?_
        rintro _ F6 _ hF6 rfl
        simp only [push_cast, ↓reduceIte, Nat.reduceEqDiff, Nat.reduceAdd, Nat.reduceMul, Nat.reduceSub, Nat.reduceLT, Nat.reduceLeDiff, reduceCtorEq, Nat.reduceMod, Int.reduceEq, Int.reduceLT, Int.reduceLE, Int.reduceToNat, dite_true, hb]
        refine CallV.own (i := 0) rfl (atomsF F6 b _ vb _ _ _ _ _ (failC (⟨false, at1, ee1⟩) e.at_ 33) e inn (hX'.mono (PH.le_trans (hF2) hF6)) (hi.mono (PH.le_trans (hF2) hF6)) rfl hb) ?_
        rintro _ Fz _ hFz rfl
        simp only [push_cast, ↓reduceIte, Nat.reduceEqDiff, Nat.reduceAdd, Nat.reduceMul, Nat.reduceSub, Nat.reduceLT, Nat.reduceLeDiff, reduceCtorEq, Nat.reduceMod, Int.reduceEq, Int.reduceLT, Int.reduceLE, Int.reduceToNat, dite_true]
        have e9 : r = atomsC e.at_ inn e.atoms (failC (⟨false, at1, ee1⟩) e.at_ 33) := by rw [← hr]; simp only [whenC]; rw [if_pos t1, if_neg t0]
        subst e9
        exact chk_ret rfl
      · simp only [push_cast, ↓reduceIte, Nat.reduceEqDiff, Nat.reduceAdd, Nat.reduceMul, Nat.reduceSub, Nat.reduceLT, Nat.reduceLeDiff, reduceCtorEq, Nat.reduceMod, Int.reduceEq, Int.reduceLT, Int.reduceLE, Int.reduceToNat, dite_true, eq_true (Decidable.not_not.1 t1), hb]
        refine CallV.own (i := 0) rfl (atomsF F2 b _ vb _ _ _ _ _ (⟨false, at1, ee1⟩) e inn (hX'.mono (hF2)) (hi.mono (hF2)) rfl hb) ?_
        rintro _ Fz _ hFz rfl
        simp only [push_cast, ↓reduceIte, Nat.reduceEqDiff, Nat.reduceAdd, Nat.reduceMul, Nat.reduceSub, Nat.reduceLT, Nat.reduceLeDiff, reduceCtorEq, Nat.reduceMod, Int.reduceEq, Int.reduceLT, Int.reduceLE, Int.reduceToNat, dite_true]
        have e9 : r = atomsC e.at_ inn e.atoms (⟨false, at1, ee1⟩) := by rw [← hr]; simp only [whenC]; rw [if_neg t1, if_neg t0]
        subst e9
        exact chk_ret rfl
  rw [if_neg g2] at hr
  by_cases g3 : e.kind = 3
  · rw [if_pos g3] at hr
    simp only [push_cast, ↓reduceIte, Nat.reduceEqDiff, Nat.reduceAdd, Nat.reduceMul, Nat.reduceSub, Nat.reduceLT, Nat.reduceLeDiff, reduceCtorEq, Nat.reduceMod, Int.reduceEq, Int.reduceLT, Int.reduceLE, Int.reduceToNat, dite_true, g1, g2, eq_true g3, hb]
    refine CallV.pure (find F e.name) ?_
    rintro _ F2 hF2 rfl
    by_cases t0 : findP e.name = 0
    · simp only [push_cast, ↓reduceIte, Nat.reduceEqDiff, Nat.reduceAdd, Nat.reduceMul, Nat.reduceSub, Nat.reduceLT, Nat.reduceLeDiff, reduceCtorEq, Nat.reduceMod, Int.reduceEq, Int.reduceLT, Int.reduceLE, Int.reduceToNat, dite_true, eq_true t0, hb]
      refine CallV.own (i := 0) rfl (fail F2 b _ vb (⟨false, at1, ee1⟩) e.at_ 34) ?_
      rintro _ F5 _ hF5 rfl
      simp only [push_cast, ↓reduceIte, Nat.reduceEqDiff, Nat.reduceAdd, Nat.reduceMul, Nat.reduceSub, Nat.reduceLT, Nat.reduceLeDiff, reduceCtorEq, Nat.reduceMod, Int.reduceEq, Int.reduceLT, Int.reduceLE, Int.reduceToNat, dite_true, hb]
      refine VC.draw (.q 0 (.q 1 (.q 2 (.q 3 (.e 4 (.q 5 (.done))))))) mixed (by rfl) ?_
      simp only [push_cast, ↓reduceIte, Nat.reduceEqDiff, Nat.reduceAdd, Nat.reduceMul, Nat.reduceSub, Nat.reduceLT, Nat.reduceLeDiff, reduceCtorEq, Nat.reduceMod, Int.reduceEq, Int.reduceLT, Int.reduceLE, Int.reduceToNat, dite_true, hb]
      refine CallV.pure (arity8 F5 (findP e.name)) ?_
      rintro _ Fm hFm rfl
      simp only [push_cast, ↓reduceIte, Nat.reduceEqDiff, Nat.reduceAdd, Nat.reduceMul, Nat.reduceSub, Nat.reduceLT, Nat.reduceLeDiff, reduceCtorEq, Nat.reduceMod, Int.reduceEq, Int.reduceLT, Int.reduceLE, Int.reduceToNat, dite_true]
      refine VC.go 100 ?_
      by_cases t1 : ¬ (e.atoms.length : Int) = arityP (findP e.name)
      · simp only [push_cast, ↓reduceIte, Nat.reduceEqDiff, Nat.reduceAdd, Nat.reduceMul, Nat.reduceSub, Nat.reduceLT, Nat.reduceLeDiff, reduceCtorEq, Nat.reduceMod, Int.reduceEq, Int.reduceLT, Int.reduceLE, Int.reduceToNat, dite_true, t1, hb]
        refine CallV.own (i := 0) rfl (fail Fm b _ vb (failC (⟨false, at1, ee1⟩) e.at_ 34) e.at_ 33) ?_
        rintro _ F6 _ hF6 rfl
        simp only [push_cast, ↓reduceIte, Nat.reduceEqDiff, Nat.reduceAdd, Nat.reduceMul, Nat.reduceSub, Nat.reduceLT, Nat.reduceLeDiff, reduceCtorEq, Nat.reduceMod, Int.reduceEq, Int.reduceLT, Int.reduceLE, Int.reduceToNat, dite_true, hb]
        refine CallV.own (i := 0) rfl (atomsF F6 b _ vb _ _ _ _ _ (failC (failC (⟨false, at1, ee1⟩) e.at_ 34) e.at_ 33) e inn (hX'.mono (PH.le_trans (PH.le_trans (PH.le_trans (hF2) hF5) hFm) hF6)) (hi.mono (PH.le_trans (PH.le_trans (PH.le_trans (hF2) hF5) hFm) hF6)) rfl hb) ?_
        rintro _ Fz _ hFz rfl
        simp only [push_cast, ↓reduceIte, Nat.reduceEqDiff, Nat.reduceAdd, Nat.reduceMul, Nat.reduceSub, Nat.reduceLT, Nat.reduceLeDiff, reduceCtorEq, Nat.reduceMod, Int.reduceEq, Int.reduceLT, Int.reduceLE, Int.reduceToNat, dite_true]
        have e9 : r = atomsC e.at_ inn e.atoms (failC (failC (⟨false, at1, ee1⟩) e.at_ 34) e.at_ 33) := by rw [← hr]; simp only [whenC]; rw [if_pos t1, if_pos t0]
        subst e9
        exact chk_ret rfl
      · simp only [push_cast, ↓reduceIte, Nat.reduceEqDiff, Nat.reduceAdd, Nat.reduceMul, Nat.reduceSub, Nat.reduceLT, Nat.reduceLeDiff, reduceCtorEq, Nat.reduceMod, Int.reduceEq, Int.reduceLT, Int.reduceLE, Int.reduceToNat, dite_true, eq_true (Decidable.not_not.1 t1), hb]
        refine CallV.own (i := 0) rfl (atomsF Fm b _ vb _ _ _ _ _ (failC (⟨false, at1, ee1⟩) e.at_ 34) e inn (hX'.mono (PH.le_trans (PH.le_trans (hF2) hF5) hFm)) (hi.mono (PH.le_trans (PH.le_trans (hF2) hF5) hFm)) rfl hb) ?_
        rintro _ Fz _ hFz rfl
        simp only [push_cast, ↓reduceIte, Nat.reduceEqDiff, Nat.reduceAdd, Nat.reduceMul, Nat.reduceSub, Nat.reduceLT, Nat.reduceLeDiff, reduceCtorEq, Nat.reduceMod, Int.reduceEq, Int.reduceLT, Int.reduceLE, Int.reduceToNat, dite_true]
        have e9 : r = atomsC e.at_ inn e.atoms (failC (⟨false, at1, ee1⟩) e.at_ 34) := by rw [← hr]; simp only [whenC]; rw [if_neg t1, if_pos t0]
        subst e9
        exact chk_ret rfl
    · simp only [push_cast, ↓reduceIte, Nat.reduceEqDiff, Nat.reduceAdd, Nat.reduceMul, Nat.reduceSub, Nat.reduceLT, Nat.reduceLeDiff, reduceCtorEq, Nat.reduceMod, Int.reduceEq, Int.reduceLT, Int.reduceLE, Int.reduceToNat, dite_true, t0, hb]
      refine VC.draw (.q 0 (.q 1 (.q 2 (.q 3 (.e 4 (.q 5 (.done))))))) mixed (by rfl) ?_
      simp only [push_cast, ↓reduceIte, Nat.reduceEqDiff, Nat.reduceAdd, Nat.reduceMul, Nat.reduceSub, Nat.reduceLT, Nat.reduceLeDiff, reduceCtorEq, Nat.reduceMod, Int.reduceEq, Int.reduceLT, Int.reduceLE, Int.reduceToNat, dite_true, hb]
      refine CallV.pure (arity8 F2 (findP e.name)) ?_
      rintro _ Fm hFm rfl
      simp only [push_cast, ↓reduceIte, Nat.reduceEqDiff, Nat.reduceAdd, Nat.reduceMul, Nat.reduceSub, Nat.reduceLT, Nat.reduceLeDiff, reduceCtorEq, Nat.reduceMod, Int.reduceEq, Int.reduceLT, Int.reduceLE, Int.reduceToNat, dite_true]
      refine VC.go 100 ?_
      by_cases t1 : ¬ (e.atoms.length : Int) = arityP (findP e.name)
      · simp only [push_cast, ↓reduceIte, Nat.reduceEqDiff, Nat.reduceAdd, Nat.reduceMul, Nat.reduceSub, Nat.reduceLT, Nat.reduceLeDiff, reduceCtorEq, Nat.reduceMod, Int.reduceEq, Int.reduceLT, Int.reduceLE, Int.reduceToNat, dite_true, t1, hb]
        refine CallV.own (i := 0) rfl (fail Fm b _ vb (⟨false, at1, ee1⟩) e.at_ 33) ?_
        rintro _ F6 _ hF6 rfl
        simp only [push_cast, ↓reduceIte, Nat.reduceEqDiff, Nat.reduceAdd, Nat.reduceMul, Nat.reduceSub, Nat.reduceLT, Nat.reduceLeDiff, reduceCtorEq, Nat.reduceMod, Int.reduceEq, Int.reduceLT, Int.reduceLE, Int.reduceToNat, dite_true, hb]
        refine CallV.own (i := 0) rfl (atomsF F6 b _ vb _ _ _ _ _ (failC (⟨false, at1, ee1⟩) e.at_ 33) e inn (hX'.mono (PH.le_trans (PH.le_trans (hF2) hFm) hF6)) (hi.mono (PH.le_trans (PH.le_trans (hF2) hFm) hF6)) rfl hb) ?_
        rintro _ Fz _ hFz rfl
        simp only [push_cast, ↓reduceIte, Nat.reduceEqDiff, Nat.reduceAdd, Nat.reduceMul, Nat.reduceSub, Nat.reduceLT, Nat.reduceLeDiff, reduceCtorEq, Nat.reduceMod, Int.reduceEq, Int.reduceLT, Int.reduceLE, Int.reduceToNat, dite_true]
        have e9 : r = atomsC e.at_ inn e.atoms (failC (⟨false, at1, ee1⟩) e.at_ 33) := by rw [← hr]; simp only [whenC]; rw [if_pos t1, if_neg t0]
        subst e9
        exact chk_ret rfl
      · simp only [push_cast, ↓reduceIte, Nat.reduceEqDiff, Nat.reduceAdd, Nat.reduceMul, Nat.reduceSub, Nat.reduceLT, Nat.reduceLeDiff, reduceCtorEq, Nat.reduceMod, Int.reduceEq, Int.reduceLT, Int.reduceLE, Int.reduceToNat, dite_true, eq_true (Decidable.not_not.1 t1), hb]
        refine CallV.own (i := 0) rfl (atomsF Fm b _ vb _ _ _ _ _ (⟨false, at1, ee1⟩) e inn (hX'.mono (PH.le_trans (hF2) hFm)) (hi.mono (PH.le_trans (hF2) hFm)) rfl hb) ?_
        rintro _ Fz _ hFz rfl
        simp only [push_cast, ↓reduceIte, Nat.reduceEqDiff, Nat.reduceAdd, Nat.reduceMul, Nat.reduceSub, Nat.reduceLT, Nat.reduceLeDiff, reduceCtorEq, Nat.reduceMod, Int.reduceEq, Int.reduceLT, Int.reduceLE, Int.reduceToNat, dite_true]
        have e9 : r = atomsC e.at_ inn e.atoms (⟨false, at1, ee1⟩) := by rw [← hr]; simp only [whenC]; rw [if_neg t1, if_neg t0]
        subst e9
        exact chk_ret rfl
  rw [if_neg g3] at hr
  by_cases g4 : e.kind = 4
  · rw [if_pos g4] at hr
    simp only [push_cast, ↓reduceIte, Nat.reduceEqDiff, Nat.reduceAdd, Nat.reduceMul, Nat.reduceSub, Nat.reduceLT, Nat.reduceLeDiff, reduceCtorEq, Nat.reduceMod, Int.reduceEq, Int.reduceLT, Int.reduceLE, Int.reduceToNat, dite_true, g1, g2, g3, eq_true g4, hb]
    subst hr
    exact chk_ret rfl
  rw [if_neg g4] at hr
  by_cases g5 : e.kind = 5
  · rw [if_pos g5] at hr
    simp only [push_cast, ↓reduceIte, Nat.reduceEqDiff, Nat.reduceAdd, Nat.reduceMul, Nat.reduceSub, Nat.reduceLT, Nat.reduceLeDiff, reduceCtorEq, Nat.reduceMod, Int.reduceEq, Int.reduceLT, Int.reduceLE, Int.reduceToNat, dite_true, g1, g2, g3, g4, eq_true g5, hb]
    refine CallV.own (i := 0) rfl (letF ds e ih F b _ vb _ _ _ _ _ ⟨false, at1, ee1⟩ inn hX' hi hd' hb hs) ?_
    rintro _ Fz _ hFz rfl
    simp only [push_cast, ↓reduceIte, Nat.reduceEqDiff, Nat.reduceAdd, Nat.reduceMul, Nat.reduceSub, Nat.reduceLT, Nat.reduceLeDiff, reduceCtorEq, Nat.reduceMod, Int.reduceEq, Int.reduceLT, Int.reduceLE, Int.reduceToNat, dite_true]
    have e9 : r = letC ds e inn ⟨false, at1, ee1⟩ := hr.symm
    subst e9
    exact chk_ret rfl
  rw [if_neg g5] at hr
  by_cases g6 : e.kind = 6
  · rw [if_pos g6] at hr
    simp only [push_cast, ↓reduceIte, Nat.reduceEqDiff, Nat.reduceAdd, Nat.reduceMul, Nat.reduceSub, Nat.reduceLT, Nat.reduceLeDiff, reduceCtorEq, Nat.reduceMod, Int.reduceEq, Int.reduceLT, Int.reduceLE, Int.reduceToNat, dite_true, g1, g2, g3, g4, g5, eq_true g6, hb]
    refine CallV.own (i := 0) rfl (casesF ds e ih F b _ vb _ _ _ _ _ ⟨false, at1, ee1⟩ inn hX' hi hd' hb hs) ?_
    rintro _ Fz _ hFz rfl
    simp only [push_cast, ↓reduceIte, Nat.reduceEqDiff, Nat.reduceAdd, Nat.reduceMul, Nat.reduceSub, Nat.reduceLT, Nat.reduceLeDiff, reduceCtorEq, Nat.reduceMod, Int.reduceEq, Int.reduceLT, Int.reduceLE, Int.reduceToNat, dite_true]
    have e9 : r = casesC ds e inn ⟨false, at1, ee1⟩ := hr.symm
    subst e9
    exact chk_ret rfl
  rw [if_neg g6] at hr
  simp only [push_cast, ↓reduceIte, Nat.reduceEqDiff, Nat.reduceAdd, Nat.reduceMul, Nat.reduceSub, Nat.reduceLT, Nat.reduceLeDiff, reduceCtorEq, Nat.reduceMod, Int.reduceEq, Int.reduceLT, Int.reduceLE, Int.reduceToNat, dite_true, g1, g2, g3, g4, g5, g6, hb]
  refine CallV.own (i := 0) rfl (fail F b _ vb ⟨false, at1, ee1⟩ e.at_ 2) ?_
  rintro _ Fz _ hFz rfl
  simp only [push_cast, ↓reduceIte, Nat.reduceEqDiff, Nat.reduceAdd, Nat.reduceMul, Nat.reduceSub, Nat.reduceLT, Nat.reduceLeDiff, reduceCtorEq, Nat.reduceMod, Int.reduceEq, Int.reduceLT, Int.reduceLE, Int.reduceToNat, dite_true]
  subst hr
  exact chk_ret rfl
theorem exp_all (ds : List Dat) (n : Nat) : ∀ e : Exp, e.size = n → ExpK ds e := by
  induction n using Nat.strongRecOn with
  | _ n ih =>
    intro e he
    exact exp_ok ds e fun e' h => ih e'.size (by omega) e' rfl
end Go.Proofs.YtoepmdbicdoieaaDoor.K

/- The document's checker: Check. (Written by gen/k8.py.) -/
namespace Go.Proofs.YtoepmdbicdoieaaDoor.K
open Go Go.Eng Go.Proofs Go.Proofs.YtoepmdbicdoieaaDoor.T
set_option linter.unusedSimpArgs false
set_option linter.unusedVariables false
set_option maxRecDepth 100000
set_option maxHeartbeats 8000000
def twiceD (p : List Dat) (d : Dat) (c : Ck) : Ck := p.foldl (fun c x => whenC (x.name = d.name) c d.at_ 30) c
theorem twiceD_snoc (p : List Dat) (x d : Dat) (c : Ck) : twiceD (p ++ [x]) d c = whenC (x.name = d.name) (twiceD p d c) d.at_ 30 := by simp [twiceD, List.foldl_append]
def stepDat (p : List Dat) (d : Dat) (c : Ck) : Ck := whenC (d.arity < 0 ∨ 8 < d.arity) (twiceD p d c) d.at_ 33
def datasC : List Dat → List Dat → Ck → Ck
  | _, [], c => c
  | p, d :: l, c => datasC (p ++ [d]) l (stepDat p d c)
theorem datasC_snoc : ∀ (l p : List Dat) (d : Dat) (c : Ck), datasC p (l ++ [d]) c = stepDat (p ++ l) d (datasC p l c)
  | [], p, d, c => by simp [datasC]
  | x :: l, p, d, c => by simp [datasC, datasC_snoc l]
def mainB : ByteArray := bs [109, 97, 105, 110]
def checkC (ds : List Dat) (l : List Bind) : Ck := whenC (hasB (l.map Bind.name) mainB = false) (bindsC ds l (l.map Bind.name) (dupC [] l (datasC [] ds ⟨false, 0, 0⟩))) 0 36
theorem check (ds : List Dat) (bs : List Bind) (F : PH) (vd vb : Value) (hd : Dats F vd ds) (hbs : SlE F 11 (RBind F) vb bs) (hs : sizeBs bs ≤ 10000000) :
    PFn Tryd.prog 20 [.agg #[vd, vb]] F (fun v _ => v = .tuple #[.int .i64 (checkC ds bs).at_, .int .i64 (checkC ds bs).e]) := by
  have hd' := hd
  have hb' := hbs
  have hbn := sizeBs_count bs
  obtain ⟨pd, cd, rfl, hd1, hd2⟩ := hd.val
  obtain ⟨pb, cb, rfl, hb1, hb2⟩ := hbs.val
  generalize hr : checkC ds bs = r
  unfold checkC at hr
  refine Fn.intro (n := 122) (ts := [2, 3]) Tryd.func20 rfl rfl rfl rfl (by simp) fun B hB => VC.go 100 ?_
  simp only [push_cast, ↓reduceIte, Nat.reduceEqDiff, Nat.reduceAdd, Nat.reduceMul, Nat.reduceSub, Nat.reduceLT, Nat.reduceLeDiff, reduceCtorEq, Nat.reduceMod, Int.reduceEq, Int.reduceLT, Int.reduceLE, Int.reduceToNat, dite_true]
  intro b1 bc
  refine VC.loopM (ι := Nat × Ck × PH) (fun i => [(5, .v (.int .i64 i.1)), (4, .o 1 bc 0), (1, .o 0 b1 0)]) (fun i => [⟨0, b1, 25, [.slice pd ds.length cd, .slice pb bs.length cb]⟩, ⟨1, bc, 126, ckCells (.slice pd ds.length cd) (.slice pb bs.length cb) i.2.1⟩]) (fun i => i.2.2) (fun i => i.1 ≤ ds.length ∧ F.le i.2.2 ∧ i.2.1 = datasC [] (ds.take i.1) ⟨false, 0, 0⟩) (fun i => ds.length - i.1) (0, ⟨false, 0, 0⟩, F) ⟨Nat.zero_le _, PH.le_refl _, rfl⟩ (by simp [subk, Eng.look]) (List.Sublist.refl _) rfl ?_
  rintro ⟨k, c1, F1⟩ ⟨hk, hF1, hc⟩ G0 hG0
  dsimp only at hk hF1 hc hG0 ⊢
  refine VC.go 100 ?_
  by_cases h : k < ds.length
  case pos =>
    have h' : (k : Int) < (ds.length : Int) := by omega
    have h0 : (0 : Int) ≤ (k : Int) := by omega
    have e2 : IntKind.i64.wrap ((k : Int) + 1) = ((k + 1 : Nat) : Int) := wadd k h (Nat.le_trans hd1 hd2)
    have ht : datasC [] (ds.take (k + 1)) ⟨false, 0, 0⟩ = stepDat (ds.take k) ds[k] c1 := by rw [List.take_succ_eq_append_getElem h, datasC_snoc, hc]; simp
    obtain ⟨q, _, cs, eq, _, _, kl, kr⟩ := (hd'.mono' hF1).elem (by decide) (i := k) (a := ds[k]) (List.getElem?_eq_getElem h) (fun _ _ h => h.len)
    cases eq
    obtain rfl := kr
    obtain ⟨d, hdk⟩ : ∃ d, d = ds[k] := ⟨_, rfl⟩
    rw [← hdk] at kl ht
    simp only [push_cast, ↓reduceIte, Nat.reduceEqDiff, Nat.reduceAdd, Nat.reduceMul, Nat.reduceSub, Nat.reduceLT, Nat.reduceLeDiff, reduceCtorEq, Nat.reduceMod, Int.reduceEq, Int.reduceLT, Int.reduceLE, Int.reduceToNat, dite_true, h', h0, kl]
    intro b2
    refine VC.loopM (ι := Nat × Ck × PH) (fun i => [(7, .v (.int .i64 i.1)), (6, .o 2 b2 0), (5, .v (.int .i64 k)), (4, .o 1 bc 0), (1, .o 0 b1 0)]) (fun i => [⟨0, b1, 25, [.slice (some q) ds.length cd, .slice pb bs.length cb]⟩, ⟨1, bc, 126, ckCells (.slice (some q) ds.length cd) (.slice pb bs.length cb) i.2.1⟩, ⟨2, b2, 72, [.string d.name, .int .i64 d.arity, .int .i64 d.at_]⟩]) (fun i => i.2.2) (fun i => i.1 ≤ k ∧ F1.le i.2.2 ∧ i.2.1 = twiceD (ds.take i.1) d c1) (fun i => k - i.1) (0, c1, F1) ⟨Nat.zero_le _, PH.le_refl _, rfl⟩ (by simp [subk, Eng.look]) (List.Sublist.refl _) rfl ?_
    rintro ⟨j, c2, F2⟩ ⟨hj, hF2, hc2⟩ G2 hG2
    dsimp only at hj hF2 hc2 hG2 ⊢
    refine VC.go 100 ?_
    by_cases hjk : j < k
    case neg =>
      have hjk' : ¬ (j : Int) < (k : Int) := by omega
      obtain rfl : j = k := by omega
      by_cases a1 : d.arity < 0
      · simp only [push_cast, ↓reduceIte, Nat.reduceEqDiff, Nat.reduceAdd, Nat.reduceMul, Nat.reduceSub, Nat.reduceLT, Nat.reduceLeDiff, reduceCtorEq, Nat.reduceMod, Int.reduceEq, Int.reduceLT, Int.reduceLE, Int.reduceToNat, dite_true, hjk', a1]
        refine CallV.own (i := 1) rfl (fail F2 bc _ _ c2 d.at_ 33) ?_
        rintro _ F5 _ hF5 rfl
        simp only [push_cast, ↓reduceIte, Nat.reduceEqDiff, Nat.reduceAdd, Nat.reduceMul, Nat.reduceSub, Nat.reduceLT, Nat.reduceLeDiff, reduceCtorEq, Nat.reduceMod, Int.reduceEq, Int.reduceLT, Int.reduceLE, Int.reduceToNat, dite_true, e2]
        exact hG0 (j + 1, failC c2 d.at_ 33, F5) _ ⟨by simp; omega, PH.le_trans hF1 (PH.le_trans hF2 hF5), by rw [ht, stepDat, ← hc2, whenC, if_pos (.inl a1)]⟩ (by simp; omega) (by simp [subk, Eng.look]) (by simp) rfl rfl
      by_cases a2 : 8 < d.arity
      · simp only [push_cast, ↓reduceIte, Nat.reduceEqDiff, Nat.reduceAdd, Nat.reduceMul, Nat.reduceSub, Nat.reduceLT, Nat.reduceLeDiff, reduceCtorEq, Nat.reduceMod, Int.reduceEq, Int.reduceLT, Int.reduceLE, Int.reduceToNat, dite_true, hjk', a1, a2]
        refine CallV.own (i := 1) rfl (fail F2 bc _ _ c2 d.at_ 33) ?_
        rintro _ F5 _ hF5 rfl
        simp only [push_cast, ↓reduceIte, Nat.reduceEqDiff, Nat.reduceAdd, Nat.reduceMul, Nat.reduceSub, Nat.reduceLT, Nat.reduceLeDiff, reduceCtorEq, Nat.reduceMod, Int.reduceEq, Int.reduceLT, Int.reduceLE, Int.reduceToNat, dite_true, e2]
        exact hG0 (j + 1, failC c2 d.at_ 33, F5) _ ⟨by simp; omega, PH.le_trans hF1 (PH.le_trans hF2 hF5), by rw [ht, stepDat, ← hc2, whenC, if_pos (.inr a2)]⟩ (by simp; omega) (by simp [subk, Eng.look]) (by simp) rfl rfl
      · have a3 : ¬ (d.arity < 0 ∨ 8 < d.arity) := fun h => h.elim a1 a2
        simp only [push_cast, ↓reduceIte, Nat.reduceEqDiff, Nat.reduceAdd, Nat.reduceMul, Nat.reduceSub, Nat.reduceLT, Nat.reduceLeDiff, reduceCtorEq, Nat.reduceMod, Int.reduceEq, Int.reduceLT, Int.reduceLE, Int.reduceToNat, dite_true, hjk', a1, a2, e2]
        exact hG0 (j + 1, c2, F2) _ ⟨by simp; omega, PH.le_trans hF1 hF2, by rw [ht, stepDat, ← hc2, whenC, if_neg a3]⟩ (by simp; omega) (by simp [subk, Eng.look]) (by simp) rfl rfl
    have hjk' : (j : Int) < (k : Int) := by omega
    have hjl : j < ds.length := by omega
    have hjl' : (j : Int) < (ds.length : Int) := by omega
    have h0j : (0 : Int) ≤ (j : Int) := by omega
    have e4 : IntKind.i64.wrap ((j : Int) + 1) = ((j + 1 : Nat) : Int) := wadd j hjl (Nat.le_trans hd1 hd2)
    have hjt : twiceD (ds.take (j + 1)) d c1 = whenC ((ds[j]).name = d.name) c2 d.at_ 30 := by rw [List.take_succ_eq_append_getElem hjl, twiceD_snoc, hc2]
    obtain ⟨q3, _, cs3, eq3, _, _, kl3, kr3⟩ := (hd'.mono' (PH.le_trans hF1 hF2)).elem (by decide) (i := j) (a := ds[j]) (List.getElem?_eq_getElem hjl) (fun _ _ h => h.len)
    cases eq3
    obtain rfl := kr3
    have kc3 := cell_at kl3 (o := 0) rfl
    simp only [push_cast, ↓reduceIte, Nat.reduceEqDiff, Nat.reduceAdd, Nat.reduceMul, Nat.reduceSub, Nat.reduceLT, Nat.reduceLeDiff, reduceCtorEq, Nat.reduceMod, Int.reduceEq, Int.reduceLT, Int.reduceLE, Int.reduceToNat, dite_true, hjk']
    refine VC.draw (.q 0 (.q 1 (.q 2 (.q 3 (.q 4 (.q 5 (.q 6 (.q 7 (.q 8 (.done)))))))))) mixed (by rfl) ?_
    simp only [push_cast, ↓reduceIte, Nat.reduceEqDiff, Nat.reduceAdd, Nat.reduceMul, Nat.reduceSub, Nat.reduceLT, Nat.reduceLeDiff, reduceCtorEq, Nat.reduceMod, Int.reduceEq, Int.reduceLT, Int.reduceLE, Int.reduceToNat, dite_true, h0j, hjl', kc3]
    refine VC.go 100 ?_
    by_cases nn : (ds[j]).name = d.name
    · simp only [push_cast, ↓reduceIte, Nat.reduceEqDiff, Nat.reduceAdd, Nat.reduceMul, Nat.reduceSub, Nat.reduceLT, Nat.reduceLeDiff, reduceCtorEq, Nat.reduceMod, Int.reduceEq, Int.reduceLT, Int.reduceLE, Int.reduceToNat, dite_true, eq_true nn]
      refine CallV.own (i := 1) rfl (fail F2 bc _ _ c2 d.at_ 30) ?_
      rintro _ F5 _ hF5 rfl
      simp only [push_cast, ↓reduceIte, Nat.reduceEqDiff, Nat.reduceAdd, Nat.reduceMul, Nat.reduceSub, Nat.reduceLT, Nat.reduceLeDiff, reduceCtorEq, Nat.reduceMod, Int.reduceEq, Int.reduceLT, Int.reduceLE, Int.reduceToNat, dite_true, e4]
      exact hG2 (j + 1, failC c2 d.at_ 30, F5) _ ⟨by simp; omega, PH.le_trans hF2 hF5, by rw [hjt, whenC, if_pos nn]⟩ (by simp; omega) (by simp [subk, Eng.look]) (by simp) rfl rfl
    · simp only [push_cast, ↓reduceIte, Nat.reduceEqDiff, Nat.reduceAdd, Nat.reduceMul, Nat.reduceSub, Nat.reduceLT, Nat.reduceLeDiff, reduceCtorEq, Nat.reduceMod, Int.reduceEq, Int.reduceLT, Int.reduceLE, Int.reduceToNat, dite_true, nn, e4]
      exact hG2 (j + 1, c2, F2) _ ⟨by simp; omega, hF2, by rw [hjt, whenC, if_neg nn]⟩ (by simp; omega) (by simp [subk, Eng.look]) (by simp) rfl rfl
  have h' : ¬ (k : Int) < (ds.length : Int) := by omega
  rw [List.take_of_length_le (by omega)] at hc
  subst hc
  generalize datasC [] ds ⟨false, 0, 0⟩ = c0 at hr ⊢
  simp only [push_cast, ↓reduceIte, Nat.reduceEqDiff, Nat.reduceAdd, Nat.reduceMul, Nat.reduceSub, Nat.reduceLT, Nat.reduceLeDiff, reduceCtorEq, Nat.reduceMod, Int.reduceEq, Int.reduceLT, Int.reduceLE, Int.reduceToNat, dite_true, h']
  refine CallV.sl (namesF F1 _ bs (hb'.mono hF1 (fun _ _ _ h => h.mono hF1)) (by omega)) ?_
  intro v0 F0 m0 hF0 hm0 hv0
  have hown := sl_strs hm0 hv0
  clear hm0 hv0
  obtain ⟨own, ho⟩ : ∃ own, own = bs.map Bind.name := ⟨_, rfl⟩
  rw [← ho] at hown hr
  have hol : own.length = bs.length := by rw [ho]; simp
  have hown' := hown
  obtain ⟨pn, cn, rfl, hn1, hn2, hn3⟩ := hown
  have hFF0 := PH.le_trans hF1 hF0
  clear hG0 h h' hk
  simp only [push_cast, ↓reduceIte, Nat.reduceEqDiff, Nat.reduceAdd, Nat.reduceMul, Nat.reduceSub, Nat.reduceLT, Nat.reduceLeDiff, reduceCtorEq, Nat.reduceMod, Int.reduceEq, Int.reduceLT, Int.reduceLE, Int.reduceToNat, dite_true]
  refine VC.loopM (ι := Nat × Ck × PH) (fun i => [(9, .v (.int .i64 i.1)), (8, .v (.slice pn own.length cn)), (4, .o 1 bc 0), (1, .o 0 b1 0)]) (fun i => [⟨0, b1, 25, [.slice pd ds.length cd, .slice pb bs.length cb]⟩, ⟨1, bc, 126, ckCells (.slice pd ds.length cd) (.slice pb bs.length cb) i.2.1⟩]) (fun i => i.2.2) (fun i => i.1 ≤ own.length ∧ F0.le i.2.2 ∧ i.2.1 = dupC [] (bs.take i.1) c0) (fun i => own.length - i.1) (0, c0, F0) ⟨Nat.zero_le _, PH.le_refl _, rfl⟩ (by simp [subk, Eng.look]) (List.Sublist.refl _) rfl ?_
  rintro ⟨k, c1, F1⟩ ⟨hk, hF1, hc⟩ G hG
  dsimp only at hk hF1 hc hG ⊢
  refine VC.go 100 ?_
  by_cases h : k < own.length
  case pos =>
    have h' : (k : Int) < (own.length : Int) := by omega
    have h0 : (0 : Int) ≤ (k : Int) := by omega
    have h2 : (k : Int) < (own.length : Int) := by omega
    have h3 : (k : Int) ≤ (cn : Int) := by omega
    have h4 : ¬ cn = 0 := by omega
    have h5 : k < bs.length := by omega
    have h6 : (k : Int) < (bs.length : Int) := by omega
    obtain ⟨qa, rfl, hqa⟩ := (hn3.mono hF1).elem1 (i := k) (v := .string own[k]) (by simp [h])
    have hFF1 := PH.le_trans hFF0 hF1
    obtain ⟨q, _, cs, eq, _, _, kl, kr⟩ := (hb'.mono (R' := RBind F1) hFF1 (fun _ _ _ h => h.mono hFF1)).elem (by decide) (i := k) (a := bs[k]) (List.getElem?_eq_getElem h5) (fun _ _ h => h.len)
    cases eq
    obtain ⟨wv, cc, rfl, _, _⟩ := RBind_iff.1 kr
    have kc := cell_at kl (o := 1) rfl
    have e2 : IntKind.i64.wrap ((k : Int) + 1) = ((k + 1 : Nat) : Int) := wadd k h (Nat.le_trans hn1 hn2)
    have hnk : (bs[k]).name = own[k] := by subst ho; simp
    have hpk : [] ++ (bs.take k).map Bind.name = own.take k := by subst ho; simp [List.map_take]
    have ht : dupC [] (bs.take (k + 1)) c0 = stepD ([] ++ (bs.take k).map Bind.name) bs[k] c1 := by rw [List.take_succ_eq_append_getElem h5, dupC_snoc, hc]
    by_cases g : own[k] = ⟨#[]⟩
    · simp only [push_cast, ↓reduceIte, Nat.reduceEqDiff, Nat.reduceAdd, Nat.reduceMul, Nat.reduceSub, Nat.reduceLT, Nat.reduceLeDiff, reduceCtorEq, Nat.reduceMod, Int.reduceEq, Int.reduceLT, Int.reduceLE, Int.reduceToNat, dite_true, h', h0, hqa, eq_true g, h6, kc]
      refine CallV.own (i := 1) rfl (fail F1 bc _ _ c1 (bs[k]).at_ 31) ?_
      rintro _ Fx _ hFx rfl
      simp only [push_cast, ↓reduceIte, Nat.reduceEqDiff, Nat.reduceAdd, Nat.reduceMul, Nat.reduceSub, Nat.reduceLT, Nat.reduceLeDiff, reduceCtorEq, Nat.reduceMod, Int.reduceEq, Int.reduceLT, Int.reduceLE, Int.reduceToNat, dite_true]
      refine VC.draw (.q 0 (.q 1 (.q 2 (.q 3 (.q 4 (.q 5 (.q 6 (.e 7 (.done))))))))) mixed (by rfl) ?_
      simp only [push_cast, ↓reduceIte, Nat.reduceEqDiff, Nat.reduceAdd, Nat.reduceMul, Nat.reduceSub, Nat.reduceLT, Nat.reduceLeDiff, reduceCtorEq, Nat.reduceMod, Int.reduceEq, Int.reduceLT, Int.reduceLE, Int.reduceToNat, dite_true, h0, h2, h3, h4, (hFx).cell hqa, Nat.zero_mul, Nat.sub_zero, Option.map_some, add_zero']
      refine CallV.pure (has Fx _ (own.take k) own[k] (strs_take (hown'.mono (PH.le_trans hF1 (hFx))) (by omega))) ?_
      rintro _ Fy hFy rfl
      cases hh : hasB (own.take k) own[k] with
      | true =>
        simp only [push_cast, ↓reduceIte, Nat.reduceEqDiff, Nat.reduceAdd, Nat.reduceMul, Nat.reduceSub, Nat.reduceLT, Nat.reduceLeDiff, reduceCtorEq, Nat.reduceMod, Int.reduceEq, Int.reduceLT, Int.reduceLE, Int.reduceToNat, dite_true]
        refine VC.go 100 ?_
        simp only [push_cast, ↓reduceIte, Nat.reduceEqDiff, Nat.reduceAdd, Nat.reduceMul, Nat.reduceSub, Nat.reduceLT, Nat.reduceLeDiff, reduceCtorEq, Nat.reduceMod, Int.reduceEq, Int.reduceLT, Int.reduceLE, Int.reduceToNat, dite_true, h0, h6, (PH.le_trans (hFx) hFy).cell kc]
        refine CallV.own (i := 1) rfl (fail Fy bc _ _ (failC c1 (bs[k]).at_ 31) (bs[k]).at_ 30) ?_
        rintro _ Fz _ hFz rfl
        simp only [push_cast, ↓reduceIte, Nat.reduceEqDiff, Nat.reduceAdd, Nat.reduceMul, Nat.reduceSub, Nat.reduceLT, Nat.reduceLeDiff, reduceCtorEq, Nat.reduceMod, Int.reduceEq, Int.reduceLT, Int.reduceLE, Int.reduceToNat, dite_true, e2]
        exact hG (k + 1, failC (failC c1 (bs[k]).at_ 31) (bs[k]).at_ 30, Fz) _ ⟨by simp; omega, PH.le_trans hF1 (PH.le_trans (hFx) (PH.le_trans hFy hFz)), by rw [ht]; simp only [stepD, whenC, hnk, hpk]; rw [hh, if_pos rfl, if_pos g]⟩ (by simp; omega) (by simp [subk, Eng.look]) (List.Sublist.refl _) rfl rfl
      | false =>
        simp only [push_cast, ↓reduceIte, Nat.reduceEqDiff, Nat.reduceAdd, Nat.reduceMul, Nat.reduceSub, Nat.reduceLT, Nat.reduceLeDiff, reduceCtorEq, Nat.reduceMod, Int.reduceEq, Int.reduceLT, Int.reduceLE, Int.reduceToNat, dite_true]
        refine VC.go 100 ?_
        simp only [push_cast, ↓reduceIte, Nat.reduceEqDiff, Nat.reduceAdd, Nat.reduceMul, Nat.reduceSub, Nat.reduceLT, Nat.reduceLeDiff, reduceCtorEq, Nat.reduceMod, Int.reduceEq, Int.reduceLT, Int.reduceLE, Int.reduceToNat, dite_true, e2]
        exact hG (k + 1, failC c1 (bs[k]).at_ 31, Fy) _ ⟨by simp; omega, PH.le_trans hF1 (PH.le_trans (hFx) hFy), by rw [ht]; simp only [stepD, whenC, hnk, hpk]; rw [hh, if_neg Bool.false_ne_true, if_pos g]⟩ (by simp; omega) (by simp [subk, Eng.look]) (List.Sublist.refl _) rfl rfl
    · simp only [push_cast, ↓reduceIte, Nat.reduceEqDiff, Nat.reduceAdd, Nat.reduceMul, Nat.reduceSub, Nat.reduceLT, Nat.reduceLeDiff, reduceCtorEq, Nat.reduceMod, Int.reduceEq, Int.reduceLT, Int.reduceLE, Int.reduceToNat, dite_true, h', h0, hqa, g, h6]
      refine VC.draw (.q 0 (.q 1 (.q 2 (.q 3 (.q 4 (.q 5 (.q 6 (.e 7 (.done))))))))) mixed (by rfl) ?_
      simp only [push_cast, ↓reduceIte, Nat.reduceEqDiff, Nat.reduceAdd, Nat.reduceMul, Nat.reduceSub, Nat.reduceLT, Nat.reduceLeDiff, reduceCtorEq, Nat.reduceMod, Int.reduceEq, Int.reduceLT, Int.reduceLE, Int.reduceToNat, dite_true, h0, h2, h3, h4, (PH.le_refl F1).cell hqa, Nat.zero_mul, Nat.sub_zero, Option.map_some, add_zero']
      refine CallV.pure (has F1 _ (own.take k) own[k] (strs_take (hown'.mono (PH.le_trans hF1 (PH.le_refl F1))) (by omega))) ?_
      rintro _ Fy hFy rfl
      cases hh : hasB (own.take k) own[k] with
      | true =>
        simp only [push_cast, ↓reduceIte, Nat.reduceEqDiff, Nat.reduceAdd, Nat.reduceMul, Nat.reduceSub, Nat.reduceLT, Nat.reduceLeDiff, reduceCtorEq, Nat.reduceMod, Int.reduceEq, Int.reduceLT, Int.reduceLE, Int.reduceToNat, dite_true]
        refine VC.go 100 ?_
        simp only [push_cast, ↓reduceIte, Nat.reduceEqDiff, Nat.reduceAdd, Nat.reduceMul, Nat.reduceSub, Nat.reduceLT, Nat.reduceLeDiff, reduceCtorEq, Nat.reduceMod, Int.reduceEq, Int.reduceLT, Int.reduceLE, Int.reduceToNat, dite_true, h0, h6, (PH.le_trans (PH.le_refl F1) hFy).cell kc]
        refine CallV.own (i := 1) rfl (fail Fy bc _ _ (c1) (bs[k]).at_ 30) ?_
        rintro _ Fz _ hFz rfl
        simp only [push_cast, ↓reduceIte, Nat.reduceEqDiff, Nat.reduceAdd, Nat.reduceMul, Nat.reduceSub, Nat.reduceLT, Nat.reduceLeDiff, reduceCtorEq, Nat.reduceMod, Int.reduceEq, Int.reduceLT, Int.reduceLE, Int.reduceToNat, dite_true, e2]
        exact hG (k + 1, failC (c1) (bs[k]).at_ 30, Fz) _ ⟨by simp; omega, PH.le_trans hF1 (PH.le_trans (PH.le_refl F1) (PH.le_trans hFy hFz)), by rw [ht]; simp only [stepD, whenC, hnk, hpk]; rw [hh, if_pos rfl, if_neg g]⟩ (by simp; omega) (by simp [subk, Eng.look]) (List.Sublist.refl _) rfl rfl
      | false =>
        simp only [push_cast, ↓reduceIte, Nat.reduceEqDiff, Nat.reduceAdd, Nat.reduceMul, Nat.reduceSub, Nat.reduceLT, Nat.reduceLeDiff, reduceCtorEq, Nat.reduceMod, Int.reduceEq, Int.reduceLT, Int.reduceLE, Int.reduceToNat, dite_true]
        refine VC.go 100 ?_
        simp only [push_cast, ↓reduceIte, Nat.reduceEqDiff, Nat.reduceAdd, Nat.reduceMul, Nat.reduceSub, Nat.reduceLT, Nat.reduceLeDiff, reduceCtorEq, Nat.reduceMod, Int.reduceEq, Int.reduceLT, Int.reduceLE, Int.reduceToNat, dite_true, e2]
        exact hG (k + 1, c1, Fy) _ ⟨by simp; omega, PH.le_trans hF1 (PH.le_trans (PH.le_refl F1) hFy), by rw [ht]; simp only [stepD, whenC, hnk, hpk]; rw [hh, if_neg Bool.false_ne_true, if_neg g]⟩ (by simp; omega) (by simp [subk, Eng.look]) (List.Sublist.refl _) rfl rfl
  have h' : ¬ (k : Int) < (own.length : Int) := by omega
  rw [List.take_of_length_le (by omega)] at hc
  subst hc
  have hFF1 := PH.le_trans hFF0 hF1
  simp only [push_cast, ↓reduceIte, Nat.reduceEqDiff, Nat.reduceAdd, Nat.reduceMul, Nat.reduceSub, Nat.reduceLT, Nat.reduceLeDiff, reduceCtorEq, Nat.reduceMod, Int.reduceEq, Int.reduceLT, Int.reduceLE, Int.reduceToNat, dite_true, h']
  refine VC.loopM (ι := Nat × Ck × PH) (fun i => [(10, .v (.int .i64 i.1)), (8, .v (.slice pn own.length cn)), (4, .o 1 bc 0), (1, .o 0 b1 0)]) (fun i => [⟨0, b1, 25, [.slice pd ds.length cd, .slice pb bs.length cb]⟩, ⟨1, bc, 126, ckCells (.slice pd ds.length cd) (.slice pb bs.length cb) i.2.1⟩]) (fun i => i.2.2) (fun i => i.1 ≤ bs.length ∧ F1.le i.2.2 ∧ i.2.1 = bindsC ds (bs.take i.1) own (dupC [] bs c0)) (fun i => bs.length - i.1) (0, _, F1) ⟨Nat.zero_le _, PH.le_refl _, by simp [bindsC]⟩ (by simp [subk, Eng.look]) (List.Sublist.refl _) rfl ?_
  rintro ⟨j, c3, F3⟩ ⟨hj, hF3, hc3⟩ G2 hG2
  dsimp only at hj hF3 hc3 hG2 ⊢
  refine VC.go 100 ?_
  have hFF3 := PH.le_trans hFF1 hF3
  by_cases h : j < bs.length
  case pos =>
    have h' : (j : Int) < (bs.length : Int) := by omega
    have h0 : (0 : Int) ≤ (j : Int) := by omega
    obtain ⟨q, _, cs, eq, _, _, kl, kr⟩ := (hb'.mono (R' := RBind F3) hFF3 (fun _ _ _ h => h.mono hFF3)).elem (by decide) (i := j) (a := bs[j]) (List.getElem?_eq_getElem h) (fun _ _ h => h.len)
    cases eq
    have hsm := sizeBs_mem2 bs j h
    have hse := bsize_eq bs[j]
    have ht : bindsC ds (bs.take (j + 1)) own (dupC [] bs c0) = formC ds bs[j] own c3 := by rw [List.take_succ_eq_append_getElem h, bindsC_snoc, hc3]
    have e2 : IntKind.i64.wrap ((j : Int) + 1) = ((j + 1 : Nat) : Int) := wadd j h (Nat.le_trans hb1 hb2)
    obtain ⟨bd, hbk⟩ : ∃ bd, bd = bs[j] := ⟨_, rfl⟩
    rw [← hbk] at hsm hse ht kr
    obtain ⟨wv, cc, rfl, hwv, hcc⟩ := RBind_iff.1 kr
    obtain ⟨xa, xb, xe, xl, rfl, hx⟩ := RExp_iff.1 hcc
    have hwv' := hwv
    obtain ⟨pv, cv, rfl, _, _, _⟩ := hwv
    have hx' := hx
    obtain ⟨_, _, _, _, _, _, _, _, rfl, rfl, rfl, rfl⟩ := hx.slices
    simp only [push_cast, ↓reduceIte, Nat.reduceEqDiff, Nat.reduceAdd, Nat.reduceMul, Nat.reduceSub, Nat.reduceLT, Nat.reduceLeDiff, reduceCtorEq, Nat.reduceMod, Int.reduceEq, Int.reduceLT, Int.reduceLE, Int.reduceToNat, dite_true, h', h0, kl]
    refine CallV.own (i := 1) rfl (formF ds bd (exp_all ds _ _ rfl) F3 bc _ _ _ _ _ _ _ _ c3 own hwv' hx' (hown'.mono (PH.le_trans hF1 hF3)) (hd'.mono' hFF3) rfl (by omega)) ?_
    rintro _ F4 _ hF4 rfl
    simp only [push_cast, ↓reduceIte, Nat.reduceEqDiff, Nat.reduceAdd, Nat.reduceMul, Nat.reduceSub, Nat.reduceLT, Nat.reduceLeDiff, reduceCtorEq, Nat.reduceMod, Int.reduceEq, Int.reduceLT, Int.reduceLE, Int.reduceToNat, dite_true, e2]
    exact hG2 (j + 1, formC ds bd own c3, F4) _ ⟨by simp; omega, PH.le_trans hF3 hF4, by rw [ht]⟩ (by simp; omega) (by simp [subk, Eng.look]) (List.Sublist.refl _) rfl rfl
  have h' : ¬ (j : Int) < (bs.length : Int) := by omega
  rw [List.take_of_length_le (by omega)] at hc3
  subst hc3
  simp only [push_cast, ↓reduceIte, Nat.reduceEqDiff, Nat.reduceAdd, Nat.reduceMul, Nat.reduceSub, Nat.reduceLT, Nat.reduceLeDiff, reduceCtorEq, Nat.reduceMod, Int.reduceEq, Int.reduceLT, Int.reduceLE, Int.reduceToNat, dite_true, h']
  refine CallV.pure (has F3 _ own mainB (hown'.mono (PH.le_trans hF1 hF3))) ?_
  rintro _ F4 hF4 rfl
  cases hh : hasB own mainB with
  | true =>
    simp only [push_cast, ↓reduceIte, Nat.reduceEqDiff, Nat.reduceAdd, Nat.reduceMul, Nat.reduceSub, Nat.reduceLT, Nat.reduceLeDiff, reduceCtorEq, Nat.reduceMod, Int.reduceEq, Int.reduceLT, Int.reduceLE, Int.reduceToNat, dite_true]
    refine VC.draw (.q 0 (.q 1 (.q 2 (.q 3 (.q 4 (.q 5 (.q 6 (.q 7 (.q 8 (.q 9 (.done))))))))))) mixed (by rfl) ?_
    simp only [push_cast, ↓reduceIte, Nat.reduceEqDiff, Nat.reduceAdd, Nat.reduceMul, Nat.reduceSub, Nat.reduceLT, Nat.reduceLeDiff, reduceCtorEq, Nat.reduceMod, Int.reduceEq, Int.reduceLT, Int.reduceLE, Int.reduceToNat, dite_true]
    refine VC.go 100 ?_
    simp only [push_cast, ↓reduceIte, Nat.reduceEqDiff, Nat.reduceAdd, Nat.reduceMul, Nat.reduceSub, Nat.reduceLT, Nat.reduceLeDiff, reduceCtorEq, Nat.reduceMod, Int.reduceEq, Int.reduceLT, Int.reduceLE, Int.reduceToNat, dite_true]
    refine RetOk.p rfl ?_
    rw [← hr, whenC, hh, if_neg (by simp)]
    rfl
  | false =>
    simp only [push_cast, ↓reduceIte, Nat.reduceEqDiff, Nat.reduceAdd, Nat.reduceMul, Nat.reduceSub, Nat.reduceLT, Nat.reduceLeDiff, reduceCtorEq, Nat.reduceMod, Int.reduceEq, Int.reduceLT, Int.reduceLE, Int.reduceToNat, dite_true]
    refine CallV.own (i := 1) rfl (fail F4 bc _ _ (bindsC ds bs own (dupC [] bs c0)) 0 36) ?_
    rintro _ F5 _ hF5 rfl
    simp only [push_cast, ↓reduceIte, Nat.reduceEqDiff, Nat.reduceAdd, Nat.reduceMul, Nat.reduceSub, Nat.reduceLT, Nat.reduceLeDiff, reduceCtorEq, Nat.reduceMod, Int.reduceEq, Int.reduceLT, Int.reduceLE, Int.reduceToNat, dite_true]
    refine VC.draw (.q 0 (.q 1 (.q 2 (.q 3 (.q 4 (.q 5 (.q 6 (.q 7 (.q 8 (.q 9 (.done))))))))))) mixed (by rfl) ?_
    simp only [push_cast, ↓reduceIte, Nat.reduceEqDiff, Nat.reduceAdd, Nat.reduceMul, Nat.reduceSub, Nat.reduceLT, Nat.reduceLeDiff, reduceCtorEq, Nat.reduceMod, Int.reduceEq, Int.reduceLT, Int.reduceLE, Int.reduceToNat, dite_true]
    refine VC.go 100 ?_
    simp only [push_cast, ↓reduceIte, Nat.reduceEqDiff, Nat.reduceAdd, Nat.reduceMul, Nat.reduceSub, Nat.reduceLT, Nat.reduceLeDiff, reduceCtorEq, Nat.reduceMod, Int.reduceEq, Int.reduceLT, Int.reduceLE, Int.reduceToNat, dite_true]
    refine RetOk.p rfl ?_
    rw [← hr, whenC, hh, if_pos rfl]
    rfl
end Go.Proofs.YtoepmdbicdoieaaDoor.K
