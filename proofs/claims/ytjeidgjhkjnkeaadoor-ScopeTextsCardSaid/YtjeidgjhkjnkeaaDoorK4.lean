/- The document's checker: its walk over lets. (Written by gen/k4.py.) -/
import Derived.Test.YtjeidgjhkjnkeaaDoorK3
namespace Go.Proofs.YtjeidgjhkjnkeaaDoor.K
open Go Go.Eng Go.Proofs Go.Proofs.YtjeidgjhkjnkeaaDoor.T
set_option linter.unusedSimpArgs false
set_option linter.unusedVariables false
set_option maxRecDepth 100000
set_option maxHeartbeats 4000000
def letC (ds : List Dat) (e : Exp) (inn : List ByteArray) (c : Ck) : Ck := if e.binds.length = 0 ∨ e.kids.length = 0 then failC c e.at_ 2 else kidC ds e.kids (inn ++ e.binds.map Bind.name) (bindsC ds e.binds (inn ++ e.binds.map Bind.name) (dupC [] e.binds c))
theorem letF (ds : List Dat) (e : Exp) (ih : ∀ e' : Exp, e'.size < e.size → ExpK ds e') (F : PH) (b : Nat) (vd vb vin va w1 we wl : Value) (c : Ck) (inn : List ByteArray) (hX : ExpAt F e va w1 we wl) (hi : Strs F vin inn) (hd : Dats F vd ds) (hb : vb.oneCell' = true) (hs : inn.length + e.size ≤ 100000000) :
    ChkFn 54 [.agg (expCells e va w1 we wl).toArray, vin] F b vd vb c (letC ds e inn c) := by
  have hX' := hX
  have hsz := size_eq e
  have hbn := sizeBs_count e.binds
  have hbinds := hX.binds
  have hkids := hX.kids
  obtain ⟨pa, ca, pb, cb, pe, ce, pl, cl, rfl, rfl, rfl, rfl⟩ := hX.slices
  obtain ⟨_, _, eb, hb1, hb2⟩ := hbinds.val
  cases eb
  have hd' := hd
  obtain ⟨pd, cd, rfl, _, _⟩ := hd.val
  generalize hr : letC ds e inn c = r
  unfold letC at hr
  refine OFn.intro (n := 86) (ts := []) Tryd.func54 rfl rfl rfl rfl (by simp) fun B hB => VC.go 100 ?_
  by_cases g1 : e.binds.length = 0
  · have g1' : (e.binds.length : Int) = 0 := by omega
    simp only [push_cast, ↓reduceIte, Nat.reduceEqDiff, Nat.reduceAdd, Nat.reduceMul, Nat.reduceSub, Nat.reduceLT, Nat.reduceLeDiff, reduceCtorEq, Nat.reduceMod, Int.reduceEq, Int.reduceLT, Int.reduceLE, Int.reduceToNat, dite_true, eq_true g1', hb]
    intro bx
    refine CallV.own (i := 0) rfl (fail F b _ vb _ e.at_ 2) ?_
    rintro _ F2 _ hF2 rfl
    simp only [push_cast, ↓reduceIte, Nat.reduceEqDiff, Nat.reduceAdd, Nat.reduceMul, Nat.reduceSub, Nat.reduceLT, Nat.reduceLeDiff, reduceCtorEq, Nat.reduceMod, Int.reduceEq, Int.reduceLT, Int.reduceLE, Int.reduceToNat, dite_true]
    rw [if_pos (.inl g1)] at hr
    subst hr
    exact chk_ret rfl
  have g1' : ¬ (e.binds.length : Int) = 0 := by omega
  by_cases g2 : e.kids.length = 0
  · have g2' : (e.kids.length : Int) = 0 := by omega
    simp only [push_cast, ↓reduceIte, Nat.reduceEqDiff, Nat.reduceAdd, Nat.reduceMul, Nat.reduceSub, Nat.reduceLT, Nat.reduceLeDiff, reduceCtorEq, Nat.reduceMod, Int.reduceEq, Int.reduceLT, Int.reduceLE, Int.reduceToNat, dite_true, g1', eq_true g2', hb]
    intro bx
    refine CallV.own (i := 0) rfl (fail F b _ vb _ e.at_ 2) ?_
    rintro _ F2 _ hF2 rfl
    simp only [push_cast, ↓reduceIte, Nat.reduceEqDiff, Nat.reduceAdd, Nat.reduceMul, Nat.reduceSub, Nat.reduceLT, Nat.reduceLeDiff, reduceCtorEq, Nat.reduceMod, Int.reduceEq, Int.reduceLT, Int.reduceLE, Int.reduceToNat, dite_true]
    rw [if_pos (.inr g2)] at hr
    subst hr
    exact chk_ret rfl
  have g2' : ¬ (e.kids.length : Int) = 0 := by omega
  rw [if_neg (by omega)] at hr
  simp only [push_cast, ↓reduceIte, Nat.reduceEqDiff, Nat.reduceAdd, Nat.reduceMul, Nat.reduceSub, Nat.reduceLT, Nat.reduceLeDiff, reduceCtorEq, Nat.reduceMod, Int.reduceEq, Int.reduceLT, Int.reduceLE, Int.reduceToNat, dite_true, g1', g2', hb]
  intro bx
  refine CallV.sl (namesF F _ e.binds hbinds (by omega)) ?_
  intro v0 F0 m0 hF0 hm0 hv0
  have hown := sl_strs hm0 hv0
  clear hm0 hv0
  obtain ⟨own, ho⟩ : ∃ own, own = e.binds.map Bind.name := ⟨_, rfl⟩
  rw [← ho] at hown hr
  have hol : own.length = e.binds.length := by rw [ho]; simp
  have hown' := hown
  obtain ⟨pn, cn, rfl, hn1, hn2, hn3⟩ := hown
  simp only [push_cast, ↓reduceIte, Nat.reduceEqDiff, Nat.reduceAdd, Nat.reduceMul, Nat.reduceSub, Nat.reduceLT, Nat.reduceLeDiff, reduceCtorEq, Nat.reduceMod, Int.reduceEq, Int.reduceLT, Int.reduceLE, Int.reduceToNat, dite_true]
  refine VC.loopM (ι := Nat × Ck × PH) (fun i => [(7, .v (.int .i64 i.1)), (6, .v (.slice pn own.length cn)), (4, .o 1 bx 0), (2, .v vin), (0, .o 0 b 0)]) (fun i => [⟨0, b, 68, ckCells (.slice pd ds.length cd) vb i.2.1⟩, ⟨1, bx, 42, expCells e (.slice pa e.atoms.length ca) (.slice pb e.binds.length cb) (.slice pe e.kids.length ce) (.slice pl e.alts.length cl)⟩]) (fun i => i.2.2) (fun i => i.1 ≤ own.length ∧ F0.le i.2.2 ∧ i.2.1 = dupC [] (e.binds.take i.1) c) (fun i => own.length - i.1) (0, c, F0) ⟨Nat.zero_le _, PH.le_refl _, rfl⟩ (by simp [subk, Eng.look]) (List.Sublist.refl _) rfl ?_
  rintro ⟨k, c1, F1⟩ ⟨hk, hF1, hc⟩ G hG
  dsimp only at hk hF1 hc hG ⊢
  refine VC.go 100 ?_
  by_cases h : k < own.length
  case pos =>
    have h' : (k : Int) < (own.length : Int) := by omega
    have h0 : (0 : Int) ≤ (k : Int) := by omega
    have h2 : (k : Int) < (own.length : Int) := by omega
    have h3 : (k : Int) ≤ (cn : Int) := by omega
    have h4 : ¬ cn = 0 := by omega
    have h5 : k < e.binds.length := by omega
    have h6 : (k : Int) < (e.binds.length : Int) := by omega
    obtain ⟨qa, rfl, hqa⟩ := (hn3.mono hF1).elem1 (i := k) (v := .string own[k]) (by simp [h])
    have hFF1 := PH.le_trans hF0 hF1
    obtain ⟨q, _, cs, eq, _, _, kl, kr⟩ := (hbinds.mono (R' := RBind F1) hFF1 (fun _ _ _ h => h.mono hFF1)).elem (by decide) (i := k) (a := e.binds[k]) (List.getElem?_eq_getElem h5) (fun _ _ h => h.len)
    cases eq
    obtain ⟨wv, cc, rfl, _, _⟩ := RBind_iff.1 kr
    have kc := cell_at kl (o := 1) rfl
    have e2 : IntKind.i64.wrap ((k : Int) + 1) = ((k + 1 : Nat) : Int) := wadd k h (Nat.le_trans hn1 hn2)
    have hnk : (e.binds[k]).name = own[k] := by subst ho; simp
    have hpk : [] ++ (e.binds.take k).map Bind.name = own.take k := by subst ho; simp [List.map_take]
    have ht : dupC [] (e.binds.take (k + 1)) c = stepD ([] ++ (e.binds.take k).map Bind.name) e.binds[k] c1 := by rw [List.take_succ_eq_append_getElem h5, dupC_snoc, hc]
    by_cases g : own[k] = ⟨#[]⟩
    · simp only [push_cast, ↓reduceIte, Nat.reduceEqDiff, Nat.reduceAdd, Nat.reduceMul, Nat.reduceSub, Nat.reduceLT, Nat.reduceLeDiff, reduceCtorEq, Nat.reduceMod, Int.reduceEq, Int.reduceLT, Int.reduceLE, Int.reduceToNat, dite_true, h', h0, hqa, eq_true g, h6, kc, hb]
      refine CallV.own (i := 0) rfl (fail F1 b _ vb c1 (e.binds[k]).at_ 31) ?_
      rintro _ Fx _ hFx rfl
      simp only [push_cast, ↓reduceIte, Nat.reduceEqDiff, Nat.reduceAdd, Nat.reduceMul, Nat.reduceSub, Nat.reduceLT, Nat.reduceLeDiff, reduceCtorEq, Nat.reduceMod, Int.reduceEq, Int.reduceLT, Int.reduceLE, Int.reduceToNat, dite_true, hb]
      refine VC.draw (.q 0 (.q 1 (.q 2 (.q 3 (.q 4 (.q 5 (.q 6 (.e 7 (.done))))))))) mixed (by rfl) ?_
      simp only [push_cast, ↓reduceIte, Nat.reduceEqDiff, Nat.reduceAdd, Nat.reduceMul, Nat.reduceSub, Nat.reduceLT, Nat.reduceLeDiff, reduceCtorEq, Nat.reduceMod, Int.reduceEq, Int.reduceLT, Int.reduceLE, Int.reduceToNat, dite_true, h0, h2, h3, h4, (hFx).cell hqa, Nat.zero_mul, Nat.sub_zero, Option.map_some, add_zero']
      refine CallV.pure (has Fx _ (own.take k) own[k] (strs_take (hown'.mono (PH.le_trans hF1 (hFx))) (by omega))) ?_
      rintro _ Fy hFy rfl
      cases hh : hasB (own.take k) own[k] with
      | true =>
        simp only [push_cast, ↓reduceIte, Nat.reduceEqDiff, Nat.reduceAdd, Nat.reduceMul, Nat.reduceSub, Nat.reduceLT, Nat.reduceLeDiff, reduceCtorEq, Nat.reduceMod, Int.reduceEq, Int.reduceLT, Int.reduceLE, Int.reduceToNat, dite_true]
        refine VC.go 100 ?_
        simp only [push_cast, ↓reduceIte, Nat.reduceEqDiff, Nat.reduceAdd, Nat.reduceMul, Nat.reduceSub, Nat.reduceLT, Nat.reduceLeDiff, reduceCtorEq, Nat.reduceMod, Int.reduceEq, Int.reduceLT, Int.reduceLE, Int.reduceToNat, dite_true, h0, h6, (PH.le_trans (hFx) hFy).cell kc]
        refine CallV.own (i := 0) rfl (fail Fy b _ vb _ (e.binds[k]).at_ 30) ?_
        rintro _ Fz _ hFz rfl
        simp only [push_cast, ↓reduceIte, Nat.reduceEqDiff, Nat.reduceAdd, Nat.reduceMul, Nat.reduceSub, Nat.reduceLT, Nat.reduceLeDiff, reduceCtorEq, Nat.reduceMod, Int.reduceEq, Int.reduceLT, Int.reduceLE, Int.reduceToNat, dite_true, e2]
        exact hG (k + 1, failC (failC c1 (e.binds[k]).at_ 31) (e.binds[k]).at_ 30, Fz) _ ⟨by simp; omega, PH.le_trans hF1 (PH.le_trans (hFx) (PH.le_trans hFy hFz)), by rw [ht]; simp only [stepD, whenC, hnk, hpk]; rw [hh, if_pos rfl, if_pos g]⟩ (by simp; omega) (by simp [subk, Eng.look]) (List.Sublist.refl _) rfl rfl
      | false =>
        simp only [push_cast, ↓reduceIte, Nat.reduceEqDiff, Nat.reduceAdd, Nat.reduceMul, Nat.reduceSub, Nat.reduceLT, Nat.reduceLeDiff, reduceCtorEq, Nat.reduceMod, Int.reduceEq, Int.reduceLT, Int.reduceLE, Int.reduceToNat, dite_true]
        refine VC.go 100 ?_
        simp only [push_cast, ↓reduceIte, Nat.reduceEqDiff, Nat.reduceAdd, Nat.reduceMul, Nat.reduceSub, Nat.reduceLT, Nat.reduceLeDiff, reduceCtorEq, Nat.reduceMod, Int.reduceEq, Int.reduceLT, Int.reduceLE, Int.reduceToNat, dite_true, e2]
        exact hG (k + 1, failC c1 (e.binds[k]).at_ 31, Fy) _ ⟨by simp; omega, PH.le_trans hF1 (PH.le_trans (hFx) hFy), by rw [ht]; simp only [stepD, whenC, hnk, hpk]; rw [hh, if_neg Bool.false_ne_true, if_pos g]⟩ (by simp; omega) (by simp [subk, Eng.look]) (List.Sublist.refl _) rfl rfl
    · simp only [push_cast, ↓reduceIte, Nat.reduceEqDiff, Nat.reduceAdd, Nat.reduceMul, Nat.reduceSub, Nat.reduceLT, Nat.reduceLeDiff, reduceCtorEq, Nat.reduceMod, Int.reduceEq, Int.reduceLT, Int.reduceLE, Int.reduceToNat, dite_true, h', h0, hqa, g, h6, hb]
      refine VC.draw (.q 0 (.q 1 (.q 2 (.q 3 (.q 4 (.q 5 (.q 6 (.e 7 (.done))))))))) mixed (by rfl) ?_
      simp only [push_cast, ↓reduceIte, Nat.reduceEqDiff, Nat.reduceAdd, Nat.reduceMul, Nat.reduceSub, Nat.reduceLT, Nat.reduceLeDiff, reduceCtorEq, Nat.reduceMod, Int.reduceEq, Int.reduceLT, Int.reduceLE, Int.reduceToNat, dite_true, h0, h2, h3, h4, (PH.le_refl F1).cell hqa, Nat.zero_mul, Nat.sub_zero, Option.map_some, add_zero']
      refine CallV.pure (has F1 _ (own.take k) own[k] (strs_take (hown'.mono (PH.le_trans hF1 (PH.le_refl F1))) (by omega))) ?_
      rintro _ Fy hFy rfl
      cases hh : hasB (own.take k) own[k] with
      | true =>
        simp only [push_cast, ↓reduceIte, Nat.reduceEqDiff, Nat.reduceAdd, Nat.reduceMul, Nat.reduceSub, Nat.reduceLT, Nat.reduceLeDiff, reduceCtorEq, Nat.reduceMod, Int.reduceEq, Int.reduceLT, Int.reduceLE, Int.reduceToNat, dite_true]
        refine VC.go 100 ?_
        simp only [push_cast, ↓reduceIte, Nat.reduceEqDiff, Nat.reduceAdd, Nat.reduceMul, Nat.reduceSub, Nat.reduceLT, Nat.reduceLeDiff, reduceCtorEq, Nat.reduceMod, Int.reduceEq, Int.reduceLT, Int.reduceLE, Int.reduceToNat, dite_true, h0, h6, (PH.le_trans (PH.le_refl F1) hFy).cell kc]
        refine CallV.own (i := 0) rfl (fail Fy b _ vb _ (e.binds[k]).at_ 30) ?_
        rintro _ Fz _ hFz rfl
        simp only [push_cast, ↓reduceIte, Nat.reduceEqDiff, Nat.reduceAdd, Nat.reduceMul, Nat.reduceSub, Nat.reduceLT, Nat.reduceLeDiff, reduceCtorEq, Nat.reduceMod, Int.reduceEq, Int.reduceLT, Int.reduceLE, Int.reduceToNat, dite_true, e2]
        exact hG (k + 1, failC (c1) (e.binds[k]).at_ 30, Fz) _ ⟨by simp; omega, PH.le_trans hF1 (PH.le_trans (PH.le_refl F1) (PH.le_trans hFy hFz)), by rw [ht]; simp only [stepD, whenC, hnk, hpk]; rw [hh, if_pos rfl, if_neg g]⟩ (by simp; omega) (by simp [subk, Eng.look]) (List.Sublist.refl _) rfl rfl
      | false =>
        simp only [push_cast, ↓reduceIte, Nat.reduceEqDiff, Nat.reduceAdd, Nat.reduceMul, Nat.reduceSub, Nat.reduceLT, Nat.reduceLeDiff, reduceCtorEq, Nat.reduceMod, Int.reduceEq, Int.reduceLT, Int.reduceLE, Int.reduceToNat, dite_true]
        refine VC.go 100 ?_
        simp only [push_cast, ↓reduceIte, Nat.reduceEqDiff, Nat.reduceAdd, Nat.reduceMul, Nat.reduceSub, Nat.reduceLT, Nat.reduceLeDiff, reduceCtorEq, Nat.reduceMod, Int.reduceEq, Int.reduceLT, Int.reduceLE, Int.reduceToNat, dite_true, e2]
        exact hG (k + 1, c1, Fy) _ ⟨by simp; omega, PH.le_trans hF1 (PH.le_trans (PH.le_refl F1) hFy), by rw [ht]; simp only [stepD, whenC, hnk, hpk]; rw [hh, if_neg Bool.false_ne_true, if_neg g]⟩ (by simp; omega) (by simp [subk, Eng.look]) (List.Sublist.refl _) rfl rfl
  have h' : ¬ (k : Int) < (own.length : Int) := by omega
  rw [List.take_of_length_le (by omega)] at hc
  subst hc
  have hFF1 := PH.le_trans hF0 hF1
  simp only [push_cast, ↓reduceIte, Nat.reduceEqDiff, Nat.reduceAdd, Nat.reduceMul, Nat.reduceSub, Nat.reduceLT, Nat.reduceLeDiff, reduceCtorEq, Nat.reduceMod, Int.reduceEq, Int.reduceLT, Int.reduceLE, Int.reduceToNat, dite_true, h', hb]
  refine CallV.sl (withs F1 _ _ inn own (hi.mono hFF1) (hown'.mono hF1) (by omega)) ?_
  intro v2 F2 m2 hF2 hm2 hv2
  have hin := sl_strs hm2 hv2
  have hil : (inn ++ own).length = inn.length + e.binds.length := by simp [hol]
  simp only [push_cast, ↓reduceIte, Nat.reduceEqDiff, Nat.reduceAdd, Nat.reduceMul, Nat.reduceSub, Nat.reduceLT, Nat.reduceLeDiff, reduceCtorEq, Nat.reduceMod, Int.reduceEq, Int.reduceLT, Int.reduceLE, Int.reduceToNat, dite_true]
  refine VC.loopM (ι := Nat × Ck × PH) (fun i => [(8, .v (.int .i64 i.1)), (4, .o 1 bx 0), (2, .v v2), (0, .o 0 b 0)]) (fun i => [⟨0, b, 68, ckCells (.slice pd ds.length cd) vb i.2.1⟩, ⟨1, bx, 42, expCells e (.slice pa e.atoms.length ca) (.slice pb e.binds.length cb) (.slice pe e.kids.length ce) (.slice pl e.alts.length cl)⟩]) (fun i => i.2.2) (fun i => i.1 ≤ e.binds.length ∧ F2.le i.2.2 ∧ i.2.1 = bindsC ds (e.binds.take i.1) (inn ++ own) (dupC [] e.binds c)) (fun i => e.binds.length - i.1) (0, _, F2) ⟨Nat.zero_le _, PH.le_refl _, by simp [bindsC]⟩ (by simp [subk, Eng.look]) (List.Sublist.refl _) rfl ?_
  rintro ⟨j, c3, F3⟩ ⟨hj, hF3, hc3⟩ G2 hG2
  dsimp only at hj hF3 hc3 hG2 ⊢
  refine VC.go 100 ?_
  have hFF3 := PH.le_trans hFF1 (PH.le_trans hF2 hF3)
  by_cases h : j < e.binds.length
  case pos =>
    have h' : (j : Int) < (e.binds.length : Int) := by omega
    have h0 : (0 : Int) ≤ (j : Int) := by omega
    obtain ⟨q, _, cs, eq, _, _, kl, kr⟩ := (hbinds.mono (R' := RBind F3) hFF3 (fun _ _ _ h => h.mono hFF3)).elem (by decide) (i := j) (a := e.binds[j]) (List.getElem?_eq_getElem h) (fun _ _ h => h.len)
    cases eq
    have hmem : e.binds[j] ∈ e.binds := List.getElem_mem h
    have hsm := sizeBs_mem2 e.binds j h
    have hse := bsize_eq e.binds[j]
    have ht : bindsC ds (e.binds.take (j + 1)) (inn ++ own) (dupC [] e.binds c) = formC ds e.binds[j] (inn ++ own) c3 := by rw [List.take_succ_eq_append_getElem h, bindsC_snoc, hc3]
    have e2 : IntKind.i64.wrap ((j : Int) + 1) = ((j + 1 : Nat) : Int) := wadd j h (Nat.le_trans hb1 hb2)
    generalize hbk : e.binds[j] = bd at *
    obtain ⟨wv, cc, rfl, hwv, hcc⟩ := RBind_iff.1 kr
    obtain ⟨xa, xb, xe, xl, rfl, hx⟩ := RExp_iff.1 hcc
    have hwv' := hwv
    obtain ⟨pv, cv, rfl, _, _, _⟩ := hwv
    have hx' := hx
    obtain ⟨_, _, _, _, _, _, _, _, rfl, rfl, rfl, rfl⟩ := hx.slices
    simp only [push_cast, ↓reduceIte, Nat.reduceEqDiff, Nat.reduceAdd, Nat.reduceMul, Nat.reduceSub, Nat.reduceLT, Nat.reduceLeDiff, reduceCtorEq, Nat.reduceMod, Int.reduceEq, Int.reduceLT, Int.reduceLE, Int.reduceToNat, dite_true, h', h0, kl, hb]
    refine CallV.own (i := 0) rfl (formF ds bd (ih bd.body (by omega)) F3 b _ vb _ _ _ _ _ _ c3 (inn ++ own) hwv' hx' (hin.mono hF3) (hd'.mono' hFF3) hb (by rw [hil]; omega)) ?_
    rintro _ F4 _ hF4 rfl
    simp only [push_cast, ↓reduceIte, Nat.reduceEqDiff, Nat.reduceAdd, Nat.reduceMul, Nat.reduceSub, Nat.reduceLT, Nat.reduceLeDiff, reduceCtorEq, Nat.reduceMod, Int.reduceEq, Int.reduceLT, Int.reduceLE, Int.reduceToNat, dite_true, e2]
    exact hG2 (j + 1, _, F4) _ ⟨by simp; omega, PH.le_trans hF3 hF4, by rw [ht]⟩ (by simp; omega) (by simp [subk, Eng.look]) (List.Sublist.refl _) rfl rfl
  have h' : ¬ (j : Int) < (e.binds.length : Int) := by omega
  rw [List.take_of_length_le (by omega)] at hc3
  subst hc3
  obtain ⟨kd, ks, hks⟩ : ∃ kd ks, e.kids = kd :: ks := by
    cases hk : e.kids with
    | nil => rw [hk] at g2; simp at g2
    | cons a l => exact ⟨a, l, rfl⟩
  obtain ⟨q, _, cs, eq, _, _, kl, kr⟩ := (hkids.mono (R' := RExp F3) hFF3 (fun _ _ _ h => h.mono hFF3)).elem (by decide) (i := 0) (a := kd) (by rw [hks]; rfl) (fun _ _ h => h.len)
  cases eq
  obtain ⟨xa, xb, xe, xl, rfl, hx⟩ := RExp_iff.1 kr
  have hx' := hx
  obtain ⟨_, _, _, _, _, _, _, _, rfl, rfl, rfl, rfl⟩ := hx.slices
  rw [Nat.zero_mul] at kl
  have g3 : (0 : Int) < (e.kids.length : Int) := by omega
  have hsm := sizeEs_mem (e := kd) (l := e.kids) (by rw [hks]; exact List.mem_cons_self)
  simp only [push_cast, ↓reduceIte, Nat.reduceEqDiff, Nat.reduceAdd, Nat.reduceMul, Nat.reduceSub, Nat.reduceLT, Nat.reduceLeDiff, reduceCtorEq, Nat.reduceMod, Int.reduceEq, Int.reduceLT, Int.reduceLE, Int.reduceToNat, dite_true, h', g3, Nat.zero_mul, kl, hb]
  refine CallV.own (i := 0) rfl (ih kd (by omega) F3 b _ vb _ _ _ _ _ _ (inn ++ own) hx' (hin.mono hF3) (hd'.mono' hFF3) hb (by rw [hil]; omega)) ?_
  rintro _ F4 _ hF4 rfl
  simp only [push_cast, ↓reduceIte, Nat.reduceEqDiff, Nat.reduceAdd, Nat.reduceMul, Nat.reduceSub, Nat.reduceLT, Nat.reduceLeDiff, reduceCtorEq, Nat.reduceMod, Int.reduceEq, Int.reduceLT, Int.reduceLE, Int.reduceToNat, dite_true]
  rw [hks] at hr
  simp only [kidC] at hr
  subst hr
  exact chk_ret rfl
end Go.Proofs.YtjeidgjhkjnkeaaDoor.K
