/- My texts P5 P6 P7 P8, in one. -/
import Derived.Test.YtoepmdbicdoieaaDoorPA
import Derived.Test.YtoepmdbicdoieaaDoorKB
/- Package scope: lets. (Written by gen/p5.py.) -/
namespace Go.Proofs.YtoepmdbicdoieaaDoor.P
open Go Go.Eng Go.Proofs Go.Proofs.YtoepmdbicdoieaaDoor.T Go.Proofs.YtoepmdbicdoieaaDoor.K
set_option linter.unusedSimpArgs false
set_option linter.unusedVariables false
set_option maxRecDepth 100000
set_option maxHeartbeats 8000000
theorem let_ (ds : List Dat) (e : Exp) (ih : ∀ e' : Exp, e'.size < e.size → ExpS ds e') (F : PH) (b mb : Nat) (v vs va w1 we wl : Value) (c : Ck) (inn : List ByteArray) (hr : RepC F c v) (hX : ExpAt F e va w1 we wl) (hs : ScpL F vs inn) (hd : Cons F mb ds) (hT : Table F) (hsz : inn.length + e.size ≤ 100000000) :
    SFn 107 [.agg (expCells e va w1 we wl).toArray, vs] F b mb v (letC ds e inn c) := by
  have hX' := hX
  have hse0 := size_eq e
  have hbn := sizeBs_count e.binds
  have hbinds := hX.binds
  have hkids := hX.kids
  obtain ⟨pa, ca, pb, cb, pe, ce, pl, cl, rfl, rfl, rfl, rfl⟩ := hX.slices
  obtain ⟨_, _, eb, hb1, hb2⟩ := hbinds.val
  cases eb
  have hone := hr.one
  obtain ⟨ps, rfl⟩ := hs.ptr
  generalize hres : letC ds e inn c = res
  unfold letC at hres
  refine OFn.intro (n := 90) (ts := []) Tryd.func107 rfl rfl rfl rfl (by simp) fun B hB => ?_
  by_cases g1 : e.binds.length = 0
  · have g1' : (e.binds.length : Int) = 0 := by omega
    refine VC.go 100 ?_
    simp only [push_cast, ↓reduceIte, Nat.reduceEqDiff, Nat.reduceAdd, Nat.reduceMul, Nat.reduceSub, Nat.reduceLT, Nat.reduceLeDiff, reduceCtorEq, Nat.reduceMod, Int.reduceEq, Int.reduceLT, Int.reduceLE, Int.reduceToNat, dite_true, eq_true g1', hone]
    intro bx
    refine CallV.own (i := 0) rfl (fail F b mb v c e.at_ 2 hr) ?_
    rintro _ F2 _ hF2 ⟨v2, rfl, hr2⟩
    simp only [push_cast, ↓reduceIte, Nat.reduceEqDiff, Nat.reduceAdd, Nat.reduceMul, Nat.reduceSub, Nat.reduceLT, Nat.reduceLeDiff, reduceCtorEq, Nat.reduceMod, Int.reduceEq, Int.reduceLT, Int.reduceLE, Int.reduceToNat, dite_true]
    rw [if_pos (.inl g1)] at hres
    subst hres
    exact sret rfl hr2
  have g1' : ¬ (e.binds.length : Int) = 0 := by omega
  by_cases g2 : e.kids.length = 0
  · have g2' : (e.kids.length : Int) = 0 := by omega
    refine VC.go 100 ?_
    simp only [push_cast, ↓reduceIte, Nat.reduceEqDiff, Nat.reduceAdd, Nat.reduceMul, Nat.reduceSub, Nat.reduceLT, Nat.reduceLeDiff, reduceCtorEq, Nat.reduceMod, Int.reduceEq, Int.reduceLT, Int.reduceLE, Int.reduceToNat, dite_true, g1', eq_true g2', hone]
    intro bx
    refine CallV.own (i := 0) rfl (fail F b mb v c e.at_ 2 hr) ?_
    rintro _ F2 _ hF2 ⟨v2, rfl, hr2⟩
    simp only [push_cast, ↓reduceIte, Nat.reduceEqDiff, Nat.reduceAdd, Nat.reduceMul, Nat.reduceSub, Nat.reduceLT, Nat.reduceLeDiff, reduceCtorEq, Nat.reduceMod, Int.reduceEq, Int.reduceLT, Int.reduceLE, Int.reduceToNat, dite_true]
    rw [if_pos (.inr g2)] at hres
    subst hres
    exact sret rfl hr2
  have g2' : ¬ (e.kids.length : Int) = 0 := by omega
  rw [if_neg (by omega)] at hres
  refine VC.go 10 ?_
  simp only [push_cast, ↓reduceIte, Nat.reduceEqDiff, Nat.reduceAdd, Nat.reduceMul, Nat.reduceSub, Nat.reduceLT, Nat.reduceLeDiff, reduceCtorEq, Nat.reduceMod, Int.reduceEq, Int.reduceLT, Int.reduceLE, Int.reduceToNat, dite_true, g1', g2', hone]
  intro bx b6
  refine VC.freeze (m := ⟨2, b6, 23, [.slice pb e.binds.length cb]⟩) (M := [⟨0, b, 112, [.map (some mb), v]⟩, ⟨1, bx, 49, expCells e (.slice pa e.atoms.length ca) (.slice pb e.binds.length cb) (.slice pe e.kids.length ce) (.slice pl e.alts.length cl)⟩]) (List.perm_middle (l₁ := [_, _]) (l₂ := [])) fun F0 hF0 hb6 => ?_
  refine VC.reL [(6, .v (.pointer (some ⟨b6, 0, none⟩))), (4, .o 1 bx 0), (2, .v (.pointer ps)), (0, .o 0 b 0)] (by simp [subv, Eng.look, AV.val]) ?_
  have hc6 : F0.cell ⟨b6, 0, none⟩ = some (.slice pb e.binds.length cb) := by rw [cell_one hb6]; rfl
  have hr0 := hr.mono hF0
  have hbinds0 : SlE F0 11 (RBind F0) (.slice pb e.binds.length cb) e.binds := hbinds.mono hF0 (fun _ _ _ h => h.mono hF0)
  obtain ⟨own, ho⟩ : ∃ own, own = e.binds.map Bind.name := ⟨_, rfl⟩
  have hol : own.length = e.binds.length := by rw [ho]; simp
  refine VC.go 100 ?_
  simp only [push_cast, ↓reduceIte, Nat.reduceEqDiff, Nat.reduceAdd, Nat.reduceMul, Nat.reduceSub, Nat.reduceLT, Nat.reduceLeDiff, reduceCtorEq, Nat.reduceMod, Int.reduceEq, Int.reduceLT, Int.reduceLE, Int.reduceToNat, dite_true, hc6]
  refine CallV.pure (twice F0 e.binds.length (Nat.le_trans hb1 hb2) _ #[] #[.pointer (some ⟨b6, 0, none⟩)] (fun i k => decide (own.getD i (bs []) = own.getD k (bs []))) fun i k hi hk F' hF' => by
    rw [ho]; exact like_let F' b6 _ e.binds (hF'.cell hc6) (hbinds0.mono hF' (fun _ _ _ h => h.mono hF')) i k hi hk) ?_
  rintro _ F1 hF1 ⟨i, rfl, hdup⟩
  rw [← hol] at hdup
  obtain ⟨d1, d2, d3⟩ := dupAt_twice hdup
  have hFF1 := PH.le_trans hF0 hF1
  simp only [push_cast, ↓reduceIte, Nat.reduceEqDiff, Nat.reduceAdd, Nat.reduceMul, Nat.reduceSub, Nat.reduceLT, Nat.reduceLeDiff, reduceCtorEq, Nat.reduceMod, Int.reduceEq, Int.reduceLT, Int.reduceLE, Int.reduceToNat, dite_true, hF1.cell hc6]
  refine VC.loopM (ι := Nat × Value × Ck × PH) (fun j => [(37, .v (.int .i64 j.1)), (36, .v (.int .i64 e.binds.length)), (35, .v (.slice pb e.binds.length cb)), (7, .v (.int .i64 i)), (6, .v (.pointer (some ⟨b6, 0, none⟩))), (4, .o 1 bx 0), (2, .v (.pointer ps)), (0, .o 0 b 0)]) (fun j => [⟨0, b, 112, [.map (some mb), j.2.1]⟩, ⟨1, bx, 49, expCells e (.slice pa e.atoms.length ca) (.slice pb e.binds.length cb) (.slice pe e.kids.length ce) (.slice pl e.alts.length cl)⟩]) (fun j => j.2.2.2) (fun j => j.1 ≤ e.binds.length ∧ F1.le j.2.2.2 ∧ RepC j.2.2.2 j.2.2.1 j.2.1 ∧ j.2.2.1 = dupC [] (e.binds.take j.1) c ∧ (i < j.1 → j.2.2.1.bad = true)) (fun j => e.binds.length - j.1) (0, v, c, F1) ⟨Nat.zero_le _, PH.le_refl _, hr0.mono hF1, rfl, fun h => absurd h (Nat.not_lt_zero _)⟩ (by simp [subk, Eng.look]) (List.Sublist.refl _) rfl ?_
  clear hr hr0 hone
  rintro ⟨k, v1, c1, F2⟩ ⟨hk, hF2, hr1, hc, hbad⟩ G hG
  dsimp only at hk hF2 hr1 hc hbad hG ⊢
  have hone1 := hr1.one
  have hFF2 := PH.le_trans hFF1 hF2
  refine VC.go 100 ?_
  by_cases h : k < e.binds.length
  case pos =>
    have h' : (k : Int) < (e.binds.length : Int) := by omega
    have h0 : (0 : Int) ≤ (k : Int) := by omega
    have hko : k < own.length := by omega
    obtain ⟨q, _, cs, eq, _, _, kl, kr⟩ := (hbinds.mono (R' := RBind F2) hFF2 (fun _ _ _ h => h.mono hFF2)).elem (by decide) (i := k) (a := e.binds[k]) (List.getElem?_eq_getElem h) (fun _ _ h => h.len)
    cases eq
    obtain ⟨wv, cc, rfl, hwv, hcc⟩ := RBind_iff.1 kr
    obtain ⟨xa, xb, xe, xl, rfl, hx⟩ := RExp_iff.1 hcc
    obtain ⟨pv, cv, rfl, _, _, _⟩ := hwv
    obtain ⟨_, _, _, _, _, _, _, _, rfl, rfl, rfl, rfl⟩ := hx.slices
    have e2 : IntKind.i64.wrap ((k : Int) + 1) = ((k + 1 : Nat) : Int) := wadd k h (Nat.le_trans hb1 hb2)
    have hnk : (e.binds[k]).name = own[k] := by subst ho; simp
    have hpk : [] ++ (e.binds.take k).map Bind.name = own.take k := by subst ho; simp [List.map_take]
    have ht : dupC [] (e.binds.take (k + 1)) c = stepD ([] ++ (e.binds.take k).map Bind.name) e.binds[k] c1 := by rw [List.take_succ_eq_append_getElem h, dupC_snoc, hc]
    have hstep : stepD ([] ++ (e.binds.take k).map Bind.name) e.binds[k] c1 = whenC (k = i) (whenC ((e.binds[k]).name = ⟨#[]⟩) c1 (e.binds[k]).at_ 31) (e.binds[k]).at_ 30 := by
      unfold stepD
      rw [hpk, hnk]
      rcases Nat.lt_trichotomy k i with hlt | heq | hgt
      · have hno : hasB (own.take k) own[k] = false := Bool.eq_false_iff.2 fun hh => by have := (d3 k hko hh).1; omega
        rw [hno]
        simp only [whenC, Bool.false_eq_true, if_false]
        rw [if_neg (show ¬ k = i by omega)]
      · have hyes : hasB (own.take k) own[k] = true := by
          subst heq
          have h5 := (d3 k hko)
          by_cases hh : hasB (own.take k) own[k] = true
          · exact hh
          · obtain ⟨j, hj, hm⟩ := (twiceB_take own []).1 (d2.1 hko)
            have := (d3 j hj (by simpa using hm)).2 hko
            simpa [List.getD, hko] using this
        rw [hyes]
        simp only [whenC, if_true]
        rw [if_pos heq]
      · have hb := hbad hgt
        rw [whenC_bad (c := c1) hb, whenC_bad hb, whenC_bad hb]
    by_cases g : (e.binds[k]).name = ⟨#[]⟩
    · simp only [push_cast, ↓reduceIte, Nat.reduceEqDiff, Nat.reduceAdd, Nat.reduceMul, Nat.reduceSub, Nat.reduceLT, Nat.reduceLeDiff, reduceCtorEq, Nat.reduceMod, Int.reduceEq, Int.reduceLT, Int.reduceLE, Int.reduceToNat, dite_true, h', h0, kl, eq_true g, hone1]
      intro b9
      refine CallV.own (i := 0) rfl (fail F2 b mb v1 c1 (e.binds[k]).at_ 31 hr1) ?_
      rintro _ Fx _ hFx ⟨vx, rfl, hrx⟩
      have honex := hrx.one
      by_cases gi : k = i
      · have gi' : (k : Int) = (i : Int) := by omega
        simp only [push_cast, ↓reduceIte, Nat.reduceEqDiff, Nat.reduceAdd, Nat.reduceMul, Nat.reduceSub, Nat.reduceLT, Nat.reduceLeDiff, reduceCtorEq, Nat.reduceMod, Int.reduceEq, Int.reduceLT, Int.reduceLE, Int.reduceToNat, dite_true, eq_true gi', honex]
        refine CallV.own (i := 0) rfl (fail Fx b mb vx (failC c1 (e.binds[k]).at_ 31) (e.binds[k]).at_ 30 hrx) ?_
        rintro _ Fz _ hFz ⟨vz, rfl, hrz⟩
        simp only [push_cast, ↓reduceIte, Nat.reduceEqDiff, Nat.reduceAdd, Nat.reduceMul, Nat.reduceSub, Nat.reduceLT, Nat.reduceLeDiff, reduceCtorEq, Nat.reduceMod, Int.reduceEq, Int.reduceLT, Int.reduceLE, Int.reduceToNat, dite_true, e2]
        exact hG (k + 1, vz, failC (failC c1 (e.binds[k]).at_ 31) (e.binds[k]).at_ 30, Fz) _ ⟨by simp; omega, PH.le_trans hF2 (PH.le_trans hFx hFz), hrz, by rw [ht]; exact (hstep.trans (by rw [whenC, if_pos gi, show whenC ((e.binds[k]).name = ⟨#[]⟩) c1 (e.binds[k]).at_ 31 = failC c1 (e.binds[k]).at_ 31 from if_pos g])).symm, fun _ => by unfold failC; split <;> first | assumption | rfl⟩ (by simp; omega) (by simp [subk, Eng.look]) (by simp) rfl rfl
      · have gi' : ¬ (k : Int) = (i : Int) := by omega
        simp only [push_cast, ↓reduceIte, Nat.reduceEqDiff, Nat.reduceAdd, Nat.reduceMul, Nat.reduceSub, Nat.reduceLT, Nat.reduceLeDiff, reduceCtorEq, Nat.reduceMod, Int.reduceEq, Int.reduceLT, Int.reduceLE, Int.reduceToNat, dite_true, gi', e2, honex]
        exact hG (k + 1, vx, failC c1 (e.binds[k]).at_ 31, Fx) _ ⟨by simp; omega, PH.le_trans hF2 hFx, hrx, by rw [ht]; exact (hstep.trans (by rw [whenC, if_neg gi, show whenC ((e.binds[k]).name = ⟨#[]⟩) c1 (e.binds[k]).at_ 31 = failC c1 (e.binds[k]).at_ 31 from if_pos g])).symm, fun hlt => by
            have h1 : c1.bad = true := hbad (by simp at hlt; omega)
            first | exact h1 | (rw [failC_bad h1]; exact h1)⟩ (by simp; omega) (by simp [subk, Eng.look]) (by simp) rfl rfl
    · 
      by_cases gi : k = i
      · have gi' : (k : Int) = (i : Int) := by omega
        simp only [push_cast, ↓reduceIte, Nat.reduceEqDiff, Nat.reduceAdd, Nat.reduceMul, Nat.reduceSub, Nat.reduceLT, Nat.reduceLeDiff, reduceCtorEq, Nat.reduceMod, Int.reduceEq, Int.reduceLT, Int.reduceLE, Int.reduceToNat, dite_true, h', h0, kl, g, eq_true gi', hone1]
        intro b9
        refine CallV.own (i := 0) rfl (fail F2 b mb v1 (c1) (e.binds[k]).at_ 30 hr1) ?_
        rintro _ Fz _ hFz ⟨vz, rfl, hrz⟩
        simp only [push_cast, ↓reduceIte, Nat.reduceEqDiff, Nat.reduceAdd, Nat.reduceMul, Nat.reduceSub, Nat.reduceLT, Nat.reduceLeDiff, reduceCtorEq, Nat.reduceMod, Int.reduceEq, Int.reduceLT, Int.reduceLE, Int.reduceToNat, dite_true, e2]
        exact hG (k + 1, vz, failC (c1) (e.binds[k]).at_ 30, Fz) _ ⟨by simp; omega, PH.le_trans hF2 hFz, hrz, by rw [ht]; exact (hstep.trans (by rw [whenC, if_pos gi, show whenC ((e.binds[k]).name = ⟨#[]⟩) c1 (e.binds[k]).at_ 31 = c1 from if_neg g])).symm, fun _ => by unfold failC; split <;> first | assumption | rfl⟩ (by simp; omega) (by simp [subk, Eng.look]) (by simp) rfl rfl
      · have gi' : ¬ (k : Int) = (i : Int) := by omega
        simp only [push_cast, ↓reduceIte, Nat.reduceEqDiff, Nat.reduceAdd, Nat.reduceMul, Nat.reduceSub, Nat.reduceLT, Nat.reduceLeDiff, reduceCtorEq, Nat.reduceMod, Int.reduceEq, Int.reduceLT, Int.reduceLE, Int.reduceToNat, dite_true, h', h0, kl, g, gi', e2, hone1]
        intro b9
        exact hG (k + 1, v1, c1, F2) _ ⟨by simp; omega, hF2, hr1, by rw [ht]; exact (hstep.trans (by rw [whenC, if_neg gi, show whenC ((e.binds[k]).name = ⟨#[]⟩) c1 (e.binds[k]).at_ 31 = c1 from if_neg g])).symm, fun hlt => by
            have h1 : c1.bad = true := hbad (by simp at hlt; omega)
            first | exact h1 | (rw [failC_bad h1]; exact h1)⟩ (by simp; omega) (by simp [subk, Eng.look]) (by simp) rfl rfl
  have h' : ¬ (k : Int) < (e.binds.length : Int) := by omega
  rw [List.take_of_length_le (by omega)] at hc
  subst hc
  clear hbad hG
  simp only [push_cast, ↓reduceIte, Nat.reduceEqDiff, Nat.reduceAdd, Nat.reduceMul, Nat.reduceSub, Nat.reduceLT, Nat.reduceLeDiff, reduceCtorEq, Nat.reduceMod, Int.reduceEq, Int.reduceLT, Int.reduceLE, Int.reduceToNat, dite_true, h', hone1]
  refine CallV.of (withU F2 ps _ [] (nil_strs F2)) ?_
  rintro _ F3 _ hF3 ⟨bt, mb2, es0, cm0, rfl, rfl, hn0⟩
  have hFF3 := PH.le_trans hFF2 hF3
  have hc63 : F3.cell ⟨b6, 0, none⟩ = some (.slice pb e.binds.length cb) := hF3.cell (hF2.cell (hF1.cell hc6))
  simp only [push_cast, ↓reduceIte, Nat.reduceEqDiff, Nat.reduceAdd, Nat.reduceMul, Nat.reduceSub, Nat.reduceLT, Nat.reduceLeDiff, reduceCtorEq, Nat.reduceMod, Int.reduceEq, Int.reduceLT, Int.reduceLE, Int.reduceToNat, dite_true, hc63]
  refine VC.freezeR (List.Perm.refl _) fun F4 hF4 hbt => ?_
  have hbt4 : F4 bt = some (.cells #[.map (some mb2), .pointer ps] 117 (0, 0)) := hbt bt _ (PH.one_self _ _)
  have hm4 : F4.cell ((⟨bt, 0, none⟩ : Addr).add 0) = some (.map (some mb2)) := by rw [add_zero', cell_one hbt4]; rfl
  have hFF4 := PH.le_trans hFF3 hF4
  have hc64 := hF4.cell hc63
  refine VC.loopP (ι := Nat × Array MapEntry × Nat) (fun j => [(61, .v (.int .i64 j.1)), (60, .v (.int .i64 e.binds.length)), (59, .v (.slice pb e.binds.length cb)), (10, .v (.pointer (some ⟨bt, 0, none⟩))), (6, .v (.pointer (some ⟨b6, 0, none⟩))), (4, .o 1 bx 0), (0, .o 0 b 0)]) (fun _ => F4) (fun j => [PH.one mb2 (.map j.2.1 j.2.2)]) (fun j => j.1 ≤ e.binds.length ∧ P.Names j.2.1 (hasB (own.take j.1))) (fun j => e.binds.length - j.1) (0, es0, cm0) ⟨Nat.zero_le _, hn0⟩ (by simp [subk, Eng.look]) rfl (subR_refl _) ?_
  rintro ⟨j, es, cm⟩ ⟨hj, hn⟩ G2 hG2
  dsimp only at hj hn hG2 ⊢
  refine VC.go 100 ?_
  by_cases h2 : j < e.binds.length
  case pos =>
    have h' : (j : Int) < (e.binds.length : Int) := by omega
    have h0 : (0 : Int) ≤ (j : Int) := by omega
    have hjo : j < own.length := by omega
    have e2 : IntKind.i64.wrap ((j : Int) + 1) = ((j + 1 : Nat) : Int) := wadd j h2 (Nat.le_trans hb1 hb2)
    obtain ⟨q, _, cs, eq, _, _, kl, kr⟩ := (hbinds.mono (R' := RBind F4) hFF4 (fun _ _ _ h => h.mono hFF4)).elem (by decide) (i := j) (a := e.binds[j]) (List.getElem?_eq_getElem h2) (fun _ _ h => h.len)
    cases eq
    have hnj : (e.binds[j]).name = own[j] := by subst ho; simp
    obtain ⟨wv, cc, rfl, hwv, hcc⟩ := RBind_iff.1 kr
    obtain ⟨xa, xb, xe, xl, rfl, hx⟩ := RExp_iff.1 hcc
    obtain ⟨pv, cv, rfl, _, _, _⟩ := hwv
    obtain ⟨_, _, _, _, _, _, _, _, rfl, rfl, rfl, rfl⟩ := hx.slices
    simp only [push_cast, ↓reduceIte, Nat.reduceEqDiff, Nat.reduceAdd, Nat.reduceMul, Nat.reduceSub, Nat.reduceLT, Nat.reduceLeDiff, reduceCtorEq, Nat.reduceMod, Int.reduceEq, Int.reduceLT, Int.reduceLE, Int.reduceToNat, dite_true, h', h0, kl]
    intro b12
    refine VC.draw (.q 0 (.q 1 (.q 2 (.q 3 (.q 4 (.q 5 (.e 6 (.done)))))))) mixed (by rfl) ?_
    simp only [push_cast, ↓reduceIte, Nat.reduceEqDiff, Nat.reduceAdd, Nat.reduceMul, Nat.reduceSub, Nat.reduceLT, Nat.reduceLeDiff, reduceCtorEq, Nat.reduceMod, Int.reduceEq, Int.reduceLT, Int.reduceLE, Int.reduceToNat, dite_true, hm4]
    obtain ⟨lst, hes, hg⟩ := hn
    refine Eff.update keyStr rfl rfl ty67 rfl Tryd.underlying9 rfl rfl rfl (List.Perm.refl _) hes fun es' c' hes' => ?_
    simp only [push_cast, ↓reduceIte, Nat.reduceEqDiff, Nat.reduceAdd, Nat.reduceMul, Nat.reduceSub, Nat.reduceLT, Nat.reduceLeDiff, reduceCtorEq, Nat.reduceMod, Int.reduceEq, Int.reduceLT, Int.reduceLE, Int.reduceToNat, dite_true]
    refine VC.go 100 ?_
    simp only [push_cast, ↓reduceIte, Nat.reduceEqDiff, Nat.reduceAdd, Nat.reduceMul, Nat.reduceSub, Nat.reduceLT, Nat.reduceLeDiff, reduceCtorEq, Nat.reduceMod, Int.reduceEq, Int.reduceLT, Int.reduceLE, Int.reduceToNat, dite_true, e2]
    refine hG2 (j + 1, es', c') _ ⟨by simp; omega, _, hes', fun s => ?_⟩ (by simp; omega) (by simp [subk, Eng.look]) (by simp) rfl (subR_refl _)
    rw [mget_mput, hg, List.take_succ_eq_append_getElem hjo, hasB_snoc, hnj]
    cases hh : hasB (own.take j) s <;> by_cases e : own[j] = s <;> simp [e]
  have h' : ¬ (j : Int) < (e.binds.length : Int) := by omega
  rw [List.take_of_length_le (by omega)] at hn
  clear hG2
  simp only [push_cast, ↓reduceIte, Nat.reduceEqDiff, Nat.reduceAdd, Nat.reduceMul, Nat.reduceSub, Nat.reduceLT, Nat.reduceLeDiff, reduceCtorEq, Nat.reduceMod, Int.reduceEq, Int.reduceLT, Int.reduceLE, Int.reduceToNat, dite_true, h', hc64]
  refine VC.freezeR (List.Perm.refl _) fun F5 hF5 hmb => ?_
  have hFF5 := PH.le_trans hFF4 hF5
  have hc65 := hF5.cell hc64
  have hs5 : ScpL F5 (.pointer (some ⟨bt, 0, none⟩)) (inn ++ own) := by
    obtain ⟨n, m, k1, k2⟩ := hs
    exact ⟨n + 1, _, .cons (hF5 _ _ hbt4) (hmb mb2 _ (PH.one_self _ _)) hn (k1.mono hFF5), fun s => by rw [hasB_append, ← k2, Bool.or_comm]⟩
  have hil : (inn ++ own).length = inn.length + e.binds.length := by simp [hol]
  have hr5 := hr1.mono (PH.le_trans hF3 (PH.le_trans hF4 hF5))
  rw [← ho] at hres
  refine VC.loopM (ι := Nat × Value × Ck × PH) (fun j => [(74, .v (.int .i64 j.1)), (73, .v (.int .i64 e.binds.length)), (72, .v (.slice pb e.binds.length cb)), (10, .v (.pointer (some ⟨bt, 0, none⟩))), (4, .o 1 bx 0), (0, .o 0 b 0)]) (fun j => [⟨0, b, 112, [.map (some mb), j.2.1]⟩, ⟨1, bx, 49, expCells e (.slice pa e.atoms.length ca) (.slice pb e.binds.length cb) (.slice pe e.kids.length ce) (.slice pl e.alts.length cl)⟩]) (fun j => j.2.2.2) (fun j => j.1 ≤ e.binds.length ∧ F5.le j.2.2.2 ∧ RepC j.2.2.2 j.2.2.1 j.2.1 ∧ j.2.2.1 = bindsC ds (e.binds.take j.1) (inn ++ own) (dupC [] e.binds c)) (fun j => e.binds.length - j.1) (0, v1, dupC [] e.binds c, F5) ⟨Nat.zero_le _, PH.le_refl _, hr5, by simp [bindsC]⟩ (by simp [subk, Eng.look]) (List.Sublist.refl _) rfl ?_
  rintro ⟨j3, v3, c3, F6⟩ ⟨hj3, hF6, hr3, hc3⟩ G3 hG3
  dsimp only at hj3 hF6 hr3 hc3 hG3 ⊢
  have hone3 := hr3.one
  have hFF6 := PH.le_trans hFF5 hF6
  refine VC.go 100 ?_
  by_cases h3 : j3 < e.binds.length
  case pos =>
    have h' : (j3 : Int) < (e.binds.length : Int) := by omega
    have h0 : (0 : Int) ≤ (j3 : Int) := by omega
    obtain ⟨q, _, cs, eq, _, _, kl, kr⟩ := (hbinds.mono (R' := RBind F6) hFF6 (fun _ _ _ h => h.mono hFF6)).elem (by decide) (i := j3) (a := e.binds[j3]) (List.getElem?_eq_getElem h3) (fun _ _ h => h.len)
    cases eq
    have hsm := sizeBs_mem2 e.binds j3 h3
    have hse := bsize_eq e.binds[j3]
    have ht : bindsC ds (e.binds.take (j3 + 1)) (inn ++ own) (dupC [] e.binds c) = formC ds e.binds[j3] (inn ++ own) c3 := by rw [List.take_succ_eq_append_getElem h3, bindsC_snoc, hc3]
    have e2 : IntKind.i64.wrap ((j3 : Int) + 1) = ((j3 + 1 : Nat) : Int) := wadd j3 h3 (Nat.le_trans hb1 hb2)
    obtain ⟨bd, hbk⟩ : ∃ bd, bd = e.binds[j3] := ⟨_, rfl⟩
    rw [← hbk] at hsm hse ht kr
    obtain ⟨wv, cc, rfl, hwv, hcc⟩ := RBind_iff.1 kr
    obtain ⟨xa, xb, xe, xl, rfl, hx⟩ := RExp_iff.1 hcc
    have hwv' := hwv
    obtain ⟨pv, cv, rfl, _, _, _⟩ := hwv
    have hx' := hx
    obtain ⟨_, _, _, _, _, _, _, _, rfl, rfl, rfl, rfl⟩ := hx.slices
    simp only [push_cast, ↓reduceIte, Nat.reduceEqDiff, Nat.reduceAdd, Nat.reduceMul, Nat.reduceSub, Nat.reduceLT, Nat.reduceLeDiff, reduceCtorEq, Nat.reduceMod, Int.reduceEq, Int.reduceLT, Int.reduceLE, Int.reduceToNat, dite_true, h', h0, kl, hone3]
    intro b14
    refine CallV.own (i := 0) rfl (form ds bd (ih bd.body (by omega)) F6 b mb v3 _ _ _ _ _ _ c3 (inn ++ own) hr3 hwv' hx' (hs5.mono hF6) (hd.mono hFF6) (hT.mono hFF6) (by rw [hil]; omega)) ?_
    rintro _ F7 _ hF7 ⟨v7, rfl, hr7⟩
    simp only [push_cast, ↓reduceIte, Nat.reduceEqDiff, Nat.reduceAdd, Nat.reduceMul, Nat.reduceSub, Nat.reduceLT, Nat.reduceLeDiff, reduceCtorEq, Nat.reduceMod, Int.reduceEq, Int.reduceLT, Int.reduceLE, Int.reduceToNat, dite_true, e2]
    exact hG3 (j3 + 1, v7, formC ds bd (inn ++ own) c3, F7) _ ⟨by simp; omega, PH.le_trans hF6 hF7, hr7, by rw [ht]⟩ (by simp; omega) (by simp [subk, Eng.look]) (by simp) rfl rfl
  have h' : ¬ (j3 : Int) < (e.binds.length : Int) := by omega
  rw [List.take_of_length_le (by omega)] at hc3
  subst hc3
  obtain ⟨kd, ks, hks⟩ : ∃ kd ks, e.kids = kd :: ks := by
    cases hk : e.kids with
    | nil => rw [hk] at g2; simp at g2
    | cons a l => exact ⟨a, l, rfl⟩
  obtain ⟨q, _, cs, eq, _, _, kl, kr⟩ := (hkids.mono (R' := RExp F6) hFF6 (fun _ _ _ h => h.mono hFF6)).elem (by decide) (i := 0) (a := kd) (by rw [hks]; rfl) (fun _ _ h => h.len)
  cases eq
  obtain ⟨xa, xb, xe, xl, rfl, hx⟩ := RExp_iff.1 kr
  have hx' := hx
  obtain ⟨_, _, _, _, _, _, _, _, rfl, rfl, rfl, rfl⟩ := hx.slices
  rw [Nat.zero_mul] at kl
  have g3 : (0 : Int) < (e.kids.length : Int) := by omega
  have hsm := sizeEs_mem (e := kd) (l := e.kids) (by rw [hks]; exact List.mem_cons_self)
  simp only [push_cast, ↓reduceIte, Nat.reduceEqDiff, Nat.reduceAdd, Nat.reduceMul, Nat.reduceSub, Nat.reduceLT, Nat.reduceLeDiff, reduceCtorEq, Nat.reduceMod, Int.reduceEq, Int.reduceLT, Int.reduceLE, Int.reduceToNat, dite_true, h', g3, Nat.zero_mul, kl, hone3]
  refine CallV.own (i := 0) rfl (ih kd (by omega) F6 b mb v3 _ _ _ _ _ _ (inn ++ own) hr3 hx' (hs5.mono hF6) (hd.mono hFF6) (hT.mono hFF6) (by rw [hil]; omega)) ?_
  rintro _ F7 _ hF7 ⟨v7, rfl, hr7⟩
  simp only [push_cast, ↓reduceIte, Nat.reduceEqDiff, Nat.reduceAdd, Nat.reduceMul, Nat.reduceSub, Nat.reduceLT, Nat.reduceLeDiff, reduceCtorEq, Nat.reduceMod, Int.reduceEq, Int.reduceLT, Int.reduceLE, Int.reduceToNat, dite_true]
  rw [hks] at hres
  simp only [kidC] at hres
  rw [hres] at hr7
  exact sret rfl hr7
end Go.Proofs.YtoepmdbicdoieaaDoor.P

/- Package scope: cases. (Written by gen/p6.py.) -/
namespace Go.Proofs.YtoepmdbicdoieaaDoor.P
open Go Go.Eng Go.Proofs Go.Proofs.YtoepmdbicdoieaaDoor.T Go.Proofs.YtoepmdbicdoieaaDoor.K
set_option linter.unusedSimpArgs false
set_option linter.unusedVariables false
set_option maxRecDepth 100000
set_option maxHeartbeats 8000000
theorem each_take {α : Type} {R : α → List Value → Prop} {sz : Nat} (hsz : ∀ a c, R a c → c.length = sz) : ∀ {l : List α} {xs : List Value} (k : Nat), Each R l xs → Each R (l.take k) (xs.take (k * sz))
  | [], xs, k, h => by simp only [Each] at h; subst h; simp [Each]
  | a :: l, xs, 0, h => by simp [Each]
  | a :: l, xs, k + 1, ⟨c, ys, e, h1, h2⟩ => by
    subst e
    have hl := hsz _ _ h1
    refine ⟨c, ys.take (k * sz), ?_, h1, each_take hsz k h2⟩
    rw [List.take_append, hl, List.take_of_length_le (by rw [hl, Nat.succ_mul]; omega)]
    congr 2
    rw [Nat.succ_mul]; omega
theorem sle_take {α : Type} {F : PH} {R : α → List Value → Prop} {sz : Nat} (hsz : ∀ a c, R a c → c.length = sz) {q : Addr} {c : Nat} {l : List α} (h : SlE F sz R (.slice (some q) l.length c) l) {k : Nat} (hk : k ≤ l.length) : SlE F sz R (.slice (some q) k c) (l.take k) := by
  obtain ⟨xs, ⟨p, c', e, h1, h2, h3, h4⟩, h5⟩ := h
  cases e
  have hl : (l.take k).length = k := by simp; omega
  have hxs := Each.len hsz h5
  have hle : k * sz ≤ l.length * sz := Nat.mul_le_mul_right _ hk
  refine ⟨xs.take (k * sz), ⟨some q, c, by rw [hl], by omega, h2, by rw [List.length_take, hl, hxs]; omega, fun hpos => ?_⟩, each_take hsz k h5⟩
  rw [hl] at hpos ⊢
  obtain ⟨a, ha, hc⟩ := h4 (by omega)
  cases ha
  refine ⟨q, rfl, ?_⟩
  have := cells_sub hc (o := 0) (m := k * sz) (by omega)
  rw [add_zero'] at this
  simpa using this
theorem cases_ (ds : List Dat) (hds : ∀ d ∈ ds, d.arity ≤ 8) (e : Exp) (ih : ∀ e' : Exp, e'.size < e.size → ExpS ds e') (F : PH) (b mb : Nat) (v vs va w1 we wl : Value) (c : Ck) (inn : List ByteArray) (hr : RepC F c v) (hX : ExpAt F e va w1 we wl) (hs : ScpL F vs inn) (hd : Cons F mb ds) (hT : Table F) (hsz : inn.length + e.size ≤ 100000000) :
    SFn 108 [.agg (expCells e va w1 we wl).toArray, vs] F b mb v (casesC ds e inn c) := by
  have hX' := hX
  have hse0 := size_eq e
  have halts := hX.alts
  have hkids := hX.kids
  obtain ⟨pa, ca, pb, cb, pe, ce, pl, cl, rfl, rfl, rfl, rfl⟩ := hX.slices
  obtain ⟨_, _, el, hl1, hl2⟩ := halts.val
  cases el
  have hone := hr.one
  generalize hres : casesC ds e inn c = res
  unfold casesC at hres
  refine OFn.intro (n := 70) (ts := []) Tryd.func108 rfl rfl rfl rfl (by simp) fun B hB => VC.go 100 ?_
  by_cases g1 : e.kids.length = 0
  · have g1' : (e.kids.length : Int) = 0 := by omega
    simp only [push_cast, ↓reduceIte, Nat.reduceEqDiff, Nat.reduceAdd, Nat.reduceMul, Nat.reduceSub, Nat.reduceLT, Nat.reduceLeDiff, reduceCtorEq, Nat.reduceMod, Int.reduceEq, Int.reduceLT, Int.reduceLE, Int.reduceToNat, dite_true, eq_true g1', hone]
    intro bx
    refine CallV.own (i := 0) rfl (fail F b mb v c e.at_ 2 hr) ?_
    rintro _ F2 _ hF2 ⟨v2, rfl, hr2⟩
    simp only [push_cast, ↓reduceIte, Nat.reduceEqDiff, Nat.reduceAdd, Nat.reduceMul, Nat.reduceSub, Nat.reduceLT, Nat.reduceLeDiff, reduceCtorEq, Nat.reduceMod, Int.reduceEq, Int.reduceLT, Int.reduceLE, Int.reduceToNat, dite_true]
    rw [if_pos (.inl g1)] at hres
    subst hres
    exact sret rfl hr2
  have g1' : ¬ (e.kids.length : Int) = 0 := by omega
  by_cases g2 : e.alts.length = 0
  · have g2' : (e.alts.length : Int) = 0 := by omega
    simp only [push_cast, ↓reduceIte, Nat.reduceEqDiff, Nat.reduceAdd, Nat.reduceMul, Nat.reduceSub, Nat.reduceLT, Nat.reduceLeDiff, reduceCtorEq, Nat.reduceMod, Int.reduceEq, Int.reduceLT, Int.reduceLE, Int.reduceToNat, dite_true, g1', eq_true g2', hone]
    intro bx
    refine CallV.own (i := 0) rfl (fail F b mb v c e.at_ 2 hr) ?_
    rintro _ F2 _ hF2 ⟨v2, rfl, hr2⟩
    simp only [push_cast, ↓reduceIte, Nat.reduceEqDiff, Nat.reduceAdd, Nat.reduceMul, Nat.reduceSub, Nat.reduceLT, Nat.reduceLeDiff, reduceCtorEq, Nat.reduceMod, Int.reduceEq, Int.reduceLT, Int.reduceLE, Int.reduceToNat, dite_true]
    rw [if_pos (.inr g2)] at hres
    subst hres
    exact sret rfl hr2
  have g2' : ¬ (e.alts.length : Int) = 0 := by omega
  rw [if_neg (by omega)] at hres
  obtain ⟨kd, ks, hks⟩ : ∃ kd ks, e.kids = kd :: ks := by
    cases hk : e.kids with
    | nil => rw [hk] at g1; simp at g1
    | cons a l => exact ⟨a, l, rfl⟩
  obtain ⟨q, _, cs, eq, _, _, kl, kr⟩ := hkids.elem (by decide) (i := 0) (a := kd) (by rw [hks]; rfl) (fun _ _ h => h.len)
  cases eq
  obtain ⟨xa, xb, xe, xl, rfl, hx⟩ := RExp_iff.1 kr
  have hx' := hx
  obtain ⟨_, _, _, _, _, _, _, _, rfl, rfl, rfl, rfl⟩ := hx.slices
  rw [Nat.zero_mul] at kl
  have g3 : (0 : Int) < (e.kids.length : Int) := by omega
  have hsm := sizeEs_mem (e := kd) (l := e.kids) (by rw [hks]; exact List.mem_cons_self)
  simp only [push_cast, ↓reduceIte, Nat.reduceEqDiff, Nat.reduceAdd, Nat.reduceMul, Nat.reduceSub, Nat.reduceLT, Nat.reduceLeDiff, reduceCtorEq, Nat.reduceMod, Int.reduceEq, Int.reduceLT, Int.reduceLE, Int.reduceToNat, dite_true, g1', g2', g3, Nat.zero_mul, kl, hone]
  intro bx
  refine CallV.own (i := 0) rfl (ih kd (by omega) F b mb v _ _ _ _ _ c inn hr hx' hs hd hT (by omega)) ?_
  rintro _ F0 _ hF0 ⟨v0, rfl, hr0⟩
  rw [hks] at hres
  simp only [kidC] at hres
  generalize expC ds kd inn c = c0 at hres hr0
  clear hx hx' kl kr hone hr
  have hone0 := hr0.one
  simp only [push_cast, ↓reduceIte, Nat.reduceEqDiff, Nat.reduceAdd, Nat.reduceMul, Nat.reduceSub, Nat.reduceLT, Nat.reduceLeDiff, reduceCtorEq, Nat.reduceMod, Int.reduceEq, Int.reduceLT, Int.reduceLE, Int.reduceToNat, dite_true, hone0]
  refine VC.loopM (ι := Nat × Value × Ck × PH) (fun i => [(34, .v (.int .i64 i.1)), (33, .v (.int .i64 e.alts.length)), (32, .v (.slice pl e.alts.length cl)), (4, .o 1 bx 0), (2, .v vs), (0, .o 0 b 0)]) (fun i => [⟨0, b, 112, [.map (some mb), i.2.1]⟩, ⟨1, bx, 49, expCells e (.slice pa e.atoms.length ca) (.slice pb e.binds.length cb) (.slice (some q) e.kids.length ce) (.slice pl e.alts.length cl)⟩]) (fun i => i.2.2.2) (fun i => i.1 ≤ e.alts.length ∧ F0.le i.2.2.2 ∧ RepC i.2.2.2 i.2.2.1 i.2.1 ∧ i.2.2.1 = altsC ds [] (e.alts.take i.1) inn c0) (fun i => e.alts.length - i.1) (0, v0, c0, F0) ⟨Nat.zero_le _, PH.le_refl _, hr0, by simp [altsC]⟩ (by simp [subk, Eng.look]) (List.Sublist.refl _) rfl ?_
  rintro ⟨k, v1, c1, F1⟩ ⟨hk, hF1, hr1, hc⟩ G hG
  dsimp only at hk hF1 hr1 hc hG ⊢
  have hone1 := hr1.one
  have hFF1 := PH.le_trans hF0 hF1
  refine VC.go 100 ?_
  by_cases h : k < e.alts.length
  case neg =>
    have h' : ¬ (k : Int) < (e.alts.length : Int) := by omega
    rw [List.take_of_length_le (by omega)] at hc
    simp only [push_cast, ↓reduceIte, Nat.reduceEqDiff, Nat.reduceAdd, Nat.reduceMul, Nat.reduceSub, Nat.reduceLT, Nat.reduceLeDiff, reduceCtorEq, Nat.reduceMod, Int.reduceEq, Int.reduceLT, Int.reduceLE, Int.reduceToNat, dite_true, h', hone1]
    rw [← hc] at hres
    rw [hres] at hr1
    exact sret rfl hr1
  have h' : (k : Int) < (e.alts.length : Int) := by omega
  have h0 : (0 : Int) ≤ (k : Int) := by omega
  have h3 : (k : Int) ≤ (cl : Int) := by omega
  have h4 : ¬ cl = 0 := by omega
  have ht : altsC ds [] (e.alts.take (k + 1)) inn c0 = altStep ds (e.alts.take k) e.alts[k] inn c1 := by rw [List.take_succ_eq_append_getElem h, altsC_snoc, hc]; simp
  have e2 : IntKind.i64.wrap ((k : Int) + 1) = ((k + 1 : Nat) : Int) := wadd k h (Nat.le_trans hl1 hl2)
  have hsm2 := sizeLs_mem (List.getElem_mem h)
  have hse := asize_eq e.alts[k]
  have halts1 := halts.mono (R' := RAlt F1) hFF1 (fun _ _ _ h => h.mono hFF1)
  obtain ⟨q2, _, cs2, eq2, _, _, kl, kr⟩ := halts1.elem (by decide) (i := k) (a := e.alts[k]) (List.getElem?_eq_getElem h) (fun _ _ h => h.len)
  cases eq2
  obtain ⟨a, hak⟩ : ∃ a, a = e.alts[k] := ⟨_, rfl⟩
  rw [← hak] at ht hsm2 hse kr
  obtain ⟨wv, cc, rfl, hwv, hcc⟩ := RAlt_iff.1 kr
  obtain ⟨ya, yb, ye, yl, rfl, hy⟩ := RExp_iff.1 hcc
  have hwv' := hwv
  obtain ⟨pv, cv, rfl, _, _, _⟩ := hwv
  have hy' := hy
  obtain ⟨p1, c1', p2, c2', p3, c3', p4, c4', rfl, rfl, rfl, rfl⟩ := hy.slices
  rcases hr1 with ⟨rfl, rfl⟩ | ⟨a', e', b', rfl, rfl, hb'⟩
  case inr =>
    simp only [push_cast, ↓reduceIte, Nat.reduceEqDiff, Nat.reduceAdd, Nat.reduceMul, Nat.reduceSub, Nat.reduceLT, Nat.reduceLeDiff, reduceCtorEq, Nat.reduceMod, Int.reduceEq, Int.reduceLT, Int.reduceLE, Int.reduceToNat, dite_true, h', h0, kl, Option.isNone_some]
    intro b7
    have : res = ⟨true, a', e'⟩ := by
      rw [← hres, ← List.take_append_drop k e.alts, altsC_append, ← hc]
      exact altsC_bad _ _ _ _ _ rfl
    subst this
    exact sret rfl (.inr ⟨a', e', b', rfl, rfl, hb'⟩)
  simp only [push_cast, ↓reduceIte, Nat.reduceEqDiff, Nat.reduceAdd, Nat.reduceMul, Nat.reduceSub, Nat.reduceLT, Nat.reduceLeDiff, reduceCtorEq, Nat.reduceMod, Int.reduceEq, Int.reduceLT, Int.reduceLE, Int.reduceToNat, dite_true, h', h0, h3, h4, kl, Option.isNone_none, Nat.zero_mul, Nat.sub_zero, Option.map_some, add_zero']
  intro b7
  refine VC.loopM (ι := Nat × Value × Ck × PH) (fun i => [(49, .v (.int .i64 i.1)), (48, .v (.int .i64 k)), (47, .v (.slice (some q2) k cl)), (7, .o 2 b7 0), (6, .v (.int .i64 k)), (34, .v (.int .i64 k)), (33, .v (.int .i64 e.alts.length)), (32, .v (.slice (some q2) e.alts.length cl)), (4, .o 1 bx 0), (2, .v vs), (0, .o 0 b 0)]) (fun i => [⟨0, b, 112, [.map (some mb), i.2.1]⟩, ⟨1, bx, 49, expCells e (.slice pa e.atoms.length ca) (.slice pb e.binds.length cb) (.slice (some q) e.kids.length ce) (.slice (some q2) e.alts.length cl)⟩, ⟨2, b7, 148, .int .i64 a.kind :: .int .i64 a.at_ :: .string a.name :: .int .i64 a.n :: .slice pv a.vars.length cv :: expCells a.body (.slice p1 a.body.atoms.length c1') (.slice p2 a.body.binds.length c2') (.slice p3 a.body.kids.length c3') (.slice p4 a.body.alts.length c4')⟩]) (fun i => i.2.2.2) (fun i => i.1 ≤ k ∧ F1.le i.2.2.2 ∧ RepC i.2.2.2 i.2.2.1 i.2.1 ∧ i.2.2.1 = lastC (e.alts.take i.1) a ⟨false, 0, 0⟩) (fun i => k - i.1) (0, .pointer none, ⟨false, 0, 0⟩, F1) ⟨Nat.zero_le _, PH.le_refl _, .inl ⟨rfl, rfl⟩, rfl⟩ (by simp [subk, Eng.look]) (List.Sublist.refl _) rfl ?_
  rintro ⟨j, v3, c3, F3⟩ ⟨hj, hF3, hr3, hc3⟩ G2 hG2
  dsimp only at hj hF3 hr3 hc3 hG2 ⊢
  have hone3 := hr3.one
  have hFF3 := PH.le_trans hFF1 hF3
  refine VC.go 100 ?_
  by_cases hjk : j < k
  case neg =>
    have hjk' : ¬ (j : Int) < (k : Int) := by omega
    obtain rfl : j = k := by omega
    simp only [push_cast, ↓reduceIte, Nat.reduceEqDiff, Nat.reduceAdd, Nat.reduceMul, Nat.reduceSub, Nat.reduceLT, Nat.reduceLeDiff, reduceCtorEq, Nat.reduceMod, Int.reduceEq, Int.reduceLT, Int.reduceLE, Int.reduceToNat, dite_true, hjk']
    refine VC.draw (.q 0 (.q 1 (.q 2 (.q 3 (.q 4 (.q 5 (.q 6 (.es 7 [0, 1, 2, 3, 4, 5, 6] (.done))))))))) mixed (by rfl) ?_
    simp only [push_cast, ↓reduceIte, Nat.reduceEqDiff, Nat.reduceAdd, Nat.reduceMul, Nat.reduceSub, Nat.reduceLT, Nat.reduceLeDiff, reduceCtorEq, Nat.reduceMod, Int.reduceEq, Int.reduceLT, Int.reduceLE, Int.reduceToNat, dite_true, h0, h3, h4, hone3, Nat.zero_mul, Nat.sub_zero, Option.map_some, add_zero']
    refine CallV.own (i := 0) rfl (alt ds hds a (e.alts.take j) (ih a.body (by omega)) F3 b mb v3 _ _ _ _ _ _ _ c3 inn hr3 (sle_take (fun _ _ h => RAlt.len h) (halts1.mono hF3 (fun _ _ _ h => h.mono hF3)) (by omega)) (hwv'.mono hF3) (hy'.mono hF3) (hs.mono hFF3) (hd.mono hFF3) (hT.mono hFF3) (by omega)) ?_
    rintro _ F4 _ hF4 ⟨v4, rfl, hr4⟩
    simp only [push_cast, ↓reduceIte, Nat.reduceEqDiff, Nat.reduceAdd, Nat.reduceMul, Nat.reduceSub, Nat.reduceLT, Nat.reduceLeDiff, reduceCtorEq, Nat.reduceMod, Int.reduceEq, Int.reduceLT, Int.reduceLE, Int.reduceToNat, dite_true, h0, h3, h4, Nat.zero_mul, Nat.sub_zero, Option.map_some, add_zero']
    refine VC.go 100 ?_
    simp only [push_cast, ↓reduceIte, Nat.reduceEqDiff, Nat.reduceAdd, Nat.reduceMul, Nat.reduceSub, Nat.reduceLT, Nat.reduceLeDiff, reduceCtorEq, Nat.reduceMod, Int.reduceEq, Int.reduceLT, Int.reduceLE, Int.reduceToNat, dite_true, e2]
    exact hG (j + 1, v4, altC ds a (againB (e.alts.take j) a) inn c3, F4) _ ⟨by simp; omega, PH.le_trans hF1 (PH.le_trans hF3 hF4), hr4, by rw [ht]; simp only [altStep, Bool.false_eq_true, if_false]; rw [hc3]⟩ (by simp; omega) (by simp [subk, Eng.look]) (by simp) rfl rfl
  have hjk' : (j : Int) < (k : Int) := by omega
  have hjl : j < e.alts.length := by omega
  have h0j : (0 : Int) ≤ (j : Int) := by omega
  have e4 : IntKind.i64.wrap ((j : Int) + 1) = ((j + 1 : Nat) : Int) := wadd j hjl (Nat.le_trans hl1 hl2)
  have hbt0 : e.alts.take (j + 1) = e.alts.take j ++ [e.alts[j]] := List.take_succ_eq_append_getElem hjl
  obtain ⟨q3, _, cs3, eq3, _, _, kl3, kr3⟩ := (halts.mono (R' := RAlt F3) hFF3 (fun _ _ _ h => h.mono hFF3)).elem (by decide) (i := j) (a := e.alts[j]) (List.getElem?_eq_getElem hjl) (fun _ _ h => h.len)
  cases eq3
  obtain ⟨bb, hbb⟩ : ∃ bb, bb = e.alts[j] := ⟨_, rfl⟩
  have hbt : e.alts.take (j + 1) = e.alts.take j ++ [bb] := by rw [hbb]; exact hbt0
  rw [← hbb] at kr3
  obtain ⟨wv3, cc3, rfl, hwv3, hcc3⟩ := RAlt_iff.1 kr3
  obtain ⟨za, zb, ze, zl, rfl, hz⟩ := RExp_iff.1 hcc3
  obtain ⟨pv3, cv3, rfl, _, _, _⟩ := hwv3
  obtain ⟨_, _, _, _, _, _, _, _, rfl, rfl, rfl, rfl⟩ := hz.slices
  by_cases g3 : bb.kind = 3
  · simp only [push_cast, ↓reduceIte, Nat.reduceEqDiff, Nat.reduceAdd, Nat.reduceMul, Nat.reduceSub, Nat.reduceLT, Nat.reduceLeDiff, reduceCtorEq, Nat.reduceMod, Int.reduceEq, Int.reduceLT, Int.reduceLE, Int.reduceToNat, dite_true, hjk', h0j, kl3, eq_true g3, hone3]
    intro b10
    refine CallV.own (i := 0) rfl (fail F3 b mb v3 c3 a.at_ 35 hr3) ?_
    rintro _ F5 _ hF5 ⟨v5, rfl, hr5⟩
    simp only [push_cast, ↓reduceIte, Nat.reduceEqDiff, Nat.reduceAdd, Nat.reduceMul, Nat.reduceSub, Nat.reduceLT, Nat.reduceLeDiff, reduceCtorEq, Nat.reduceMod, Int.reduceEq, Int.reduceLT, Int.reduceLE, Int.reduceToNat, dite_true, e4]
    exact hG2 (j + 1, v5, failC c3 a.at_ 35, F5) _ ⟨by simp; omega, PH.le_trans hF3 hF5, hr5, by rw [hbt, lastC_snoc, ← hc3, whenC, if_pos g3]⟩ (by simp; omega) (by simp [subk, Eng.look]) (by simp) rfl rfl
  · simp only [push_cast, ↓reduceIte, Nat.reduceEqDiff, Nat.reduceAdd, Nat.reduceMul, Nat.reduceSub, Nat.reduceLT, Nat.reduceLeDiff, reduceCtorEq, Nat.reduceMod, Int.reduceEq, Int.reduceLT, Int.reduceLE, Int.reduceToNat, dite_true, hjk', h0j, kl3, g3, e4, hone3]
    intro b10
    exact hG2 (j + 1, v3, c3, F3) _ ⟨by simp; omega, hF3, hr3, by rw [hbt, lastC_snoc, ← hc3, whenC, if_neg g3]⟩ (by simp; omega) (by simp [subk, Eng.look]) (by simp) rfl rfl
end Go.Proofs.YtoepmdbicdoieaaDoor.P

/- Package scope: expressions. (Written by gen/p6.py.) -/
namespace Go.Proofs.YtoepmdbicdoieaaDoor.P
open Go Go.Eng Go.Proofs Go.Proofs.YtoepmdbicdoieaaDoor.T Go.Proofs.YtoepmdbicdoieaaDoor.K
set_option linter.unusedSimpArgs false
set_option linter.unusedVariables false
set_option maxRecDepth 100000
set_option maxHeartbeats 8000000
theorem whenC_congr {p q : Prop} [Decidable p] [Decidable q] {c : Ck} {a e : Int} (h : p ↔ q) : whenC p c a e = whenC q c a e := by
  unfold whenC
  by_cases hp : p
  · rw [if_pos hp, if_pos (h.1 hp)]
  · rw [if_neg hp, if_neg (fun hq => hp (h.2 hq))]
theorem exp_ok (ds : List Dat) (hds : ∀ d ∈ ds, d.arity ≤ 8) (e : Exp) (ih : ∀ e' : Exp, e'.size < e.size → ExpS ds e') : ExpS ds e := by
  intro F b mb v vs va w1 we wl c inn hr hX hs hd hT hsz
  have hX' := hX
  obtain ⟨pa, ca, pb, cb, pe, ce, pl, cl, rfl, rfl, rfl, rfl⟩ := hX.slices
  generalize hres : expC ds e inn c = res
  rw [expC_eq] at hres
  rcases hr with ⟨rfl, rfl⟩ | ⟨a', e', b', rfl, rfl, hb'⟩
  case inr =>
    refine OFn.intro (n := 92) (ts := []) Tryd.func80 rfl rfl rfl rfl (by simp) fun B hB => VC.go 100 ?_
    obtain rfl : res = ⟨true, a', e'⟩ := hres.symm
    simp only [push_cast, ↓reduceIte, Nat.reduceEqDiff, Nat.reduceAdd, Nat.reduceMul, Nat.reduceSub, Nat.reduceLT, Nat.reduceLeDiff, reduceCtorEq, Nat.reduceMod, Int.reduceEq, Int.reduceLT, Int.reduceLE, Int.reduceToNat, dite_true, Option.isNone_some]
    intro bx
    exact sret rfl (.inr ⟨a', e', b', rfl, rfl, hb'⟩)
  have hone : (Value.pointer none).oneCell' = true := rfl
  simp only [Bool.false_eq_true, if_false] at hres
  refine OFn.intro (n := 92) (ts := []) Tryd.func80 rfl rfl rfl rfl (by simp) fun B hB => VC.go 100 ?_
  simp only [push_cast, ↓reduceIte, Nat.reduceEqDiff, Nat.reduceAdd, Nat.reduceMul, Nat.reduceSub, Nat.reduceLT, Nat.reduceLeDiff, reduceCtorEq, Nat.reduceMod, Int.reduceEq, Int.reduceLT, Int.reduceLE, Int.reduceToNat, dite_true, Option.isNone_none]
  intro bx
  by_cases g1 : e.kind = 1
  · rw [if_pos g1] at hres
    simp only [push_cast, ↓reduceIte, Nat.reduceEqDiff, Nat.reduceAdd, Nat.reduceMul, Nat.reduceSub, Nat.reduceLT, Nat.reduceLeDiff, reduceCtorEq, Nat.reduceMod, Int.reduceEq, Int.reduceLT, Int.reduceLE, Int.reduceToNat, dite_true, eq_true g1, hone]
    refine CallV.pure (hasL F vs inn e.name hs) ?_
    rintro _ F2 hF2 rfl
    by_cases t0 : hasB inn e.name = false
    · simp only [push_cast, ↓reduceIte, Nat.reduceEqDiff, Nat.reduceAdd, Nat.reduceMul, Nat.reduceSub, Nat.reduceLT, Nat.reduceLeDiff, reduceCtorEq, Nat.reduceMod, Int.reduceEq, Int.reduceLT, Int.reduceLE, Int.reduceToNat, dite_true, t0, hone]
      refine CallV.own (i := 0) rfl (fail F2 b mb _ ⟨false, 0, 0⟩ e.at_ 31 (.inl ⟨rfl, rfl⟩)) ?_
      rintro _ F5 _ hF5 ⟨v5, rfl, hr5⟩
      have hone5 := hr5.one
      simp only [push_cast, ↓reduceIte, Nat.reduceEqDiff, Nat.reduceAdd, Nat.reduceMul, Nat.reduceSub, Nat.reduceLT, Nat.reduceLeDiff, reduceCtorEq, Nat.reduceMod, Int.reduceEq, Int.reduceLT, Int.reduceLE, Int.reduceToNat, dite_true, hone5]
      refine CallV.own (i := 0) rfl (atoms F5 b mb v5 vs _ _ _ _ (failC ⟨false, 0, 0⟩ e.at_ 31) e inn 0 8 (hr5) (hX'.mono (PH.le_trans (hF2) hF5)) (hs.mono (PH.le_trans (hF2) hF5))) ?_
      rintro _ Fz _ hFz ⟨vz, rfl, hrz⟩
      simp only [push_cast, ↓reduceIte, Nat.reduceEqDiff, Nat.reduceAdd, Nat.reduceMul, Nat.reduceSub, Nat.reduceLT, Nat.reduceLeDiff, reduceCtorEq, Nat.reduceMod, Int.reduceEq, Int.reduceLT, Int.reduceLE, Int.reduceToNat, dite_true]
      have e9 : res = atomsC e.at_ inn e.atoms (whenC ((e.atoms.length : Int) < 0 ∨ 8 < (e.atoms.length : Int)) (failC ⟨false, 0, 0⟩ e.at_ 31) e.at_ 33) := by
        rw [← hres, whenC_congr (show 8 < e.atoms.length ↔ ((e.atoms.length : Int) < 0 ∨ 8 < (e.atoms.length : Int)) by omega), show whenC (hasB inn e.name = false) ⟨false, 0, 0⟩ e.at_ 31 = failC ⟨false, 0, 0⟩ e.at_ 31 from if_pos t0]
      rw [← e9] at hrz
      exact sret rfl hrz
    · simp only [push_cast, ↓reduceIte, Nat.reduceEqDiff, Nat.reduceAdd, Nat.reduceMul, Nat.reduceSub, Nat.reduceLT, Nat.reduceLeDiff, reduceCtorEq, Nat.reduceMod, Int.reduceEq, Int.reduceLT, Int.reduceLE, Int.reduceToNat, dite_true, eq_true_of_ne_false t0, hone]
      refine CallV.own (i := 0) rfl (atoms F2 b mb _ vs _ _ _ _ (⟨false, 0, 0⟩) e inn 0 8 (.inl ⟨rfl, rfl⟩) (hX'.mono (hF2)) (hs.mono (hF2))) ?_
      rintro _ Fz _ hFz ⟨vz, rfl, hrz⟩
      simp only [push_cast, ↓reduceIte, Nat.reduceEqDiff, Nat.reduceAdd, Nat.reduceMul, Nat.reduceSub, Nat.reduceLT, Nat.reduceLeDiff, reduceCtorEq, Nat.reduceMod, Int.reduceEq, Int.reduceLT, Int.reduceLE, Int.reduceToNat, dite_true]
      have e9 : res = atomsC e.at_ inn e.atoms (whenC ((e.atoms.length : Int) < 0 ∨ 8 < (e.atoms.length : Int)) (⟨false, 0, 0⟩) e.at_ 33) := by
        rw [← hres, whenC_congr (show 8 < e.atoms.length ↔ ((e.atoms.length : Int) < 0 ∨ 8 < (e.atoms.length : Int)) by omega), show whenC (hasB inn e.name = false) ⟨false, 0, 0⟩ e.at_ 31 = ⟨false, 0, 0⟩ from if_neg t0]
      rw [← e9] at hrz
      exact sret rfl hrz
  rw [if_neg g1] at hres
  by_cases g2 : e.kind = 2
  · rw [if_pos g2] at hres
    simp only [push_cast, ↓reduceIte, Nat.reduceEqDiff, Nat.reduceAdd, Nat.reduceMul, Nat.reduceSub, Nat.reduceLT, Nat.reduceLeDiff, reduceCtorEq, Nat.reduceMod, Int.reduceEq, Int.reduceLT, Int.reduceLE, Int.reduceToNat, dite_true, g1, eq_true g2, hone]
    refine VC.draw (.q 0 (.q 1 (.q 2 (.q 3 (.q 4 (.q 5 (.e 6 (.q 7 (.q 8 (.q 9 (.q 10 (.q 11 (.done))))))))))))) mixed (by rfl) ?_
    simp only [push_cast, ↓reduceIte, Nat.reduceEqDiff, Nat.reduceAdd, Nat.reduceMul, Nat.reduceSub, Nat.reduceLT, Nat.reduceLeDiff, reduceCtorEq, Nat.reduceMod, Int.reduceEq, Int.reduceLT, Int.reduceLE, Int.reduceToNat, dite_true, hone]
    obtain ⟨es, cm, lm, hm1, hm2, hm3⟩ := hd
    refine Eff.lookup keyStr rfl ty67 rfl Tryd.underlying9 ty3 rfl rfl (.inl hm1) hm2 ?_
    rw [hm3]
    have hget : ((arityD ds e.name).map (Value.int .i64)).getD (.int .i64 0) = .int .i64 ((arityD ds e.name).getD 0) := by cases arityD ds e.name <;> rfl
    have hsome : ((arityD ds e.name).map (Value.int .i64)).isSome = (arityD ds e.name).isSome := by cases arityD ds e.name <;> rfl
    simp only [push_cast, ↓reduceIte, Nat.reduceEqDiff, Nat.reduceAdd, Nat.reduceMul, Nat.reduceSub, Nat.reduceLT, Nat.reduceLeDiff, reduceCtorEq, Nat.reduceMod, Int.reduceEq, Int.reduceLT, Int.reduceLE, Int.reduceToNat, dite_true, hget, hsome]
    refine VC.go 100 ?_
    by_cases t0 : (arityD ds e.name).isSome = false
    · simp only [push_cast, ↓reduceIte, Nat.reduceEqDiff, Nat.reduceAdd, Nat.reduceMul, Nat.reduceSub, Nat.reduceLT, Nat.reduceLeDiff, reduceCtorEq, Nat.reduceMod, Int.reduceEq, Int.reduceLT, Int.reduceLE, Int.reduceToNat, dite_true, t0, hone]
      refine CallV.own (i := 0) rfl (fail F b mb _ ⟨false, 0, 0⟩ e.at_ 32 (.inl ⟨rfl, rfl⟩)) ?_
      rintro _ F5 _ hF5 ⟨v5, rfl, hr5⟩
      have hone5 := hr5.one
      simp only [push_cast, ↓reduceIte, Nat.reduceEqDiff, Nat.reduceAdd, Nat.reduceMul, Nat.reduceSub, Nat.reduceLT, Nat.reduceLeDiff, reduceCtorEq, Nat.reduceMod, Int.reduceEq, Int.reduceLT, Int.reduceLE, Int.reduceToNat, dite_true, hone5]
      refine CallV.own (i := 0) rfl (atoms F5 b mb v5 vs _ _ _ _ (failC ⟨false, 0, 0⟩ e.at_ 32) e inn ((arityD ds e.name).getD 0) ((arityD ds e.name).getD 0) (hr5) (hX'.mono (PH.le_trans (PH.le_refl F) hF5)) (hs.mono (PH.le_trans (PH.le_refl F) hF5))) ?_
      rintro _ Fz _ hFz ⟨vz, rfl, hrz⟩
      simp only [push_cast, ↓reduceIte, Nat.reduceEqDiff, Nat.reduceAdd, Nat.reduceMul, Nat.reduceSub, Nat.reduceLT, Nat.reduceLeDiff, reduceCtorEq, Nat.reduceMod, Int.reduceEq, Int.reduceLT, Int.reduceLE, Int.reduceToNat, dite_true]
      have e9 : res = atomsC e.at_ inn e.atoms (whenC ((e.atoms.length : Int) < ((arityD ds e.name).getD 0) ∨ ((arityD ds e.name).getD 0) < (e.atoms.length : Int)) (failC ⟨false, 0, 0⟩ e.at_ 32) e.at_ 33) := by
        rw [← hres, whenC_congr (show (¬ (e.atoms.length : Int) = (arityD ds e.name).getD 0) ↔ ((e.atoms.length : Int) < (arityD ds e.name).getD 0 ∨ (arityD ds e.name).getD 0 < (e.atoms.length : Int)) by omega), show whenC ((arityD ds e.name).isSome = false) ⟨false, 0, 0⟩ e.at_ 32 = failC ⟨false, 0, 0⟩ e.at_ 32 from if_pos t0]
      rw [← e9] at hrz
      exact sret rfl hrz
    · simp only [push_cast, ↓reduceIte, Nat.reduceEqDiff, Nat.reduceAdd, Nat.reduceMul, Nat.reduceSub, Nat.reduceLT, Nat.reduceLeDiff, reduceCtorEq, Nat.reduceMod, Int.reduceEq, Int.reduceLT, Int.reduceLE, Int.reduceToNat, dite_true, eq_true_of_ne_false t0, hone]
      refine CallV.own (i := 0) rfl (atoms F b mb _ vs _ _ _ _ (⟨false, 0, 0⟩) e inn ((arityD ds e.name).getD 0) ((arityD ds e.name).getD 0) (.inl ⟨rfl, rfl⟩) (hX'.mono (PH.le_refl F)) (hs.mono (PH.le_refl F))) ?_
      rintro _ Fz _ hFz ⟨vz, rfl, hrz⟩
      simp only [push_cast, ↓reduceIte, Nat.reduceEqDiff, Nat.reduceAdd, Nat.reduceMul, Nat.reduceSub, Nat.reduceLT, Nat.reduceLeDiff, reduceCtorEq, Nat.reduceMod, Int.reduceEq, Int.reduceLT, Int.reduceLE, Int.reduceToNat, dite_true]
      have e9 : res = atomsC e.at_ inn e.atoms (whenC ((e.atoms.length : Int) < ((arityD ds e.name).getD 0) ∨ ((arityD ds e.name).getD 0) < (e.atoms.length : Int)) (⟨false, 0, 0⟩) e.at_ 33) := by
        rw [← hres, whenC_congr (show (¬ (e.atoms.length : Int) = (arityD ds e.name).getD 0) ↔ ((e.atoms.length : Int) < (arityD ds e.name).getD 0 ∨ (arityD ds e.name).getD 0 < (e.atoms.length : Int)) by omega), show whenC ((arityD ds e.name).isSome = false) ⟨false, 0, 0⟩ e.at_ 32 = ⟨false, 0, 0⟩ from if_neg t0]
      rw [← e9] at hrz
      exact sret rfl hrz
  rw [if_neg g2] at hres
  by_cases g3 : e.kind = 3
  · rw [if_pos g3] at hres
    simp only [push_cast, ↓reduceIte, Nat.reduceEqDiff, Nat.reduceAdd, Nat.reduceMul, Nat.reduceSub, Nat.reduceLT, Nat.reduceLeDiff, reduceCtorEq, Nat.reduceMod, Int.reduceEq, Int.reduceLT, Int.reduceLE, Int.reduceToNat, dite_true, g1, g2, eq_true g3, hone]
    refine CallV.pure (find F e.name hT) ?_
    rintro _ F2 hF2 rfl
    by_cases t0 : findP e.name = 0
    · simp only [push_cast, ↓reduceIte, Nat.reduceEqDiff, Nat.reduceAdd, Nat.reduceMul, Nat.reduceSub, Nat.reduceLT, Nat.reduceLeDiff, reduceCtorEq, Nat.reduceMod, Int.reduceEq, Int.reduceLT, Int.reduceLE, Int.reduceToNat, dite_true, eq_true t0, hone]
      refine CallV.own (i := 0) rfl (fail F2 b mb _ ⟨false, 0, 0⟩ e.at_ 34 (.inl ⟨rfl, rfl⟩)) ?_
      rintro _ F5 _ hF5 ⟨v5, rfl, hr5⟩
      have hone5 := hr5.one
      simp only [push_cast, ↓reduceIte, Nat.reduceEqDiff, Nat.reduceAdd, Nat.reduceMul, Nat.reduceSub, Nat.reduceLT, Nat.reduceLeDiff, reduceCtorEq, Nat.reduceMod, Int.reduceEq, Int.reduceLT, Int.reduceLE, Int.reduceToNat, dite_true, hone5]
      refine VC.draw (.q 0 (.q 1 (.q 2 (.q 3 (.q 5 (.e 4 (.e 6 (.es 7 [0, 1, 2, 3, 5] (.done))))))))) mixed (by rfl) ?_
      simp only [push_cast, ↓reduceIte, Nat.reduceEqDiff, Nat.reduceAdd, Nat.reduceMul, Nat.reduceSub, Nat.reduceLT, Nat.reduceLeDiff, reduceCtorEq, Nat.reduceMod, Int.reduceEq, Int.reduceLT, Int.reduceLE, Int.reduceToNat, dite_true, hone5]
      refine CallV.pure (arityPrim F5 (findP e.name) (hT.mono (PH.le_trans (hF2) hF5))) ?_
      rintro _ Fk hFk rfl
      simp only [push_cast, ↓reduceIte, Nat.reduceEqDiff, Nat.reduceAdd, Nat.reduceMul, Nat.reduceSub, Nat.reduceLT, Nat.reduceLeDiff, reduceCtorEq, Nat.reduceMod, Int.reduceEq, Int.reduceLT, Int.reduceLE, Int.reduceToNat, dite_true, hone5]
      refine CallV.pure (arityPrim Fk (findP e.name) (hT.mono (PH.le_trans (PH.le_trans (hF2) hF5) hFk))) ?_
      rintro _ Fl hFl rfl
      have hFm := PH.le_trans hFk hFl
      simp only [push_cast, ↓reduceIte, Nat.reduceEqDiff, Nat.reduceAdd, Nat.reduceMul, Nat.reduceSub, Nat.reduceLT, Nat.reduceLeDiff, reduceCtorEq, Nat.reduceMod, Int.reduceEq, Int.reduceLT, Int.reduceLE, Int.reduceToNat, dite_true, hone5]
      refine CallV.own (i := 0) rfl (atoms Fl b mb v5 vs _ _ _ _ (failC ⟨false, 0, 0⟩ e.at_ 34) e inn (arityP (findP e.name)) (arityP (findP e.name)) (hr5.mono hFm) (hX'.mono (PH.le_trans (PH.le_trans (hF2) hF5) hFm)) (hs.mono (PH.le_trans (PH.le_trans (hF2) hF5) hFm))) ?_
      rintro _ Fz _ hFz ⟨vz, rfl, hrz⟩
      simp only [push_cast, ↓reduceIte, Nat.reduceEqDiff, Nat.reduceAdd, Nat.reduceMul, Nat.reduceSub, Nat.reduceLT, Nat.reduceLeDiff, reduceCtorEq, Nat.reduceMod, Int.reduceEq, Int.reduceLT, Int.reduceLE, Int.reduceToNat, dite_true]
      refine VC.go 100 ?_
      simp only [push_cast, ↓reduceIte, Nat.reduceEqDiff, Nat.reduceAdd, Nat.reduceMul, Nat.reduceSub, Nat.reduceLT, Nat.reduceLeDiff, reduceCtorEq, Nat.reduceMod, Int.reduceEq, Int.reduceLT, Int.reduceLE, Int.reduceToNat, dite_true]
      have e9 : res = atomsC e.at_ inn e.atoms (whenC ((e.atoms.length : Int) < (arityP (findP e.name)) ∨ (arityP (findP e.name)) < (e.atoms.length : Int)) (failC ⟨false, 0, 0⟩ e.at_ 34) e.at_ 33) := by
        rw [← hres, whenC_congr (show (¬ (e.atoms.length : Int) = arityP (findP e.name)) ↔ ((e.atoms.length : Int) < arityP (findP e.name) ∨ arityP (findP e.name) < (e.atoms.length : Int)) by omega), show whenC (findP e.name = 0) ⟨false, 0, 0⟩ e.at_ 34 = failC ⟨false, 0, 0⟩ e.at_ 34 from if_pos t0]
      rw [← e9] at hrz
      exact sret rfl hrz
    · simp only [push_cast, ↓reduceIte, Nat.reduceEqDiff, Nat.reduceAdd, Nat.reduceMul, Nat.reduceSub, Nat.reduceLT, Nat.reduceLeDiff, reduceCtorEq, Nat.reduceMod, Int.reduceEq, Int.reduceLT, Int.reduceLE, Int.reduceToNat, dite_true, t0, hone]
      refine VC.draw (.q 0 (.q 1 (.q 2 (.q 3 (.q 5 (.e 4 (.e 6 (.es 7 [0, 1, 2, 3, 5] (.done))))))))) mixed (by rfl) ?_
      simp only [push_cast, ↓reduceIte, Nat.reduceEqDiff, Nat.reduceAdd, Nat.reduceMul, Nat.reduceSub, Nat.reduceLT, Nat.reduceLeDiff, reduceCtorEq, Nat.reduceMod, Int.reduceEq, Int.reduceLT, Int.reduceLE, Int.reduceToNat, dite_true, hone]
      refine CallV.pure (arityPrim F2 (findP e.name) (hT.mono (hF2))) ?_
      rintro _ Fk hFk rfl
      simp only [push_cast, ↓reduceIte, Nat.reduceEqDiff, Nat.reduceAdd, Nat.reduceMul, Nat.reduceSub, Nat.reduceLT, Nat.reduceLeDiff, reduceCtorEq, Nat.reduceMod, Int.reduceEq, Int.reduceLT, Int.reduceLE, Int.reduceToNat, dite_true, hone]
      refine CallV.pure (arityPrim Fk (findP e.name) (hT.mono (PH.le_trans (hF2) hFk))) ?_
      rintro _ Fl hFl rfl
      have hFm := PH.le_trans hFk hFl
      simp only [push_cast, ↓reduceIte, Nat.reduceEqDiff, Nat.reduceAdd, Nat.reduceMul, Nat.reduceSub, Nat.reduceLT, Nat.reduceLeDiff, reduceCtorEq, Nat.reduceMod, Int.reduceEq, Int.reduceLT, Int.reduceLE, Int.reduceToNat, dite_true, hone]
      refine CallV.own (i := 0) rfl (atoms Fl b mb _ vs _ _ _ _ (⟨false, 0, 0⟩) e inn (arityP (findP e.name)) (arityP (findP e.name)) (.inl ⟨rfl, rfl⟩) (hX'.mono (PH.le_trans (hF2) hFm)) (hs.mono (PH.le_trans (hF2) hFm))) ?_
      rintro _ Fz _ hFz ⟨vz, rfl, hrz⟩
      simp only [push_cast, ↓reduceIte, Nat.reduceEqDiff, Nat.reduceAdd, Nat.reduceMul, Nat.reduceSub, Nat.reduceLT, Nat.reduceLeDiff, reduceCtorEq, Nat.reduceMod, Int.reduceEq, Int.reduceLT, Int.reduceLE, Int.reduceToNat, dite_true]
      refine VC.go 100 ?_
      simp only [push_cast, ↓reduceIte, Nat.reduceEqDiff, Nat.reduceAdd, Nat.reduceMul, Nat.reduceSub, Nat.reduceLT, Nat.reduceLeDiff, reduceCtorEq, Nat.reduceMod, Int.reduceEq, Int.reduceLT, Int.reduceLE, Int.reduceToNat, dite_true]
      have e9 : res = atomsC e.at_ inn e.atoms (whenC ((e.atoms.length : Int) < (arityP (findP e.name)) ∨ (arityP (findP e.name)) < (e.atoms.length : Int)) (⟨false, 0, 0⟩) e.at_ 33) := by
        rw [← hres, whenC_congr (show (¬ (e.atoms.length : Int) = arityP (findP e.name)) ↔ ((e.atoms.length : Int) < arityP (findP e.name) ∨ arityP (findP e.name) < (e.atoms.length : Int)) by omega), show whenC (findP e.name = 0) ⟨false, 0, 0⟩ e.at_ 34 = ⟨false, 0, 0⟩ from if_neg t0]
      rw [← e9] at hrz
      exact sret rfl hrz
  rw [if_neg g3] at hres
  by_cases g4 : e.kind = 4
  · rw [if_pos g4] at hres
    simp only [push_cast, ↓reduceIte, Nat.reduceEqDiff, Nat.reduceAdd, Nat.reduceMul, Nat.reduceSub, Nat.reduceLT, Nat.reduceLeDiff, reduceCtorEq, Nat.reduceMod, Int.reduceEq, Int.reduceLT, Int.reduceLE, Int.reduceToNat, dite_true, g1, g2, g3, eq_true g4]
    subst hres
    exact sret rfl (.inl ⟨rfl, rfl⟩)
  rw [if_neg g4] at hres
  by_cases g5 : e.kind = 5
  · rw [if_pos g5] at hres
    simp only [push_cast, ↓reduceIte, Nat.reduceEqDiff, Nat.reduceAdd, Nat.reduceMul, Nat.reduceSub, Nat.reduceLT, Nat.reduceLeDiff, reduceCtorEq, Nat.reduceMod, Int.reduceEq, Int.reduceLT, Int.reduceLE, Int.reduceToNat, dite_true, g1, g2, g3, g4, eq_true g5]
    refine CallV.own (i := 0) rfl (let_ ds e ih F b mb _ vs _ _ _ _ ⟨false, 0, 0⟩ inn (.inl ⟨rfl, rfl⟩) hX' hs hd hT hsz) ?_
    rintro _ Fz _ hFz ⟨vz, rfl, hrz⟩
    simp only [push_cast, ↓reduceIte, Nat.reduceEqDiff, Nat.reduceAdd, Nat.reduceMul, Nat.reduceSub, Nat.reduceLT, Nat.reduceLeDiff, reduceCtorEq, Nat.reduceMod, Int.reduceEq, Int.reduceLT, Int.reduceLE, Int.reduceToNat, dite_true]
    have e9 : letC ds e inn ⟨false, 0, 0⟩ = res := hres
    rw [e9] at hrz
    exact sret rfl hrz
  rw [if_neg g5] at hres
  by_cases g6 : e.kind = 6
  · rw [if_pos g6] at hres
    simp only [push_cast, ↓reduceIte, Nat.reduceEqDiff, Nat.reduceAdd, Nat.reduceMul, Nat.reduceSub, Nat.reduceLT, Nat.reduceLeDiff, reduceCtorEq, Nat.reduceMod, Int.reduceEq, Int.reduceLT, Int.reduceLE, Int.reduceToNat, dite_true, g1, g2, g3, g4, g5, eq_true g6]
    refine CallV.own (i := 0) rfl (cases_ ds hds e ih F b mb _ vs _ _ _ _ ⟨false, 0, 0⟩ inn (.inl ⟨rfl, rfl⟩) hX' hs hd hT hsz) ?_
    rintro _ Fz _ hFz ⟨vz, rfl, hrz⟩
    simp only [push_cast, ↓reduceIte, Nat.reduceEqDiff, Nat.reduceAdd, Nat.reduceMul, Nat.reduceSub, Nat.reduceLT, Nat.reduceLeDiff, reduceCtorEq, Nat.reduceMod, Int.reduceEq, Int.reduceLT, Int.reduceLE, Int.reduceToNat, dite_true]
    have e9 : casesC ds e inn ⟨false, 0, 0⟩ = res := hres
    rw [e9] at hrz
    exact sret rfl hrz
  rw [if_neg g6] at hres
  simp only [push_cast, ↓reduceIte, Nat.reduceEqDiff, Nat.reduceAdd, Nat.reduceMul, Nat.reduceSub, Nat.reduceLT, Nat.reduceLeDiff, reduceCtorEq, Nat.reduceMod, Int.reduceEq, Int.reduceLT, Int.reduceLE, Int.reduceToNat, dite_true, g1, g2, g3, g4, g5, g6]
  refine CallV.own (i := 0) rfl (fail F b mb _ ⟨false, 0, 0⟩ e.at_ 2 (.inl ⟨rfl, rfl⟩)) ?_
  rintro _ Fz _ hFz ⟨vz, rfl, hrz⟩
  simp only [push_cast, ↓reduceIte, Nat.reduceEqDiff, Nat.reduceAdd, Nat.reduceMul, Nat.reduceSub, Nat.reduceLT, Nat.reduceLeDiff, reduceCtorEq, Nat.reduceMod, Int.reduceEq, Int.reduceLT, Int.reduceLE, Int.reduceToNat, dite_true]
  rw [hres] at hrz
  exact sret rfl hrz
theorem exp_all (ds : List Dat) (hds : ∀ d ∈ ds, d.arity ≤ 8) (n : Nat) : ∀ e : Exp, e.size = n → ExpS ds e := by
  induction n using Nat.strongRecOn with
  | _ n ih =>
    intro e he
    exact exp_ok ds hds e fun e' h => ih e'.size (by omega) e' rfl
end Go.Proofs.YtoepmdbicdoieaaDoor.P

/- Package scope: Check answers as the document's checker does. (Written by gen/p8.py.) -/
namespace Go.Proofs.YtoepmdbicdoieaaDoor.P
open Go Go.Eng Go.Proofs Go.Proofs.YtoepmdbicdoieaaDoor.T Go.Proofs.YtoepmdbicdoieaaDoor.K
set_option linter.unusedSimpArgs false
set_option linter.unusedVariables false
set_option maxRecDepth 100000
set_option maxHeartbeats 8000000
/-! What is bad stays so. -/
theorem twiceD_bad (d : Dat) : ∀ (p : List Dat) (c : Ck), c.bad = true → twiceD p d c = c
  | [], _, _ => rfl
  | x :: p, c, h => by
    show twiceD p d (whenC (x.name = d.name) c d.at_ 30) = c
    rw [whenC_bad h, twiceD_bad d p c h]
theorem datasC_bad : ∀ (l p : List Dat) (c : Ck), c.bad = true → datasC p l c = c
  | [], _, _, _ => rfl
  | d :: l, p, c, h => by
    simp only [datasC]
    rw [show stepDat p d c = c from by rw [stepDat, twiceD_bad d p c h, whenC_bad h], datasC_bad l _ c h]
theorem dupC_bad : ∀ (l : List Bind) (p : List ByteArray) (c : Ck), c.bad = true → dupC p l c = c
  | [], _, _, _ => rfl
  | b :: l, p, c, h => by
    simp only [dupC]
    rw [show stepD p b c = c from by rw [stepD, whenC_bad (c := c) h, whenC_bad h], dupC_bad l _ c h]
theorem bindsC_bad (ds : List Dat) (inn : List ByteArray) : ∀ (l : List Bind) (c : Ck), c.bad = true → bindsC ds l inn c = c
  | [], c, _ => by simp [bindsC]
  | b :: l, c, h => by
    simp only [bindsC]
    rw [show formC ds b inn c = c from by rw [formC_eq, if_pos h], bindsC_bad ds inn l c h]
theorem datasC_append : ∀ (l m p : List Dat) (c : Ck), datasC p (l ++ m) c = datasC (p ++ l) m (datasC p l c)
  | [], m, p, c => by simp [datasC]
  | x :: l, m, p, c => by rw [List.cons_append, datasC, datasC, datasC_append l m]; simp
theorem dupC_append : ∀ (l m : List Bind) (p : List ByteArray) (c : Ck), dupC p (l ++ m) c = dupC (p ++ l.map Bind.name) m (dupC p l c)
  | [], m, p, c => by simp [dupC]
  | x :: l, m, p, c => by rw [List.cons_append, dupC, dupC, dupC_append l m]; simp
/-- The first fault of the constructors is the fault. -/
theorem check_datas {ds : List Dat} {bl : List Bind} {k : Nat} (h : (datasC [] (ds.take k) ⟨false, 0, 0⟩).bad = true) : checkC ds bl = datasC [] (ds.take k) ⟨false, 0, 0⟩ := by
  have h1 : datasC [] ds ⟨false, 0, 0⟩ = datasC [] (ds.take k) ⟨false, 0, 0⟩ := by
    rw [← List.take_append_drop k ds, datasC_append, List.take_append_drop]
    exact datasC_bad _ _ _ h
  unfold checkC
  rw [h1, dupC_bad _ _ _ h, bindsC_bad _ _ _ _ h, whenC_bad h]
theorem check_dup {ds : List Dat} {bl : List Bind} {k : Nat} (hd : datasC [] ds ⟨false, 0, 0⟩ = ⟨false, 0, 0⟩) (h : (dupC [] (bl.take k) ⟨false, 0, 0⟩).bad = true) : checkC ds bl = dupC [] (bl.take k) ⟨false, 0, 0⟩ := by
  have h1 : dupC [] bl ⟨false, 0, 0⟩ = dupC [] (bl.take k) ⟨false, 0, 0⟩ := by
    rw [← List.take_append_drop k bl, dupC_append, List.take_append_drop]
    exact dupC_bad _ _ _ h
  unfold checkC
  rw [hd, h1, bindsC_bad _ _ _ _ h, whenC_bad h]
theorem twiceD_any (d : Dat) : ∀ (p : List Dat) (c : Ck), twiceD p d c = if (arityD p d.name).isSome = true then failC c d.at_ 30 else c
  | [], c => rfl
  | x :: p, c => by
    show twiceD p d (whenC (x.name = d.name) c d.at_ 30) = _
    rw [twiceD_any d p, arityD]
    by_cases h : x.name = d.name
    · simp only [whenC, if_pos h, Option.isSome_some, if_true, failC_fail, ite_self]
    · simp only [whenC, if_neg h]
theorem arityD_snoc (l : List Dat) (d : Dat) (s : ByteArray) : arityD (l ++ [d]) s = match arityD l s with
    | some m => some m
    | none => if d.name = s then some d.arity else none := by
  induction l with
  | nil => simp [arityD]
  | cons x l ih =>
    simp only [List.cons_append, arityD]
    split
    · rfl
    · exact ih
theorem check (ds : List Dat) (bl : List Bind) (F : PH) (vd vb : Value) (hd : Dats F vd ds) (hbs : SlE F 11 (RBind F) vb bl) (hT : Table F) (hs : sizeBs bl ≤ 10000000) :
    PFn Tryd.prog 18 [.agg #[vd, vb]] F (fun v _ => v = .tuple #[.int .i64 (checkC ds bl).at_, .int .i64 (checkC ds bl).e]) := by
  have hd' := hd
  have hb' := hbs
  have hbn := sizeBs_count bl
  obtain ⟨pd, cd, rfl, hd1, hd2⟩ := hd.val
  obtain ⟨pb, cb, rfl, hb1, hb2⟩ := hbs.val
  generalize hres : checkC ds bl = res
  refine Fn.intro (n := 139) (ts := [2, 3]) Tryd.func18 rfl rfl rfl rfl (by simp) fun B hB => VC.go 100 ?_
  simp only [push_cast, ↓reduceIte, Nat.reduceEqDiff, Nat.reduceAdd, Nat.reduceMul, Nat.reduceSub, Nat.reduceLT, Nat.reduceLeDiff, reduceCtorEq, Nat.reduceMod, Int.reduceEq, Int.reduceLT, Int.reduceLE, Int.reduceToNat, dite_true]
  intro b1
  refine Eff.makeMap rfl fun mb => ?_
  simp only [push_cast, ↓reduceIte, Nat.reduceEqDiff, Nat.reduceAdd, Nat.reduceMul, Nat.reduceSub, Nat.reduceLT, Nat.reduceLeDiff, reduceCtorEq, Nat.reduceMod, Int.reduceEq, Int.reduceLT, Int.reduceLE, Int.reduceToNat, dite_true]
  intro bc
  refine VC.loopP (ι := Nat × Array MapEntry × Nat) (fun i => [(23, .v (.int .i64 i.1)), (22, .v (.int .i64 ds.length)), (21, .v (.slice pd ds.length cd)), (4, .o 1 bc 0), (1, .o 0 b1 0)]) (fun _ => F) (fun i => [PH.one mb (.map i.2.1 i.2.2)]) (fun i => i.1 ≤ ds.length ∧ datasC [] (ds.take i.1) ⟨false, 0, 0⟩ = ⟨false, 0, 0⟩ ∧ (∀ d ∈ ds.take i.1, d.arity ≤ 8) ∧ ∃ l, MapAs Value.string i.2.1 l ∧ ∀ s, mget l s = (arityD (ds.take i.1) s).map (Value.int .i64)) (fun i => ds.length - i.1) (0, #[], 0) ⟨Nat.zero_le _, rfl, (fun _ h => nomatch h), [], rfl, fun s => rfl⟩ (by simp [subk, Eng.look]) rfl (subR_refl _) ?_
  rintro ⟨k, es, cm⟩ ⟨hk, hc, h8, l, hes, hget⟩ G0 hG0
  dsimp only at hk hc h8 hes hget hG0 ⊢
  refine VC.go 100 ?_
  by_cases h : k < ds.length
  case pos =>
    have h' : (k : Int) < (ds.length : Int) := by omega
    have h0 : (0 : Int) ≤ (k : Int) := by omega
    have e2 : IntKind.i64.wrap ((k : Int) + 1) = ((k + 1 : Nat) : Int) := wadd k h (Nat.le_trans hd1 hd2)
    obtain ⟨q, _, cs, eq, _, _, kl, kr⟩ := hd'.elem (by decide) (i := k) (a := ds[k]) (List.getElem?_eq_getElem h) (fun _ _ h => h.len)
    cases eq
    obtain rfl := kr
    have htk0 : ds.take (k + 1) = ds.take k ++ [ds[k]] := List.take_succ_eq_append_getElem h
    obtain ⟨d, hdk⟩ : ∃ d, d = ds[k] := ⟨_, rfl⟩
    have htk : ds.take (k + 1) = ds.take k ++ [d] := by rw [hdk]; exact htk0
    rw [← hdk] at kl
    have ht : datasC [] (ds.take (k + 1)) ⟨false, 0, 0⟩ = stepDat (ds.take k) d ⟨false, 0, 0⟩ := by rw [htk, datasC_snoc, hc]; simp
    have kc1 := cell_at kl (o := 1) rfl
    simp only [push_cast, ↓reduceIte, Nat.reduceEqDiff, Nat.reduceAdd, Nat.reduceMul, Nat.reduceSub, Nat.reduceLT, Nat.reduceLeDiff, reduceCtorEq, Nat.reduceMod, Int.reduceEq, Int.reduceLT, Int.reduceLE, Int.reduceToNat, dite_true, h', h0, kl]
    intro b2
    refine VC.draw (.q 0 (.q 1 (.q 2 (.q 3 (.q 4 (.q 5 (.e 6 (.q 7 (.q 8 (.q 9 (.q 10 (.q 11 (.done))))))))))))) mixed (by rfl) ?_
    simp only [push_cast, ↓reduceIte, Nat.reduceEqDiff, Nat.reduceAdd, Nat.reduceMul, Nat.reduceSub, Nat.reduceLT, Nat.reduceLeDiff, reduceCtorEq, Nat.reduceMod, Int.reduceEq, Int.reduceLT, Int.reduceLE, Int.reduceToNat, dite_true]
    refine Eff.lookup keyStr rfl ty67 rfl Tryd.underlying9 ty3 rfl rfl (.inr ⟨_, List.mem_cons_self, PH.one_self _ _⟩) hes ?_
    rw [hget]
    cases ha : arityD (ds.take k) d.name with
    | some m =>
      simp only [push_cast, ↓reduceIte, Nat.reduceEqDiff, Nat.reduceAdd, Nat.reduceMul, Nat.reduceSub, Nat.reduceLT, Nat.reduceLeDiff, reduceCtorEq, Nat.reduceMod, Int.reduceEq, Int.reduceLT, Int.reduceLE, Int.reduceToNat, dite_true, Option.map_some, Option.getD_some, Option.isSome_some]
      refine VC.go 100 ?_
      simp only [push_cast, ↓reduceIte, Nat.reduceEqDiff, Nat.reduceAdd, Nat.reduceMul, Nat.reduceSub, Nat.reduceLT, Nat.reduceLeDiff, reduceCtorEq, Nat.reduceMod, Int.reduceEq, Int.reduceLT, Int.reduceLE, Int.reduceToNat, dite_true]
      have e9 : datasC [] (ds.take (k + 1)) ⟨false, 0, 0⟩ = ⟨true, d.at_, 30⟩ := by
        rw [ht, stepDat, twiceD_any, ha]
        simp [failC, whenC]
      have e8 : res = ⟨true, d.at_, 30⟩ := by rw [← hres, check_datas (k := k + 1) (by rw [e9]), e9]
      subst e8
      exact RetOk.p rfl rfl
    | none =>
      simp only [push_cast, ↓reduceIte, Nat.reduceEqDiff, Nat.reduceAdd, Nat.reduceMul, Nat.reduceSub, Nat.reduceLT, Nat.reduceLeDiff, reduceCtorEq, Nat.reduceMod, Int.reduceEq, Int.reduceLT, Int.reduceLE, Int.reduceToNat, dite_true, Option.map_none, Option.getD_none, Option.isSome_none]
      refine VC.go 100 ?_
      have e7 : stepDat (ds.take k) d ⟨false, 0, 0⟩ = whenC (d.arity < 0 ∨ 8 < d.arity) ⟨false, 0, 0⟩ d.at_ 33 := by
        rw [stepDat, twiceD_any, ha]; simp
      by_cases a1 : d.arity < 0
      · simp only [push_cast, ↓reduceIte, Nat.reduceEqDiff, Nat.reduceAdd, Nat.reduceMul, Nat.reduceSub, Nat.reduceLT, Nat.reduceLeDiff, reduceCtorEq, Nat.reduceMod, Int.reduceEq, Int.reduceLT, Int.reduceLE, Int.reduceToNat, dite_true, a1]
        have e8 : res = ⟨true, d.at_, 33⟩ := by
          have e9 : datasC [] (ds.take (k + 1)) ⟨false, 0, 0⟩ = ⟨true, d.at_, 33⟩ := by rw [ht, e7, whenC, if_pos (.inl a1)]; rfl
          rw [← hres, check_datas (k := k + 1) (by rw [e9]), e9]
        subst e8
        exact RetOk.p rfl rfl
      by_cases a2 : 8 < d.arity
      · simp only [push_cast, ↓reduceIte, Nat.reduceEqDiff, Nat.reduceAdd, Nat.reduceMul, Nat.reduceSub, Nat.reduceLT, Nat.reduceLeDiff, reduceCtorEq, Nat.reduceMod, Int.reduceEq, Int.reduceLT, Int.reduceLE, Int.reduceToNat, dite_true, a1, a2]
        have e8 : res = ⟨true, d.at_, 33⟩ := by
          have e9 : datasC [] (ds.take (k + 1)) ⟨false, 0, 0⟩ = ⟨true, d.at_, 33⟩ := by rw [ht, e7, whenC, if_pos (.inr a2)]; rfl
          rw [← hres, check_datas (k := k + 1) (by rw [e9]), e9]
        subst e8
        exact RetOk.p rfl rfl
      simp only [push_cast, ↓reduceIte, Nat.reduceEqDiff, Nat.reduceAdd, Nat.reduceMul, Nat.reduceSub, Nat.reduceLT, Nat.reduceLeDiff, reduceCtorEq, Nat.reduceMod, Int.reduceEq, Int.reduceLT, Int.reduceLE, Int.reduceToNat, dite_true, a1, a2]
      refine VC.draw (.q 0 (.q 1 (.q 2 (.q 3 (.q 4 (.q 5 (.q 6 (.q 7 (.q 8 (.q 9 (.q 10 (.q 11 (.e 12 (.done)))))))))))))) mixed (by rfl) ?_
      simp only [push_cast, ↓reduceIte, Nat.reduceEqDiff, Nat.reduceAdd, Nat.reduceMul, Nat.reduceSub, Nat.reduceLT, Nat.reduceLeDiff, reduceCtorEq, Nat.reduceMod, Int.reduceEq, Int.reduceLT, Int.reduceLE, Int.reduceToNat, dite_true, h', h0, kc1]
      refine Eff.update keyStr rfl rfl ty67 rfl Tryd.underlying9 rfl rfl rfl (List.Perm.refl _) hes fun es' c' hes' => ?_
      simp only [push_cast, ↓reduceIte, Nat.reduceEqDiff, Nat.reduceAdd, Nat.reduceMul, Nat.reduceSub, Nat.reduceLT, Nat.reduceLeDiff, reduceCtorEq, Nat.reduceMod, Int.reduceEq, Int.reduceLT, Int.reduceLE, Int.reduceToNat, dite_true]
      refine VC.go 100 ?_
      simp only [push_cast, ↓reduceIte, Nat.reduceEqDiff, Nat.reduceAdd, Nat.reduceMul, Nat.reduceSub, Nat.reduceLT, Nat.reduceLeDiff, reduceCtorEq, Nat.reduceMod, Int.reduceEq, Int.reduceLT, Int.reduceLE, Int.reduceToNat, dite_true, e2]
      refine hG0 (k + 1, es', c') _ ⟨by simp; omega, ?_, fun x hx => ?_, _, hes', fun s => ?_⟩ (by simp; omega) (by simp [subk, Eng.look]) (by simp) rfl (subR_refl _)
      · dsimp only; rw [ht, e7, whenC, if_neg (fun h => h.elim a1 a2)]
      · dsimp only at hx
        rw [htk] at hx
        rcases List.mem_append.1 hx with hx | hx
        · exact h8 x hx
        · rw [List.mem_singleton.1 hx]; omega
      · dsimp only
        rw [mget_mput, hget, htk, arityD_snoc]
        by_cases e : d.name = s
        · subst e; rw [ha]; simp
        · rw [if_neg e]
          cases arityD (ds.take k) s with
          | none => simp [e]
          | some m => rfl
  have h' : ¬ (k : Int) < (ds.length : Int) := by omega
  rw [List.take_of_length_le (by omega)] at hc h8
  have hget' : ∀ s, mget l s = (arityD ds s).map (Value.int .i64) := by
    intro s; rw [hget, List.take_of_length_le (by omega)]
  clear hG0 hget hk
  simp only [push_cast, ↓reduceIte, Nat.reduceEqDiff, Nat.reduceAdd, Nat.reduceMul, Nat.reduceSub, Nat.reduceLT, Nat.reduceLeDiff, reduceCtorEq, Nat.reduceMod, Int.reduceEq, Int.reduceLT, Int.reduceLE, Int.reduceToNat, dite_true, h']
  refine VC.freezeR (List.Perm.refl _) fun F1 hF1 hmb => ?_
  have hcons : Cons F1 mb ds := ⟨es, cm, l, hmb mb _ (PH.one_self _ _), hes, hget'⟩
  obtain ⟨own, ho⟩ : ∃ own, own = bl.map Bind.name := ⟨_, rfl⟩
  have hol : own.length = bl.length := by rw [ho]; simp
  refine VC.loopF (ι := Nat × Value × PH) (fun i => [(67, .v (.int .i64 i.1)), (66, .v (.int .i64 bl.length)), (65, .v (.slice pb bl.length cb)), (9, .v i.2.1), (4, .o 1 bc 0), (1, .o 0 b1 0)]) (fun i => i.2.2) (fun i => i.1 ≤ bl.length ∧ F1.le i.2.2 ∧ ScpL i.2.2 i.2.1 (own.take i.1) ∧ dupC [] (bl.take i.1) ⟨false, 0, 0⟩ = ⟨false, 0, 0⟩) (fun i => bl.length - i.1) (0, .pointer none, F1) ⟨Nat.zero_le _, PH.le_refl _, ⟨0, _, .nil, fun s => by simp [hasB]⟩, rfl⟩ (by simp [subk, Eng.look]) rfl ?_
  rintro ⟨j, v9, F2⟩ ⟨hj, hF2, hsc, hdup⟩ G1 hG1
  dsimp only at hj hF2 hsc hdup hG1 ⊢
  have hFF2 := PH.le_trans hF1 hF2
  refine VC.go 100 ?_
  by_cases h2 : j < bl.length
  case pos =>
    have h' : (j : Int) < (bl.length : Int) := by omega
    have h0 : (0 : Int) ≤ (j : Int) := by omega
    have hjo : j < own.length := by omega
    have e2 : IntKind.i64.wrap ((j : Int) + 1) = ((j + 1 : Nat) : Int) := wadd j h2 (Nat.le_trans hb1 hb2)
    obtain ⟨q, _, cs, eq, _, _, kl, kr⟩ := (hb'.mono (R' := RBind F2) hFF2 (fun _ _ _ h => h.mono hFF2)).elem (by decide) (i := j) (a := bl[j]) (List.getElem?_eq_getElem h2) (fun _ _ h => h.len)
    cases eq
    have hnj : (bl[j]).name = own[j] := by subst ho; simp
    have hpj : [] ++ (bl.take j).map Bind.name = own.take j := by subst ho; simp [List.map_take]
    have ht : dupC [] (bl.take (j + 1)) ⟨false, 0, 0⟩ = whenC (hasB (own.take j) own[j] = true) (whenC (own[j] = ⟨#[]⟩) ⟨false, 0, 0⟩ (bl[j]).at_ 31) (bl[j]).at_ 30 := by
      rw [List.take_succ_eq_append_getElem h2, dupC_snoc, hdup, hpj, stepD, hnj]
    obtain ⟨bd, hbk⟩ : ∃ bd, bd = bl[j] := ⟨_, rfl⟩
    rw [← hbk] at hnj ht kr
    obtain ⟨wv, cc, rfl, hwv, hcc⟩ := RBind_iff.1 kr
    obtain ⟨xa, xb, xe, xl, rfl, hx⟩ := RExp_iff.1 hcc
    obtain ⟨pv, cv, rfl, _, _, _⟩ := hwv
    obtain ⟨_, _, _, _, _, _, _, _, rfl, rfl, rfl, rfl⟩ := hx.slices
    by_cases g : bd.name = ⟨#[]⟩
    · simp only [push_cast, ↓reduceIte, Nat.reduceEqDiff, Nat.reduceAdd, Nat.reduceMul, Nat.reduceSub, Nat.reduceLT, Nat.reduceLeDiff, reduceCtorEq, Nat.reduceMod, Int.reduceEq, Int.reduceLT, Int.reduceLE, Int.reduceToNat, dite_true, h', h0, kl, eq_true g]
      intro b11
      have e9 : dupC [] (bl.take (j + 1)) ⟨false, 0, 0⟩ = ⟨true, bd.at_, 31⟩ := by
        rw [ht, show whenC (own[j] = ⟨#[]⟩) ⟨false, 0, 0⟩ bd.at_ 31 = ⟨true, bd.at_, 31⟩ from by rw [whenC, if_pos (by rw [← hnj]; exact g)]; rfl, whenC_bad rfl]
      have e8 : res = ⟨true, bd.at_, 31⟩ := by rw [← hres, check_dup hc (k := j + 1) (by rw [e9]), e9]
      subst e8
      exact RetOk.p rfl rfl
    rw [show whenC (own[j] = ⟨#[]⟩) ⟨false, 0, 0⟩ bd.at_ 31 = ⟨false, 0, 0⟩ from if_neg (by rw [← hnj]; exact g)] at ht
    simp only [push_cast, ↓reduceIte, Nat.reduceEqDiff, Nat.reduceAdd, Nat.reduceMul, Nat.reduceSub, Nat.reduceLT, Nat.reduceLeDiff, reduceCtorEq, Nat.reduceMod, Int.reduceEq, Int.reduceLT, Int.reduceLE, Int.reduceToNat, dite_true, h', h0, kl, g]
    intro b11
    refine CallV.pure (hasL F2 v9 (own.take j) bd.name hsc) ?_
    rintro _ F3 hF3 rfl
    rw [hnj]
    cases hh : hasB (own.take j) own[j] with
    | true =>
      simp only [push_cast, ↓reduceIte, Nat.reduceEqDiff, Nat.reduceAdd, Nat.reduceMul, Nat.reduceSub, Nat.reduceLT, Nat.reduceLeDiff, reduceCtorEq, Nat.reduceMod, Int.reduceEq, Int.reduceLT, Int.reduceLE, Int.reduceToNat, dite_true]
      rw [hh] at ht
      have e8 : res = ⟨true, bd.at_, 30⟩ := by
        have e9 : dupC [] (bl.take (j + 1)) ⟨false, 0, 0⟩ = ⟨true, bd.at_, 30⟩ := by rw [ht, whenC, if_pos rfl]; rfl
        rw [← hres, check_dup hc (k := j + 1) (by rw [e9]), e9]
      subst e8
      exact RetOk.p rfl rfl
    | false =>
      simp only [push_cast, ↓reduceIte, Nat.reduceEqDiff, Nat.reduceAdd, Nat.reduceMul, Nat.reduceSub, Nat.reduceLT, Nat.reduceLeDiff, reduceCtorEq, Nat.reduceMod, Int.reduceEq, Int.reduceLT, Int.reduceLE, Int.reduceToNat, dite_true]
      intro b85 F4 hF4 hb85
      refine CallV.pure (withL F4 v9 _ (own.take j) [own[j]] (hsc.mono (PH.le_trans hF3 hF4)) (strs_blk (l := [own[j]]) hb85 one_max)) ?_
      intro v10 F5 hF5 hs5
      rw [hh] at ht
      simp only [push_cast, ↓reduceIte, Nat.reduceEqDiff, Nat.reduceAdd, Nat.reduceMul, Nat.reduceSub, Nat.reduceLT, Nat.reduceLeDiff, reduceCtorEq, Nat.reduceMod, Int.reduceEq, Int.reduceLT, Int.reduceLE, Int.reduceToNat, dite_true, e2]
      refine hG1 (j + 1, v10, F5) _ ⟨by simp; omega, PH.le_trans hF2 (PH.le_trans hF3 (PH.le_trans hF4 hF5)), ?_, ?_⟩ (by simp; omega) (by simp [subk, Eng.look]) (by simp) rfl rfl
      · dsimp only; rw [List.take_succ_eq_append_getElem hjo]; exact hs5
      · dsimp only; rw [ht, whenC, if_neg Bool.false_ne_true]
  have h2' : ¬ (j : Int) < (bl.length : Int) := by omega
  rw [List.take_of_length_le (by omega)] at hdup
  clear hG1 hsc
  simp only [push_cast, ↓reduceIte, Nat.reduceEqDiff, Nat.reduceAdd, Nat.reduceMul, Nat.reduceSub, Nat.reduceLT, Nat.reduceLeDiff, reduceCtorEq, Nat.reduceMod, Int.reduceEq, Int.reduceLT, Int.reduceLE, Int.reduceToNat, dite_true, h2']
  refine CallV.of (withU F2 none _ [] (nil_strs F2)) ?_
  rintro _ F3 _ hF3 ⟨bt, mb2, es0, cm0, rfl, rfl, hn0⟩
  have hFF3 := PH.le_trans hFF2 hF3
  simp only [push_cast, ↓reduceIte, Nat.reduceEqDiff, Nat.reduceAdd, Nat.reduceMul, Nat.reduceSub, Nat.reduceLT, Nat.reduceLeDiff, reduceCtorEq, Nat.reduceMod, Int.reduceEq, Int.reduceLT, Int.reduceLE, Int.reduceToNat, dite_true]
  refine VC.freezeR (List.Perm.refl _) fun F4 hF4 hbt => ?_
  have hbt4 : F4 bt = some (.cells #[.map (some mb2), .pointer none] 117 (0, 0)) := hbt bt _ (PH.one_self _ _)
  have hm4 : F4.cell ((⟨bt, 0, none⟩ : Addr).add 0) = some (.map (some mb2)) := by rw [add_zero', cell_one hbt4]; rfl
  have hFF4 := PH.le_trans hFF3 hF4
  refine VC.loopP (ι := Nat × Array MapEntry × Nat) (fun i => [(92, .v (.int .i64 i.1)), (91, .v (.int .i64 bl.length)), (90, .v (.slice pb bl.length cb)), (12, .v (.pointer (some ⟨bt, 0, none⟩))), (4, .o 1 bc 0), (1, .o 0 b1 0)]) (fun _ => F4) (fun i => [PH.one mb2 (.map i.2.1 i.2.2)]) (fun i => i.1 ≤ bl.length ∧ P.Names i.2.1 (hasB (own.take i.1))) (fun i => bl.length - i.1) (0, es0, cm0) ⟨Nat.zero_le _, hn0⟩ (by simp [subk, Eng.look]) rfl (subR_refl _) ?_
  rintro ⟨i, es2, cm2⟩ ⟨hi, hn⟩ G2 hG2
  dsimp only at hi hn hG2 ⊢
  refine VC.go 100 ?_
  by_cases h4 : i < bl.length
  case pos =>
    have h' : (i : Int) < (bl.length : Int) := by omega
    have h0 : (0 : Int) ≤ (i : Int) := by omega
    have hio : i < own.length := by omega
    have e2 : IntKind.i64.wrap ((i : Int) + 1) = ((i + 1 : Nat) : Int) := wadd i h4 (Nat.le_trans hb1 hb2)
    obtain ⟨q, _, cs, eq, _, _, kl, kr⟩ := (hb'.mono (R' := RBind F4) hFF4 (fun _ _ _ h => h.mono hFF4)).elem (by decide) (i := i) (a := bl[i]) (List.getElem?_eq_getElem h4) (fun _ _ h => h.len)
    cases eq
    have hnj : (bl[i]).name = own[i] := by subst ho; simp
    obtain ⟨wv, cc, rfl, hwv, hcc⟩ := RBind_iff.1 kr
    obtain ⟨xa, xb, xe, xl, rfl, hx⟩ := RExp_iff.1 hcc
    obtain ⟨pv, cv, rfl, _, _, _⟩ := hwv
    obtain ⟨_, _, _, _, _, _, _, _, rfl, rfl, rfl, rfl⟩ := hx.slices
    simp only [push_cast, ↓reduceIte, Nat.reduceEqDiff, Nat.reduceAdd, Nat.reduceMul, Nat.reduceSub, Nat.reduceLT, Nat.reduceLeDiff, reduceCtorEq, Nat.reduceMod, Int.reduceEq, Int.reduceLT, Int.reduceLE, Int.reduceToNat, dite_true, h', h0, kl]
    intro b12
    refine VC.draw (.q 0 (.q 1 (.q 2 (.q 3 (.q 4 (.q 5 (.e 6 (.done)))))))) mixed (by rfl) ?_
    simp only [push_cast, ↓reduceIte, Nat.reduceEqDiff, Nat.reduceAdd, Nat.reduceMul, Nat.reduceSub, Nat.reduceLT, Nat.reduceLeDiff, reduceCtorEq, Nat.reduceMod, Int.reduceEq, Int.reduceLT, Int.reduceLE, Int.reduceToNat, dite_true, hm4]
    obtain ⟨lst, hes2, hg⟩ := hn
    refine Eff.update keyStr rfl rfl ty67 rfl Tryd.underlying9 rfl rfl rfl (List.Perm.refl _) hes2 fun es' c' hes' => ?_
    simp only [push_cast, ↓reduceIte, Nat.reduceEqDiff, Nat.reduceAdd, Nat.reduceMul, Nat.reduceSub, Nat.reduceLT, Nat.reduceLeDiff, reduceCtorEq, Nat.reduceMod, Int.reduceEq, Int.reduceLT, Int.reduceLE, Int.reduceToNat, dite_true]
    refine VC.go 100 ?_
    simp only [push_cast, ↓reduceIte, Nat.reduceEqDiff, Nat.reduceAdd, Nat.reduceMul, Nat.reduceSub, Nat.reduceLT, Nat.reduceLeDiff, reduceCtorEq, Nat.reduceMod, Int.reduceEq, Int.reduceLT, Int.reduceLE, Int.reduceToNat, dite_true, e2]
    refine hG2 (i + 1, es', c') _ ⟨by simp; omega, _, hes', fun s => ?_⟩ (by simp; omega) (by simp [subk, Eng.look]) (by simp) rfl (subR_refl _)
    rw [mget_mput, hg, List.take_succ_eq_append_getElem hio, hasB_snoc, hnj]
    cases hh : hasB (own.take i) s <;> by_cases e : own[i] = s <;> simp [e]
  have h4' : ¬ (i : Int) < (bl.length : Int) := by omega
  rw [List.take_of_length_le (by omega)] at hn
  clear hG2
  simp only [push_cast, ↓reduceIte, Nat.reduceEqDiff, Nat.reduceAdd, Nat.reduceMul, Nat.reduceSub, Nat.reduceLT, Nat.reduceLeDiff, reduceCtorEq, Nat.reduceMod, Int.reduceEq, Int.reduceLT, Int.reduceLE, Int.reduceToNat, dite_true, h4']
  refine VC.freezeR (List.Perm.refl _) fun F5 hF5 hmb2 => ?_
  have hFF5 := PH.le_trans hFF4 hF5
  have hs5 : ScpL F5 (.pointer (some ⟨bt, 0, none⟩)) own :=
    ⟨1, _, .cons (hF5 _ _ hbt4) (hmb2 mb2 _ (PH.one_self _ _)) hn .nil, fun s => by simp⟩
  have hcons5 : Cons F5 mb ds := hcons.mono (PH.le_trans hF2 (PH.le_trans hF3 (PH.le_trans hF4 hF5)))
  have hT5 := hT.mono hFF5
  refine VC.loopM (ι := Nat × Value × Ck × PH) (fun i => [(106, .v (.int .i64 i.1)), (105, .v (.int .i64 bl.length)), (104, .v (.slice pb bl.length cb)), (12, .v (.pointer (some ⟨bt, 0, none⟩))), (4, .o 1 bc 0)]) (fun i => [⟨0, b1, 25, [.slice pd ds.length cd, .slice pb bl.length cb]⟩, ⟨1, bc, 112, [.map (some mb), i.2.1]⟩]) (fun i => i.2.2.2) (fun i => i.1 ≤ bl.length ∧ F5.le i.2.2.2 ∧ RepC i.2.2.2 i.2.2.1 i.2.1 ∧ i.2.2.1 = bindsC ds (bl.take i.1) own ⟨false, 0, 0⟩) (fun i => bl.length - i.1) (0, .pointer none, ⟨false, 0, 0⟩, F5) ⟨Nat.zero_le _, PH.le_refl _, .inl ⟨rfl, rfl⟩, by simp [bindsC]⟩ (by simp [subk, Eng.look]) (List.Sublist.refl _) rfl ?_
  rintro ⟨j3, v3, c3, F6⟩ ⟨hj3, hF6, hr3, hc3⟩ G3 hG3
  dsimp only at hj3 hF6 hr3 hc3 hG3 ⊢
  have hone3 := hr3.one
  have hFF6 := PH.le_trans hFF5 hF6
  refine VC.go 100 ?_
  by_cases h3 : j3 < bl.length
  case pos =>
    have h' : (j3 : Int) < (bl.length : Int) := by omega
    have h0 : (0 : Int) ≤ (j3 : Int) := by omega
    obtain ⟨q, _, cs, eq, _, _, kl, kr⟩ := (hb'.mono (R' := RBind F6) hFF6 (fun _ _ _ h => h.mono hFF6)).elem (by decide) (i := j3) (a := bl[j3]) (List.getElem?_eq_getElem h3) (fun _ _ h => h.len)
    cases eq
    have hsm := sizeBs_mem2 bl j3 h3
    have hse := bsize_eq bl[j3]
    have ht : bindsC ds (bl.take (j3 + 1)) own ⟨false, 0, 0⟩ = formC ds bl[j3] own c3 := by rw [List.take_succ_eq_append_getElem h3, bindsC_snoc, hc3]
    have e2 : IntKind.i64.wrap ((j3 : Int) + 1) = ((j3 + 1 : Nat) : Int) := wadd j3 h3 (Nat.le_trans hb1 hb2)
    obtain ⟨bd, hbk⟩ : ∃ bd, bd = bl[j3] := ⟨_, rfl⟩
    rw [← hbk] at hsm hse ht kr
    obtain ⟨wv, cc, rfl, hwv, hcc⟩ := RBind_iff.1 kr
    obtain ⟨xa, xb, xe, xl, rfl, hx⟩ := RExp_iff.1 hcc
    have hwv' := hwv
    obtain ⟨pv, cv, rfl, _, _, _⟩ := hwv
    have hx' := hx
    obtain ⟨_, _, _, _, _, _, _, _, rfl, rfl, rfl, rfl⟩ := hx.slices
    simp only [push_cast, ↓reduceIte, Nat.reduceEqDiff, Nat.reduceAdd, Nat.reduceMul, Nat.reduceSub, Nat.reduceLT, Nat.reduceLeDiff, reduceCtorEq, Nat.reduceMod, Int.reduceEq, Int.reduceLT, Int.reduceLE, Int.reduceToNat, dite_true, h', h0, kl, hone3]
    intro b14
    refine CallV.own (i := 1) rfl (form ds bd (exp_all ds h8 _ _ rfl) F6 bc mb v3 _ _ _ _ _ _ c3 own hr3 hwv' hx' (hs5.mono hF6) (hcons5.mono hF6) (hT5.mono hF6) (by rw [hol]; omega)) ?_
    rintro _ F7 _ hF7 ⟨v7, rfl, hr7⟩
    simp only [push_cast, ↓reduceIte, Nat.reduceEqDiff, Nat.reduceAdd, Nat.reduceMul, Nat.reduceSub, Nat.reduceLT, Nat.reduceLeDiff, reduceCtorEq, Nat.reduceMod, Int.reduceEq, Int.reduceLT, Int.reduceLE, Int.reduceToNat, dite_true, e2]
    exact hG3 (j3 + 1, v7, formC ds bd own c3, F7) _ ⟨by simp; omega, PH.le_trans hF6 hF7, hr7, by rw [ht]⟩ (by simp; omega) (by simp [subk, Eng.look]) (by simp) rfl rfl
  have h3' : ¬ (j3 : Int) < (bl.length : Int) := by omega
  rw [List.take_of_length_le (by omega)] at hc3
  clear hG3
  have hres2 : res = whenC (hasB own mainB = false) c3 0 36 := by rw [← hres, checkC, hc, hdup, ← ho, hc3]
  clear hres
  simp only [push_cast, ↓reduceIte, Nat.reduceEqDiff, Nat.reduceAdd, Nat.reduceMul, Nat.reduceSub, Nat.reduceLT, Nat.reduceLeDiff, reduceCtorEq, Nat.reduceMod, Int.reduceEq, Int.reduceLT, Int.reduceLE, Int.reduceToNat, dite_true, h3', hone3]
  refine CallV.pure (hasL F6 _ own mainB (hs5.mono hF6)) ?_
  rintro _ F7 hF7 rfl
  have fin : ∀ (c : Ck) (v : Value) (F8 : PH), RepC F8 c v → res = c → (c = ⟨false, 0, 0⟩ ∧ v = .pointer none) ∨ ∃ a e b, c = ⟨true, a, e⟩ ∧ v = .pointer (some ⟨b, 0, none⟩) ∧ F8.cell ((⟨b, 0, none⟩ : Addr).add 0) = some (.int .i64 a) ∧ F8.cell ((⟨b, 0, none⟩ : Addr).add 1) = some (.int .i64 e) := by
    intro c v F8 h _
    rcases h with h | ⟨a, e, b, h1, h2, h3⟩
    · exact .inl h
    · refine .inr ⟨a, e, b, h1, h2, by rw [add_zero', cell_one h3]; rfl, ?_⟩
      have := cell_one h3 1
      simpa [Addr.add] using this
  cases hh : hasB own mainB with
  | true =>
    rw [hh, whenC, if_neg (by simp)] at hres2
    rcases fin c3 v3 F7 (hr3.mono hF7) hres2 with ⟨e1, rfl⟩ | ⟨a, e, b, e1, rfl, k1, k2⟩
    · simp only [push_cast, ↓reduceIte, Nat.reduceEqDiff, Nat.reduceAdd, Nat.reduceMul, Nat.reduceSub, Nat.reduceLT, Nat.reduceLeDiff, reduceCtorEq, Nat.reduceMod, Int.reduceEq, Int.reduceLT, Int.reduceLE, Int.reduceToNat, dite_true, Option.isNone_none]
      rw [hres2, e1]
      exact RetOk.p rfl rfl
    · simp only [push_cast, ↓reduceIte, Nat.reduceEqDiff, Nat.reduceAdd, Nat.reduceMul, Nat.reduceSub, Nat.reduceLT, Nat.reduceLeDiff, reduceCtorEq, Nat.reduceMod, Int.reduceEq, Int.reduceLT, Int.reduceLE, Int.reduceToNat, dite_true, Option.isNone_some]
      refine VC.draw (.q 0 (.q 1 (.q 2 (.q 3 (.q 4 (.q 5 (.q 6 (.q 7 (.q 8 (.q 9 (.q 10 (.q 11 (.q 12 (.q 13 (.q 14 (.q 15 (.done))))))))))))))))) mixed (by rfl) ?_
      simp only [push_cast, ↓reduceIte, Nat.reduceEqDiff, Nat.reduceAdd, Nat.reduceMul, Nat.reduceSub, Nat.reduceLT, Nat.reduceLeDiff, reduceCtorEq, Nat.reduceMod, Int.reduceEq, Int.reduceLT, Int.reduceLE, Int.reduceToNat, dite_true, k1, k2]
      refine VC.go 100 ?_
      simp only [push_cast, ↓reduceIte, Nat.reduceEqDiff, Nat.reduceAdd, Nat.reduceMul, Nat.reduceSub, Nat.reduceLT, Nat.reduceLeDiff, reduceCtorEq, Nat.reduceMod, Int.reduceEq, Int.reduceLT, Int.reduceLE, Int.reduceToNat, dite_true]
      rw [hres2, e1]
      exact RetOk.p rfl rfl
  | false =>
    rw [hh, whenC, if_pos rfl] at hres2
    simp only [push_cast, ↓reduceIte, Nat.reduceEqDiff, Nat.reduceAdd, Nat.reduceMul, Nat.reduceSub, Nat.reduceLT, Nat.reduceLeDiff, reduceCtorEq, Nat.reduceMod, Int.reduceEq, Int.reduceLT, Int.reduceLE, Int.reduceToNat, dite_true, hone3]
    refine CallV.own (i := 1) rfl (fail F7 bc mb v3 c3 0 36 (hr3.mono hF7)) ?_
    rintro _ F8 _ hF8 ⟨v8, rfl, hr8⟩
    rcases fin _ v8 F8 hr8 hres2 with ⟨e1, rfl⟩ | ⟨a, e, b, e1, rfl, k1, k2⟩
    · simp only [push_cast, ↓reduceIte, Nat.reduceEqDiff, Nat.reduceAdd, Nat.reduceMul, Nat.reduceSub, Nat.reduceLT, Nat.reduceLeDiff, reduceCtorEq, Nat.reduceMod, Int.reduceEq, Int.reduceLT, Int.reduceLE, Int.reduceToNat, dite_true, Option.isNone_none]
      rw [hres2, e1]
      exact RetOk.p rfl rfl
    · simp only [push_cast, ↓reduceIte, Nat.reduceEqDiff, Nat.reduceAdd, Nat.reduceMul, Nat.reduceSub, Nat.reduceLT, Nat.reduceLeDiff, reduceCtorEq, Nat.reduceMod, Int.reduceEq, Int.reduceLT, Int.reduceLE, Int.reduceToNat, dite_true, Option.isNone_some]
      refine VC.draw (.q 0 (.q 1 (.q 2 (.q 3 (.q 4 (.q 5 (.q 6 (.q 7 (.q 8 (.q 9 (.q 10 (.q 11 (.q 12 (.q 13 (.q 14 (.q 15 (.done))))))))))))))))) mixed (by rfl) ?_
      simp only [push_cast, ↓reduceIte, Nat.reduceEqDiff, Nat.reduceAdd, Nat.reduceMul, Nat.reduceSub, Nat.reduceLT, Nat.reduceLeDiff, reduceCtorEq, Nat.reduceMod, Int.reduceEq, Int.reduceLT, Int.reduceLE, Int.reduceToNat, dite_true, k1, k2]
      refine VC.go 100 ?_
      simp only [push_cast, ↓reduceIte, Nat.reduceEqDiff, Nat.reduceAdd, Nat.reduceMul, Nat.reduceSub, Nat.reduceLT, Nat.reduceLeDiff, reduceCtorEq, Nat.reduceMod, Int.reduceEq, Int.reduceLT, Int.reduceLE, Int.reduceToNat, dite_true]
      rw [hres2, e1]
      exact RetOk.p rfl rfl
end Go.Proofs.YtoepmdbicdoieaaDoor.P
