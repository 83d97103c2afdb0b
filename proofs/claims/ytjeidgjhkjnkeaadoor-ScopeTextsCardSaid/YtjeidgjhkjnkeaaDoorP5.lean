/- Package scope: lets. (Written by gen/p5.py.) -/
import Derived.Test.YtjeidgjhkjnkeaaDoorP4
import Derived.Test.YtjeidgjhkjnkeaaDoorK4
namespace Go.Proofs.YtjeidgjhkjnkeaaDoor.P
open Go Go.Eng Go.Proofs Go.Proofs.YtjeidgjhkjnkeaaDoor.T Go.Proofs.YtjeidgjhkjnkeaaDoor.K
set_option linter.unusedSimpArgs false
set_option linter.unusedVariables false
set_option maxRecDepth 100000
set_option maxHeartbeats 8000000
theorem let_ (ds : List Dat) (e : Exp) (ih : ∀ e' : Exp, e'.size < e.size → ExpS ds e') (F : PH) (b mb : Nat) (v vs va w1 we wl : Value) (c : Ck) (inn : List ByteArray) (hr : RepC F c v) (hX : ExpAt F e va w1 we wl) (hs : ScpL F vs inn) (hd : Cons F mb ds) (hT : Table F) (hsz : inn.length + e.size ≤ 100000000) :
    SFn 49 [.agg (expCells e va w1 we wl).toArray, vs] F b mb v (letC ds e inn c) := by
  have hX' := hX
  have hse0 := size_eq e
  have hbn := sizeBs_count e.binds
  have hbinds := hX.binds
  have hkids := hX.kids
  obtain ⟨pa, ca, pb, cb, pe, ce, pl, cl, rfl, rfl, rfl, rfl⟩ := hX.slices
  obtain ⟨_, _, eb, hb1, hb2⟩ := hbinds.val
  cases eb
  have hone := hr.one
  obtain ⟨ps, rfl⟩ := hs.ptr
  generalize hres : letC ds e inn c = res
  unfold letC at hres
  refine OFn.intro (n := 90) (ts := []) Tryd.func49 rfl rfl rfl rfl (by simp) fun B hB => ?_
  by_cases g1 : e.binds.length = 0
  · have g1' : (e.binds.length : Int) = 0 := by omega
    refine VC.go 100 ?_
    simp only [push_cast, ↓reduceIte, Nat.reduceEqDiff, Nat.reduceAdd, Nat.reduceMul, Nat.reduceSub, Nat.reduceLT, Nat.reduceLeDiff, reduceCtorEq, Nat.reduceMod, Int.reduceEq, Int.reduceLT, Int.reduceLE, Int.reduceToNat, dite_true, eq_true g1', hone]
    intro bx
    refine CallV.own (i := 0) rfl (fail F b mb v c e.at_ 2 hr) ?_
    rintro _ F2 _ hF2 ⟨v2, rfl, hr2⟩
    simp only [push_cast, ↓reduceIte, Nat.reduceEqDiff, Nat.reduceAdd, Nat.reduceMul, Nat.reduceSub, Nat.reduceLT, Nat.reduceLeDiff, reduceCtorEq, Nat.reduceMod, Int.reduceEq, Int.reduceLT, Int.reduceLE, Int.reduceToNat, dite_true]
    rw [if_pos (.inl g1)] at hres
    subst hres
    exact sret rfl hr2
  have g1' : ¬ (e.binds.length : Int) = 0 := by omega
  by_cases g2 : e.kids.length = 0
  · have g2' : (e.kids.length : Int) = 0 := by omega
    refine VC.go 100 ?_
    simp only [push_cast, ↓reduceIte, Nat.reduceEqDiff, Nat.reduceAdd, Nat.reduceMul, Nat.reduceSub, Nat.reduceLT, Nat.reduceLeDiff, reduceCtorEq, Nat.reduceMod, Int.reduceEq, Int.reduceLT, Int.reduceLE, Int.reduceToNat, dite_true, g1', eq_true g2', hone]
    intro bx
    refine CallV.own (i := 0) rfl (fail F b mb v c e.at_ 2 hr) ?_
    rintro _ F2 _ hF2 ⟨v2, rfl, hr2⟩
    simp only [push_cast, ↓reduceIte, Nat.reduceEqDiff, Nat.reduceAdd, Nat.reduceMul, Nat.reduceSub, Nat.reduceLT, Nat.reduceLeDiff, reduceCtorEq, Nat.reduceMod, Int.reduceEq, Int.reduceLT, Int.reduceLE, Int.reduceToNat, dite_true]
    rw [if_pos (.inr g2)] at hres
    subst hres
    exact sret rfl hr2
  have g2' : ¬ (e.kids.length : Int) = 0 := by omega
  rw [if_neg (by omega)] at hres
  refine VC.go 10 ?_
  simp only [push_cast, ↓reduceIte, Nat.reduceEqDiff, Nat.reduceAdd, Nat.reduceMul, Nat.reduceSub, Nat.reduceLT, Nat.reduceLeDiff, reduceCtorEq, Nat.reduceMod, Int.reduceEq, Int.reduceLT, Int.reduceLE, Int.reduceToNat, dite_true, g1', g2', hone]
  intro bx b6
  refine VC.freeze (m := ⟨2, b6, 23, [.slice pb e.binds.length cb]⟩) (M := [⟨0, b, 55, [.map (some mb), v]⟩, ⟨1, bx, 42, expCells e (.slice pa e.atoms.length ca) (.slice pb e.binds.length cb) (.slice pe e.kids.length ce) (.slice pl e.alts.length cl)⟩]) (List.perm_middle (l₁ := [_, _]) (l₂ := [])) fun F0 hF0 hb6 => ?_
  refine VC.reL [(6, .v (.pointer (some ⟨b6, 0, none⟩))), (4, .o 1 bx 0), (2, .v (.pointer ps)), (0, .o 0 b 0)] (by simp [subv, Eng.look, AV.val]) ?_
  have hc6 : F0.cell ⟨b6, 0, none⟩ = some (.slice pb e.binds.length cb) := by rw [cell_one hb6]; rfl
  have hr0 := hr.mono hF0
  have hbinds0 : SlE F0 11 (RBind F0) (.slice pb e.binds.length cb) e.binds := hbinds.mono hF0 (fun _ _ _ h => h.mono hF0)
  obtain ⟨own, ho⟩ : ∃ own, own = e.binds.map Bind.name := ⟨_, rfl⟩
  have hol : own.length = e.binds.length := by rw [ho]; simp
  refine VC.go 100 ?_
  simp only [push_cast, ↓reduceIte, Nat.reduceEqDiff, Nat.reduceAdd, Nat.reduceMul, Nat.reduceSub, Nat.reduceLT, Nat.reduceLeDiff, reduceCtorEq, Nat.reduceMod, Int.reduceEq, Int.reduceLT, Int.reduceLE, Int.reduceToNat, dite_true, hc6]
  refine CallV.pure (twice F0 e.binds.length (Nat.le_trans hb1 hb2) _ #[] #[.pointer (some ⟨b6, 0, none⟩)] (fun i k => decide (own.getD i (bs []) = own.getD k (bs []))) fun i k hi hk F' hF' => by
    rw [ho]; exact like_let F' b6 _ e.binds (hF'.cell hc6) (hbinds0.mono hF' (fun _ _ _ h => h.mono hF')) i k hi hk) ?_
  rintro _ F1 hF1 ⟨i, rfl, hdup⟩
  rw [← hol] at hdup
  obtain ⟨d1, d2, d3⟩ := dupAt_twice hdup
  have hFF1 := PH.le_trans hF0 hF1
  simp only [push_cast, ↓reduceIte, Nat.reduceEqDiff, Nat.reduceAdd, Nat.reduceMul, Nat.reduceSub, Nat.reduceLT, Nat.reduceLeDiff, reduceCtorEq, Nat.reduceMod, Int.reduceEq, Int.reduceLT, Int.reduceLE, Int.reduceToNat, dite_true, hF1.cell hc6]
  refine VC.loopM (ι := Nat × Value × Ck × PH) (fun j => [(37, .v (.int .i64 j.1)), (36, .v (.int .i64 e.binds.length)), (35, .v (.slice pb e.binds.length cb)), (7, .v (.int .i64 i)), (6, .v (.pointer (some ⟨b6, 0, none⟩))), (4, .o 1 bx 0), (2, .v (.pointer ps)), (0, .o 0 b 0)]) (fun j => [⟨0, b, 55, [.map (some mb), j.2.1]⟩, ⟨1, bx, 42, expCells e (.slice pa e.atoms.length ca) (.slice pb e.binds.length cb) (.slice pe e.kids.length ce) (.slice pl e.alts.length cl)⟩]) (fun j => j.2.2.2) (fun j => j.1 ≤ e.binds.length ∧ F1.le j.2.2.2 ∧ RepC j.2.2.2 j.2.2.1 j.2.1 ∧ j.2.2.1 = dupC [] (e.binds.take j.1) c ∧ (i < j.1 → j.2.2.1.bad = true)) (fun j => e.binds.length - j.1) (0, v, c, F1) ⟨Nat.zero_le _, PH.le_refl _, hr0.mono hF1, rfl, fun h => absurd h (Nat.not_lt_zero _)⟩ (by simp [subk, Eng.look]) (List.Sublist.refl _) rfl ?_
  clear hr hr0 hone
  rintro ⟨k, v1, c1, F2⟩ ⟨hk, hF2, hr1, hc, hbad⟩ G hG
  dsimp only at hk hF2 hr1 hc hbad hG ⊢
  have hone1 := hr1.one
  have hFF2 := PH.le_trans hFF1 hF2
  refine VC.go 100 ?_
  by_cases h : k < e.binds.length
  case pos =>
    have h' : (k : Int) < (e.binds.length : Int) := by omega
    have h0 : (0 : Int) ≤ (k : Int) := by omega
    have hko : k < own.length := by omega
    obtain ⟨q, _, cs, eq, _, _, kl, kr⟩ := (hbinds.mono (R' := RBind F2) hFF2 (fun _ _ _ h => h.mono hFF2)).elem (by decide) (i := k) (a := e.binds[k]) (List.getElem?_eq_getElem h) (fun _ _ h => h.len)
    cases eq
    obtain ⟨wv, cc, rfl, hwv, hcc⟩ := RBind_iff.1 kr
    obtain ⟨xa, xb, xe, xl, rfl, hx⟩ := RExp_iff.1 hcc
    obtain ⟨pv, cv, rfl, _, _, _⟩ := hwv
    obtain ⟨_, _, _, _, _, _, _, _, rfl, rfl, rfl, rfl⟩ := hx.slices
    have e2 : IntKind.i64.wrap ((k : Int) + 1) = ((k + 1 : Nat) : Int) := wadd k h (Nat.le_trans hb1 hb2)
    have hnk : (e.binds[k]).name = own[k] := by subst ho; simp
    have hpk : [] ++ (e.binds.take k).map Bind.name = own.take k := by subst ho; simp [List.map_take]
    have ht : dupC [] (e.binds.take (k + 1)) c = stepD ([] ++ (e.binds.take k).map Bind.name) e.binds[k] c1 := by rw [List.take_succ_eq_append_getElem h, dupC_snoc, hc]
    have hstep : stepD ([] ++ (e.binds.take k).map Bind.name) e.binds[k] c1 = whenC (k = i) (whenC ((e.binds[k]).name = ⟨#[]⟩) c1 (e.binds[k]).at_ 31) (e.binds[k]).at_ 30 := by
      unfold stepD
      rw [hpk, hnk]
      rcases Nat.lt_trichotomy k i with hlt | heq | hgt
      · have hno : hasB (own.take k) own[k] = false := Bool.eq_false_iff.2 fun hh => by have := (d3 k hko hh).1; omega
        rw [hno]
        simp only [whenC, Bool.false_eq_true, if_false]
        rw [if_neg (show ¬ k = i by omega)]
      · have hyes : hasB (own.take k) own[k] = true := by
          subst heq
          have h5 := (d3 k hko)
          by_cases hh : hasB (own.take k) own[k] = true
          · exact hh
          · obtain ⟨j, hj, hm⟩ := (twiceB_take own []).1 (d2.1 hko)
            have := (d3 j hj (by simpa using hm)).2 hko
            simpa [List.getD, hko] using this
        rw [hyes]
        simp only [whenC, if_true]
        rw [if_pos heq]
      · have hb := hbad hgt
        rw [whenC_bad (c := c1) hb, whenC_bad hb, whenC_bad hb]
    by_cases g : (e.binds[k]).name = ⟨#[]⟩
    · simp only [push_cast, ↓reduceIte, Nat.reduceEqDiff, Nat.reduceAdd, Nat.reduceMul, Nat.reduceSub, Nat.reduceLT, Nat.reduceLeDiff, reduceCtorEq, Nat.reduceMod, Int.reduceEq, Int.reduceLT, Int.reduceLE, Int.reduceToNat, dite_true, h', h0, kl, eq_true g, hone1]
      intro b9
      refine CallV.own (i := 0) rfl (fail F2 b mb v1 c1 (e.binds[k]).at_ 31 hr1) ?_
      rintro _ Fx _ hFx ⟨vx, rfl, hrx⟩
      have honex := hrx.one
      by_cases gi : k = i
      · have gi' : (k : Int) = (i : Int) := by omega
        simp only [push_cast, ↓reduceIte, Nat.reduceEqDiff, Nat.reduceAdd, Nat.reduceMul, Nat.reduceSub, Nat.reduceLT, Nat.reduceLeDiff, reduceCtorEq, Nat.reduceMod, Int.reduceEq, Int.reduceLT, Int.reduceLE, Int.reduceToNat, dite_true, eq_true gi', honex]
        refine CallV.own (i := 0) rfl (fail Fx b mb vx (failC c1 (e.binds[k]).at_ 31) (e.binds[k]).at_ 30 hrx) ?_
        rintro _ Fz _ hFz ⟨vz, rfl, hrz⟩
        simp only [push_cast, ↓reduceIte, Nat.reduceEqDiff, Nat.reduceAdd, Nat.reduceMul, Nat.reduceSub, Nat.reduceLT, Nat.reduceLeDiff, reduceCtorEq, Nat.reduceMod, Int.reduceEq, Int.reduceLT, Int.reduceLE, Int.reduceToNat, dite_true, e2]
        exact hG (k + 1, vz, failC (failC c1 (e.binds[k]).at_ 31) (e.binds[k]).at_ 30, Fz) _ ⟨by simp; omega, PH.le_trans hF2 (PH.le_trans hFx hFz), hrz, by rw [ht]; exact (hstep.trans (by rw [whenC, if_pos gi, show whenC ((e.binds[k]).name = ⟨#[]⟩) c1 (e.binds[k]).at_ 31 = failC c1 (e.binds[k]).at_ 31 from if_pos g])).symm, fun _ => by unfold failC; split <;> first | assumption | rfl⟩ (by simp; omega) (by simp [subk, Eng.look]) (by simp) rfl rfl
      · have gi' : ¬ (k : Int) = (i : Int) := by omega
        simp only [push_cast, ↓reduceIte, Nat.reduceEqDiff, Nat.reduceAdd, Nat.reduceMul, Nat.reduceSub, Nat.reduceLT, Nat.reduceLeDiff, reduceCtorEq, Nat.reduceMod, Int.reduceEq, Int.reduceLT, Int.reduceLE, Int.reduceToNat, dite_true, gi', e2, honex]
        exact hG (k + 1, vx, failC c1 (e.binds[k]).at_ 31, Fx) _ ⟨by simp; omega, PH.le_trans hF2 hFx, hrx, by rw [ht]; exact (hstep.trans (by rw [whenC, if_neg gi, show whenC ((e.binds[k]).name = ⟨#[]⟩) c1 (e.binds[k]).at_ 31 = failC c1 (e.binds[k]).at_ 31 from if_pos g])).symm, fun hlt => by
            have h1 : c1.bad = true := hbad (by simp at hlt; omega)
            first | exact h1 | (rw [failC_bad h1]; exact h1)⟩ (by simp; omega) (by simp [subk, Eng.look]) (by simp) rfl rfl
    · 
      by_cases gi : k = i
      · have gi' : (k : Int) = (i : Int) := by omega
        simp only [push_cast, ↓reduceIte, Nat.reduceEqDiff, Nat.reduceAdd, Nat.reduceMul, Nat.reduceSub, Nat.reduceLT, Nat.reduceLeDiff, reduceCtorEq, Nat.reduceMod, Int.reduceEq, Int.reduceLT, Int.reduceLE, Int.reduceToNat, dite_true, h', h0, kl, g, eq_true gi', hone1]
        intro b9
        refine CallV.own (i := 0) rfl (fail F2 b mb v1 (c1) (e.binds[k]).at_ 30 hr1) ?_
        rintro _ Fz _ hFz ⟨vz, rfl, hrz⟩
        simp only [push_cast, ↓reduceIte, Nat.reduceEqDiff, Nat.reduceAdd, Nat.reduceMul, Nat.reduceSub, Nat.reduceLT, Nat.reduceLeDiff, reduceCtorEq, Nat.reduceMod, Int.reduceEq, Int.reduceLT, Int.reduceLE, Int.reduceToNat, dite_true, e2]
        exact hG (k + 1, vz, failC (c1) (e.binds[k]).at_ 30, Fz) _ ⟨by simp; omega, PH.le_trans hF2 hFz, hrz, by rw [ht]; exact (hstep.trans (by rw [whenC, if_pos gi, show whenC ((e.binds[k]).name = ⟨#[]⟩) c1 (e.binds[k]).at_ 31 = c1 from if_neg g])).symm, fun _ => by unfold failC; split <;> first | assumption | rfl⟩ (by simp; omega) (by simp [subk, Eng.look]) (by simp) rfl rfl
      · have gi' : ¬ (k : Int) = (i : Int) := by omega
        simp only [push_cast, ↓reduceIte, Nat.reduceEqDiff, Nat.reduceAdd, Nat.reduceMul, Nat.reduceSub, Nat.reduceLT, Nat.reduceLeDiff, reduceCtorEq, Nat.reduceMod, Int.reduceEq, Int.reduceLT, Int.reduceLE, Int.reduceToNat, dite_true, h', h0, kl, g, gi', e2, hone1]
        intro b9
        exact hG (k + 1, v1, c1, F2) _ ⟨by simp; omega, hF2, hr1, by rw [ht]; exact (hstep.trans (by rw [whenC, if_neg gi, show whenC ((e.binds[k]).name = ⟨#[]⟩) c1 (e.binds[k]).at_ 31 = c1 from if_neg g])).symm, fun hlt => by
            have h1 : c1.bad = true := hbad (by simp at hlt; omega)
            first | exact h1 | (rw [failC_bad h1]; exact h1)⟩ (by simp; omega) (by simp [subk, Eng.look]) (by simp) rfl rfl
  have h' : ¬ (k : Int) < (e.binds.length : Int) := by omega
  rw [List.take_of_length_le (by omega)] at hc
  subst hc
  clear hbad hG
  simp only [push_cast, ↓reduceIte, Nat.reduceEqDiff, Nat.reduceAdd, Nat.reduceMul, Nat.reduceSub, Nat.reduceLT, Nat.reduceLeDiff, reduceCtorEq, Nat.reduceMod, Int.reduceEq, Int.reduceLT, Int.reduceLE, Int.reduceToNat, dite_true, h', hone1]
  refine CallV.of (withU F2 ps _ [] (nil_strs F2)) ?_
  rintro _ F3 _ hF3 ⟨bt, mb2, es0, cm0, rfl, rfl, hn0⟩
  have hFF3 := PH.le_trans hFF2 hF3
  have hc63 : F3.cell ⟨b6, 0, none⟩ = some (.slice pb e.binds.length cb) := hF3.cell (hF2.cell (hF1.cell hc6))
  simp only [push_cast, ↓reduceIte, Nat.reduceEqDiff, Nat.reduceAdd, Nat.reduceMul, Nat.reduceSub, Nat.reduceLT, Nat.reduceLeDiff, reduceCtorEq, Nat.reduceMod, Int.reduceEq, Int.reduceLT, Int.reduceLE, Int.reduceToNat, dite_true, hc63]
  refine VC.freezeR (List.Perm.refl _) fun F4 hF4 hbt => ?_
  have hbt4 : F4 bt = some (.cells #[.map (some mb2), .pointer ps] 61 (0, 0)) := hbt bt _ (PH.one_self _ _)
  have hm4 : F4.cell ((⟨bt, 0, none⟩ : Addr).add 0) = some (.map (some mb2)) := by rw [add_zero', cell_one hbt4]; rfl
  have hFF4 := PH.le_trans hFF3 hF4
  have hc64 := hF4.cell hc63
  refine VC.loopP (ι := Nat × Array MapEntry × Nat) (fun j => [(61, .v (.int .i64 j.1)), (60, .v (.int .i64 e.binds.length)), (59, .v (.slice pb e.binds.length cb)), (10, .v (.pointer (some ⟨bt, 0, none⟩))), (6, .v (.pointer (some ⟨b6, 0, none⟩))), (4, .o 1 bx 0), (0, .o 0 b 0)]) (fun _ => F4) (fun j => [PH.one mb2 (.map j.2.1 j.2.2)]) (fun j => j.1 ≤ e.binds.length ∧ P.Names j.2.1 (hasB (own.take j.1))) (fun j => e.binds.length - j.1) (0, es0, cm0) ⟨Nat.zero_le _, hn0⟩ (by simp [subk, Eng.look]) rfl (subR_refl _) ?_
  rintro ⟨j, es, cm⟩ ⟨hj, hn⟩ G2 hG2
  dsimp only at hj hn hG2 ⊢
  refine VC.go 100 ?_
  by_cases h2 : j < e.binds.length
  case pos =>
    have h' : (j : Int) < (e.binds.length : Int) := by omega
    have h0 : (0 : Int) ≤ (j : Int) := by omega
    have hjo : j < own.length := by omega
    have e2 : IntKind.i64.wrap ((j : Int) + 1) = ((j + 1 : Nat) : Int) := wadd j h2 (Nat.le_trans hb1 hb2)
    obtain ⟨q, _, cs, eq, _, _, kl, kr⟩ := (hbinds.mono (R' := RBind F4) hFF4 (fun _ _ _ h => h.mono hFF4)).elem (by decide) (i := j) (a := e.binds[j]) (List.getElem?_eq_getElem h2) (fun _ _ h => h.len)
    cases eq
    have hnj : (e.binds[j]).name = own[j] := by subst ho; simp
    obtain ⟨wv, cc, rfl, hwv, hcc⟩ := RBind_iff.1 kr
    obtain ⟨xa, xb, xe, xl, rfl, hx⟩ := RExp_iff.1 hcc
    obtain ⟨pv, cv, rfl, _, _, _⟩ := hwv
    obtain ⟨_, _, _, _, _, _, _, _, rfl, rfl, rfl, rfl⟩ := hx.slices
    simp only [push_cast, ↓reduceIte, Nat.reduceEqDiff, Nat.reduceAdd, Nat.reduceMul, Nat.reduceSub, Nat.reduceLT, Nat.reduceLeDiff, reduceCtorEq, Nat.reduceMod, Int.reduceEq, Int.reduceLT, Int.reduceLE, Int.reduceToNat, dite_true, h', h0, kl]
    intro b12
    refine VC.draw (.q 0 (.q 1 (.q 2 (.q 3 (.q 4 (.q 5 (.e 6 (.done)))))))) mixed (by rfl) ?_
    simp only [push_cast, ↓reduceIte, Nat.reduceEqDiff, Nat.reduceAdd, Nat.reduceMul, Nat.reduceSub, Nat.reduceLT, Nat.reduceLeDiff, reduceCtorEq, Nat.reduceMod, Int.reduceEq, Int.reduceLT, Int.reduceLE, Int.reduceToNat, dite_true, hm4]
    obtain ⟨lst, hes, hg⟩ := hn
    refine Eff.update keyStr rfl rfl ty52 rfl Tryd.underlying9 rfl rfl rfl (List.Perm.refl _) hes fun es' c' hes' => ?_
    simp only [push_cast, ↓reduceIte, Nat.reduceEqDiff, Nat.reduceAdd, Nat.reduceMul, Nat.reduceSub, Nat.reduceLT, Nat.reduceLeDiff, reduceCtorEq, Nat.reduceMod, Int.reduceEq, Int.reduceLT, Int.reduceLE, Int.reduceToNat, dite_true]
    refine VC.go 100 ?_
    simp only [push_cast, ↓reduceIte, Nat.reduceEqDiff, Nat.reduceAdd, Nat.reduceMul, Nat.reduceSub, Nat.reduceLT, Nat.reduceLeDiff, reduceCtorEq, Nat.reduceMod, Int.reduceEq, Int.reduceLT, Int.reduceLE, Int.reduceToNat, dite_true, e2]
    refine hG2 (j + 1, es', c') _ ⟨by simp; omega, _, hes', fun s => ?_⟩ (by simp; omega) (by simp [subk, Eng.look]) (by simp) rfl (subR_refl _)
    rw [mget_mput, hg, List.take_succ_eq_append_getElem hjo, hasB_snoc, hnj]
    cases hh : hasB (own.take j) s <;> by_cases e : own[j] = s <;> simp [e]
  have h' : ¬ (j : Int) < (e.binds.length : Int) := by omega
  rw [List.take_of_length_le (by omega)] at hn
  clear hG2
  simp only [push_cast, ↓reduceIte, Nat.reduceEqDiff, Nat.reduceAdd, Nat.reduceMul, Nat.reduceSub, Nat.reduceLT, Nat.reduceLeDiff, reduceCtorEq, Nat.reduceMod, Int.reduceEq, Int.reduceLT, Int.reduceLE, Int.reduceToNat, dite_true, h', hc64]
  refine VC.freezeR (List.Perm.refl _) fun F5 hF5 hmb => ?_
  have hFF5 := PH.le_trans hFF4 hF5
  have hc65 := hF5.cell hc64
  have hs5 : ScpL F5 (.pointer (some ⟨bt, 0, none⟩)) (inn ++ own) := by
    obtain ⟨n, m, k1, k2⟩ := hs
    exact ⟨n + 1, _, .cons (hF5 _ _ hbt4) (hmb mb2 _ (PH.one_self _ _)) hn (k1.mono hFF5), fun s => by rw [hasB_append, ← k2, Bool.or_comm]⟩
  have hil : (inn ++ own).length = inn.length + e.binds.length := by simp [hol]
  have hr5 := hr1.mono (PH.le_trans hF3 (PH.le_trans hF4 hF5))
  rw [← ho] at hres
  refine VC.loopM (ι := Nat × Value × Ck × PH) (fun j => [(74, .v (.int .i64 j.1)), (73, .v (.int .i64 e.binds.length)), (72, .v (.slice pb e.binds.length cb)), (10, .v (.pointer (some ⟨bt, 0, none⟩))), (4, .o 1 bx 0), (0, .o 0 b 0)]) (fun j => [⟨0, b, 55, [.map (some mb), j.2.1]⟩, ⟨1, bx, 42, expCells e (.slice pa e.atoms.length ca) (.slice pb e.binds.length cb) (.slice pe e.kids.length ce) (.slice pl e.alts.length cl)⟩]) (fun j => j.2.2.2) (fun j => j.1 ≤ e.binds.length ∧ F5.le j.2.2.2 ∧ RepC j.2.2.2 j.2.2.1 j.2.1 ∧ j.2.2.1 = bindsC ds (e.binds.take j.1) (inn ++ own) (dupC [] e.binds c)) (fun j => e.binds.length - j.1) (0, v1, dupC [] e.binds c, F5) ⟨Nat.zero_le _, PH.le_refl _, hr5, by simp [bindsC]⟩ (by simp [subk, Eng.look]) (List.Sublist.refl _) rfl ?_
  rintro ⟨j3, v3, c3, F6⟩ ⟨hj3, hF6, hr3, hc3⟩ G3 hG3
  dsimp only at hj3 hF6 hr3 hc3 hG3 ⊢
  have hone3 := hr3.one
  have hFF6 := PH.le_trans hFF5 hF6
  refine VC.go 100 ?_
  by_cases h3 : j3 < e.binds.length
  case pos =>
    have h' : (j3 : Int) < (e.binds.length : Int) := by omega
    have h0 : (0 : Int) ≤ (j3 : Int) := by omega
    obtain ⟨q, _, cs, eq, _, _, kl, kr⟩ := (hbinds.mono (R' := RBind F6) hFF6 (fun _ _ _ h => h.mono hFF6)).elem (by decide) (i := j3) (a := e.binds[j3]) (List.getElem?_eq_getElem h3) (fun _ _ h => h.len)
    cases eq
    have hsm := sizeBs_mem2 e.binds j3 h3
    have hse := bsize_eq e.binds[j3]
    have ht : bindsC ds (e.binds.take (j3 + 1)) (inn ++ own) (dupC [] e.binds c) = formC ds e.binds[j3] (inn ++ own) c3 := by rw [List.take_succ_eq_append_getElem h3, bindsC_snoc, hc3]
    have e2 : IntKind.i64.wrap ((j3 : Int) + 1) = ((j3 + 1 : Nat) : Int) := wadd j3 h3 (Nat.le_trans hb1 hb2)
    obtain ⟨bd, hbk⟩ : ∃ bd, bd = e.binds[j3] := ⟨_, rfl⟩
    rw [← hbk] at hsm hse ht kr
    obtain ⟨wv, cc, rfl, hwv, hcc⟩ := RBind_iff.1 kr
    obtain ⟨xa, xb, xe, xl, rfl, hx⟩ := RExp_iff.1 hcc
    have hwv' := hwv
    obtain ⟨pv, cv, rfl, _, _, _⟩ := hwv
    have hx' := hx
    obtain ⟨_, _, _, _, _, _, _, _, rfl, rfl, rfl, rfl⟩ := hx.slices
    simp only [push_cast, ↓reduceIte, Nat.reduceEqDiff, Nat.reduceAdd, Nat.reduceMul, Nat.reduceSub, Nat.reduceLT, Nat.reduceLeDiff, reduceCtorEq, Nat.reduceMod, Int.reduceEq, Int.reduceLT, Int.reduceLE, Int.reduceToNat, dite_true, h', h0, kl, hone3]
    intro b14
    refine CallV.own (i := 0) rfl (form ds bd (ih bd.body (by omega)) F6 b mb v3 _ _ _ _ _ _ c3 (inn ++ own) hr3 hwv' hx' (hs5.mono hF6) (hd.mono hFF6) (hT.mono hFF6) (by rw [hil]; omega)) ?_
    rintro _ F7 _ hF7 ⟨v7, rfl, hr7⟩
    simp only [push_cast, ↓reduceIte, Nat.reduceEqDiff, Nat.reduceAdd, Nat.reduceMul, Nat.reduceSub, Nat.reduceLT, Nat.reduceLeDiff, reduceCtorEq, Nat.reduceMod, Int.reduceEq, Int.reduceLT, Int.reduceLE, Int.reduceToNat, dite_true, e2]
    exact hG3 (j3 + 1, v7, formC ds bd (inn ++ own) c3, F7) _ ⟨by simp; omega, PH.le_trans hF6 hF7, hr7, by rw [ht]⟩ (by simp; omega) (by simp [subk, Eng.look]) (by simp) rfl rfl
  have h' : ¬ (j3 : Int) < (e.binds.length : Int) := by omega
  rw [List.take_of_length_le (by omega)] at hc3
  subst hc3
  obtain ⟨kd, ks, hks⟩ : ∃ kd ks, e.kids = kd :: ks := by
    cases hk : e.kids with
    | nil => rw [hk] at g2; simp at g2
    | cons a l => exact ⟨a, l, rfl⟩
  obtain ⟨q, _, cs, eq, _, _, kl, kr⟩ := (hkids.mono (R' := RExp F6) hFF6 (fun _ _ _ h => h.mono hFF6)).elem (by decide) (i := 0) (a := kd) (by rw [hks]; rfl) (fun _ _ h => h.len)
  cases eq
  obtain ⟨xa, xb, xe, xl, rfl, hx⟩ := RExp_iff.1 kr
  have hx' := hx
  obtain ⟨_, _, _, _, _, _, _, _, rfl, rfl, rfl, rfl⟩ := hx.slices
  rw [Nat.zero_mul] at kl
  have g3 : (0 : Int) < (e.kids.length : Int) := by omega
  have hsm := sizeEs_mem (e := kd) (l := e.kids) (by rw [hks]; exact List.mem_cons_self)
  simp only [push_cast, ↓reduceIte, Nat.reduceEqDiff, Nat.reduceAdd, Nat.reduceMul, Nat.reduceSub, Nat.reduceLT, Nat.reduceLeDiff, reduceCtorEq, Nat.reduceMod, Int.reduceEq, Int.reduceLT, Int.reduceLE, Int.reduceToNat, dite_true, h', g3, Nat.zero_mul, kl, hone3]
  refine CallV.own (i := 0) rfl (ih kd (by omega) F6 b mb v3 _ _ _ _ _ _ (inn ++ own) hr3 hx' (hs5.mono hF6) (hd.mono hFF6) (hT.mono hFF6) (by rw [hil]; omega)) ?_
  rintro _ F7 _ hF7 ⟨v7, rfl, hr7⟩
  simp only [push_cast, ↓reduceIte, Nat.reduceEqDiff, Nat.reduceAdd, Nat.reduceMul, Nat.reduceSub, Nat.reduceLT, Nat.reduceLeDiff, reduceCtorEq, Nat.reduceMod, Int.reduceEq, Int.reduceLT, Int.reduceLE, Int.reduceToNat, dite_true]
  rw [hks] at hres
  simp only [kidC] at hres
  rw [hres] at hr7
  exact sret rfl hr7
end Go.Proofs.YtjeidgjhkjnkeaaDoor.P
