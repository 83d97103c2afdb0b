/- The document's gen: cases. -/
import Derived.Test.YtoepmdbicdoieaaDoorJ7
namespace Go.Proofs.YtoepmdbicdoieaaDoor.J
open Go Go.Eng Go.Proofs Go.Proofs.YtoepmdbicdoieaaDoor.T Go.Proofs.YtoepmdbicdoieaaDoor.V Go.Proofs.YtoepmdbicdoieaaDoor.K Go.Proofs.YtoepmdbicdoieaaDoor.U
open Go.Proofs.YtoepmdbicdoieaaDoor.W (i64v ptr Ints RowE findL_append findL_snoc findL_has findL_lt findL_ge RMk RIns RInf RArm RNum RFrm src_one each_snoc each_append each_one nums_len nums_append atomsP_append atomsP_len nil_ints here_take here_len sle_one ret_ins Fits layE_eq layLet layCase sizeA_len' conM_len VC.fromT preM_len preM_append preM_len2 foldM_frm okB_eq okX_eq RMk.ones keepL_len keepL_snoc keepA_len keep1_len keepF_len sizeLs_take_at layAlt_eq okL_eq layAlts_arms RowE.set)
set_option linter.unusedSimpArgs false
set_option linter.unusedVariables false
set_option maxRecDepth 100000
set_option maxHeartbeats 4000000
theorem cases_ok (ds : List Dat) (bs : List Bind) (e : Exp) (h6 : e.kind = 6) (hE : ∀ e' : Exp, e'.size < e.size → GenED ds bs e') : GenXD 55 layCase ds bs e := by
  intro F sb vd vb vc vg m s l v xa xb xe xl hX hv hok hC hS hfit
  rw [okX_eq] at hok
  obtain ⟨hkids, okk, okl⟩ := hok.2.2.2.2 h6
  obtain ⟨fi1, fi2, fi3, fi4⟩ := hfit
  have hX' := hX
  obtain ⟨e0, es0, hk0⟩ : ∃ a b, e.kids = a :: b := by cases hc : e.kids with | nil => exact absurd hc hkids | cons a b => exact ⟨a, b, rfl⟩
  obtain ⟨pa, ca, pb, cb, pe, ce, pl, cl, rfl, rfl, rfl, rfl⟩ := hX.slices
  have hv' := hv
  obtain ⟨pv0, cv0, rfl, _, _, _⟩ := hv
  have hse := V.size_eq e
  have hbn := hC.few.2
  have hes : e0.size ≤ sizeEs e.kids := by rw [hk0]; simp [sizeEs]
  obtain ⟨q, _, cs, eq, _, _, kl, kr⟩ := hX'.kids.elem (by decide) (i := 0) (a := e0) (by rw [hk0]; rfl) (fun _ _ h => h.len)
  cases eq
  obtain ⟨wa, wb, we, wl, rfl, wx⟩ := RExp_iff.1 kr
  have hkl : (0 : Int) < (e.kids.length : Int) := by rw [hk0, List.length_cons]; omega
  have hwk : V.withinKid e.kids = within e0 := by rw [hk0]; rfl
  have hwl := within_len e0
  have hhl := here_len l (within e0)
  have hkp := keepL_len l e.alts []
  have hkp' : (keepL l e.alts).length ≤ sizeLs e.alts := by simpa [keepL] using hkp
  have hac : e.alts.length ≤ sizeLs e.alts := sizeLs_count e.alts
  obtain ⟨_, _, eal, ha2, ha3⟩ := hX'.alts.val
  cases eal
  unfold SchFnD
  refine SFn.intro (n := 190) (ts := []) Tryd.func55 rfl rfl rfl rfl (by simp) fun B hB => VC.emp (VC.go 6 ?_)
  simp only [push_cast, ↓reduceIte, Nat.reduceEqDiff, Nat.reduceAdd, Nat.reduceMul, Nat.reduceSub, Nat.reduceLT, Nat.reduceLeDiff, reduceCtorEq, Nat.reduceMod, Int.reduceEq, Int.reduceLT, Int.reduceLE, Int.reduceToNat, dite_true, hkl, kl]
  intro b
  refine callStrs (within10 F e0 _ _ _ _ wx (by omega)) fun w1 F1 hF1 hw1 => ?_
  simp only [push_cast, ↓reduceIte, Nat.reduceEqDiff, Nat.reduceAdd, Nat.reduceMul, Nat.reduceSub, Nat.reduceLT, Nat.reduceLeDiff, reduceCtorEq, Nat.reduceMod, Int.reduceEq, Int.reduceLT, Int.reduceLE, Int.reduceToNat, dite_true]
  refine callStrs (hereF F1 _ w1 l (within e0) (hv'.mono hF1) hw1 (by omega)) fun w2 F2 hF2 hw2 => ?_
  have hF12 := PH.le_trans hF1 hF2
  rw [← hwk] at hw2 hhl hwl
  have hw2' := hw2
  obtain ⟨p2, c2, rfl, _, _, _⟩ := hw2
  simp only [push_cast, ↓reduceIte, Nat.reduceEqDiff, Nat.reduceAdd, Nat.reduceMul, Nat.reduceSub, Nat.reduceLT, Nat.reduceLeDiff, reduceCtorEq, Nat.reduceMod, Int.reduceEq, Int.reduceLT, Int.reduceLE, Int.reduceToNat, dite_true]
  refine VC.seq (VC.cutW (ι := PH × Value × PH) (fun j => [(6, .v (.slice p2 (here l (V.withinKid e.kids)).length c2)), (7, .v j.2.1), (4, .o 1 b 0), (0, .o 0 sb 0), (2, .v (.slice pv0 l.length cv0))]) (fun _ => [⟨0, sb, schT, cellsM vd vb vc vg m s.big⟩, ⟨1, b, 49, expCells e (.slice pa e.atoms.length ca) (.slice pb e.binds.length cb) (.slice (some q) e.kids.length ce) (.slice pl e.alts.length cl)⟩]) (fun j => j.1) (fun j => j.2.2 :: m.rows)
    (fun j => F2.le j.1 ∧ Row j.2.2 9 1 j.2.1 ((keepL l e.alts).map .string)) (fun G hG => ?_) ?_)
  · refine VC.go 100 ?_
    simp only [push_cast, ↓reduceIte, Nat.reduceEqDiff, Nat.reduceAdd, Nat.reduceMul, Nat.reduceSub, Nat.reduceLT, Nat.reduceLeDiff, reduceCtorEq, Nat.reduceMod, Int.reduceEq, Int.reduceLT, Int.reduceLE, Int.reduceToNat, dite_true]
    refine VC.loopW (ι := Nat × PH × Value × PH) (fun j => [(8, .v (i64v j.1)), (6, .v (.slice p2 (here l (V.withinKid e.kids)).length c2)), (7, .v j.2.2.1), (4, .o 1 b 0), (0, .o 0 sb 0), (2, .v (.slice pv0 l.length cv0))]) (fun _ => [⟨0, sb, schT, cellsM vd vb vc vg m s.big⟩, ⟨1, b, 49, expCells e (.slice pa e.atoms.length ca) (.slice pb e.binds.length cb) (.slice (some q) e.kids.length ce) (.slice pl e.alts.length cl)⟩]) (fun j => j.2.1) (fun j => j.2.2.2 :: m.rows)
      (fun j => j.1 ≤ e.alts.length ∧ F2.le j.2.1 ∧ Row j.2.2.2 9 1 j.2.2.1 ((keepL l (e.alts.take j.1)).map .string)) (fun j => e.alts.length - j.1) (0, F2, .slice none 0 0, PH.emp) ⟨Nat.zero_le _, PH.le_refl _, Row.nil _ _⟩ (by simp [subk, Eng.look]) (List.Sublist.refl _) rfl (subR_refl _) ?_
    rintro ⟨k, F3, v3, r3⟩ ⟨hk, hF3, hr3⟩ G1 hG1
    dsimp only at hk hF3 hr3 hG1 ⊢
    by_cases h : k < e.alts.length
    case neg =>
      have h' : ¬ (k : Int) < (e.alts.length : Int) := by omega
      refine VC.go 100 ?_
      simp only [push_cast, ↓reduceIte, Nat.reduceEqDiff, Nat.reduceAdd, Nat.reduceMul, Nat.reduceSub, Nat.reduceLT, Nat.reduceLeDiff, reduceCtorEq, Nat.reduceMod, Int.reduceEq, Int.reduceLT, Int.reduceLE, Int.reduceToNat, dite_true, h']
      rw [List.take_of_length_le (by omega)] at hr3
      exact hG (F3, v3, r3) _ ⟨hF3, hr3⟩ (by simp [subk, Eng.look]) (List.Sublist.refl _) rfl (subR_refl _)
    have h' : (k : Int) < (e.alts.length : Int) := by omega
    have h0 : (0 : Int) ≤ (k : Int) := by omega
    have hF03 := PH.le_trans hF12 hF3
    obtain ⟨q2, _, cs2, eq, _, _, kl2, kr2⟩ := (hX'.alts.mono (R' := RAlt F3) hF03 (fun _ _ _ h => h.mono hF03)).elem (by decide) (i := k) (a := e.alts[k]) (List.getElem?_eq_getElem h) (fun _ _ h => h.len)
    cases eq
    have kr2' := kr2
    obtain ⟨va2, c2', rfl, hva, hvc⟩ := RAlt_iff.1 kr2
    obtain ⟨wa2, wb2, we2, wl2, rfl, wx2⟩ := RExp_iff.1 hvc
    have e2 : IntKind.i64.wrap ((k : Int) + 1) = ((k + 1 : Nat) : Int) := wadd k h (Nat.le_trans ha2 ha3)
    have hbm : (e.alts[k]).size ≤ sizeLs e.alts := V.sizeLs_mem (List.getElem_mem h)
    have hbq := V.asize_eq (e.alts[k])
    have hsum : sizeLs (e.alts.take k) + (e.alts[k]).size ≤ sizeLs e.alts := sizeLs_take_at e.alts k h
    have hkk := keepL_len l (e.alts.take k) []
    have hkk' : (keepL l (e.alts.take k)).length ≤ sizeLs (e.alts.take k) := by simpa [keepL] using hkk
    have hwl2 := within_len (e.alts[k]).body
    have hhl2 := here_len l (within (e.alts[k]).body)
    have kb : F3.cells (q2.add (k * 13 + 5)) 8 = some (expCells (e.alts[k]).body wa2 wb2 we2 wl2) := by have := cells_sub kl2 (o := 5) (m := 8) (by omega); rw [add_add] at this; exact this
    refine VC.go 9 ?_
    simp only [push_cast, ↓reduceIte, Nat.reduceEqDiff, Nat.reduceAdd, Nat.reduceMul, Nat.reduceSub, Nat.reduceLT, Nat.reduceLeDiff, reduceCtorEq, Nat.reduceMod, Int.reduceEq, Int.reduceLT, Int.reduceLE, Int.reduceToNat, dite_true, h', h0, kb, add_add]
    refine callStrs (within10 F3 (e.alts[k]).body _ _ _ _ wx2 (by omega)) fun w4 F4 hF4 hw4 => ?_
    simp only [push_cast, ↓reduceIte, Nat.reduceEqDiff, Nat.reduceAdd, Nat.reduceMul, Nat.reduceSub, Nat.reduceLT, Nat.reduceLeDiff, reduceCtorEq, Nat.reduceMod, Int.reduceEq, Int.reduceLT, Int.reduceLE, Int.reduceToNat, dite_true]
    refine callStrs (hereF F4 _ w4 l (within (e.alts[k]).body) (hv'.mono (PH.le_trans hF03 hF4)) hw4 (by omega)) fun w5 F5 hF5 hw5 => ?_
    have hw5' := hw5
    obtain ⟨p5, c5, rfl, h51, h52, h53⟩ := hw5
    have hF35 := PH.le_trans hF4 hF5
    simp only [push_cast, ↓reduceIte, Nat.reduceEqDiff, Nat.reduceAdd, Nat.reduceMul, Nat.reduceSub, Nat.reduceLT, Nat.reduceLeDiff, reduceCtorEq, Nat.reduceMod, Int.reduceEq, Int.reduceLT, Int.reduceLE, Int.reduceToNat, dite_true]
    have hown : ∀ G, F3.le G → RAlt G (e.alts[k]) _ := fun G h => kr2'.mono h
    obtain ⟨ow, how⟩ : ∃ o, o = ownA (e.alts[k]).kind (e.alts[k]).name (e.alts[k]).vars := ⟨_, rfl⟩
    obtain ⟨kp, hkpd⟩ : ∃ o, o = keepL l (e.alts.take k) := ⟨_, rfl⟩
    obtain ⟨nm, hnm⟩ : ∃ o, o = here l (within (e.alts[k]).body) := ⟨_, rfl⟩
    have hsnoc : keepL l (e.alts.take (k + 1)) = nm.foldl (keep1 ow) kp := by rw [List.take_succ_eq_append_getElem h, keepL_snoc, how, hkpd, hnm]; rfl
    rw [← hnm] at hw5' h51 h53 hhl2 ⊢
    rw [← hkpd] at hr3 hkk'
    refine VC.go 100 ?_
    simp only [push_cast, ↓reduceIte, Nat.reduceEqDiff, Nat.reduceAdd, Nat.reduceMul, Nat.reduceSub, Nat.reduceLT, Nat.reduceLeDiff, reduceCtorEq, Nat.reduceMod, Int.reduceEq, Int.reduceLT, Int.reduceLE, Int.reduceToNat, dite_true]
    refine VC.loopW (ι := Nat × PH × Value × PH) (fun j => [(10, .v (i64v j.1)), (9, .v (.slice p5 nm.length c5)), (8, .v (i64v k)), (6, .v (.slice p2 (here l (V.withinKid e.kids)).length c2)), (7, .v j.2.2.1), (4, .o 1 b 0), (0, .o 0 sb 0), (2, .v (.slice pv0 l.length cv0))]) (fun _ => [⟨0, sb, schT, cellsM vd vb vc vg m s.big⟩, ⟨1, b, 49, expCells e (.slice pa e.atoms.length ca) (.slice pb e.binds.length cb) (.slice (some q) e.kids.length ce) (.slice (some q2) e.alts.length cl)⟩]) (fun j => j.2.1) (fun j => j.2.2.2 :: m.rows)
      (fun j => j.1 ≤ nm.length ∧ F5.le j.2.1 ∧ Row j.2.2.2 9 1 j.2.2.1 (((nm.take j.1).foldl (keep1 ow) kp).map .string)) (fun j => nm.length - j.1) (0, F5, v3, r3) ⟨Nat.zero_le _, PH.le_refl _, hr3⟩ (by simp [subk, Eng.look]) (List.Sublist.refl _) rfl (subR_refl _) ?_
    rintro ⟨j, F6, v6, r6⟩ ⟨hj, hF6, hr6⟩ G2 hG2
    dsimp only at hj hF6 hr6 hG2 ⊢
    refine VC.go 100 ?_
    by_cases hjl : j < nm.length
    case neg =>
      have h2' : ¬ (j : Int) < (nm.length : Int) := by omega
      simp only [push_cast, ↓reduceIte, Nat.reduceEqDiff, Nat.reduceAdd, Nat.reduceMul, Nat.reduceSub, Nat.reduceLT, Nat.reduceLeDiff, reduceCtorEq, Nat.reduceMod, Int.reduceEq, Int.reduceLT, Int.reduceLE, Int.reduceToNat, dite_true, h2', e2]
      rw [List.take_of_length_le (by omega)] at hr6
      exact hG1 (k + 1, F6, v6, r6) _ ⟨by omega, PH.le_trans hF3 (PH.le_trans hF35 hF6), by dsimp only; rw [hsnoc]; exact hr6⟩ (by simp; omega) (by simp [subk, Eng.look]) (List.Sublist.refl _) rfl (subR_refl _)
    have h2' : (j : Int) < (nm.length : Int) := by omega
    have h20 : (0 : Int) ≤ (j : Int) := by omega
    have hF36 := PH.le_trans hF35 hF6
    obtain ⟨q5, rfl, hq5⟩ := (h53.mono hF6).elem1 (i := j) (v := .string nm[j]) (by simp [hjl])
    have e3 : IntKind.i64.wrap ((j : Int) + 1) = ((j + 1 : Nat) : Int) := wadd j hjl (Nat.le_trans h51 h52)
    have hkf := keepF_len ow (nm.take j) kp
    have hst : (nm.take (j + 1)).foldl (keep1 ow) kp = keep1 ow ((nm.take j).foldl (keep1 ow) kp) nm[j] := by rw [List.take_succ_eq_append_getElem hjl, List.foldl_append]; rfl
    have hlt : (nm.take j).length ≤ j := List.length_take_le _ _
    generalize hkq : (nm.take j).foldl (keep1 ow) kp = kq at hr6 hst hkf
    simp only [push_cast, ↓reduceIte, Nat.reduceEqDiff, Nat.reduceAdd, Nat.reduceMul, Nat.reduceSub, Nat.reduceLT, Nat.reduceLeDiff, reduceCtorEq, Nat.reduceMod, Int.reduceEq, Int.reduceLT, Int.reduceLE, Int.reduceToNat, dite_true, h2']
    refine VC.draw (.q 0 (.q 1 (.q 2 (.q 3 (.q 4 (.q 6 (.q 7 (.q 8 (.q 9 (.e 5 (.e 10 (.q 11 (.q 12 (.q 13 (.q 14 (.q 15 (.q 16 (.q 17 (.e 18 (.q 19 (.q 20 (.done)))))))))))))))))))))) mixed (by rfl) ?_
    simp only [push_cast, ↓reduceIte, Nat.reduceEqDiff, Nat.reduceAdd, Nat.reduceMul, Nat.reduceSub, Nat.reduceLT, Nat.reduceLeDiff, reduceCtorEq, Nat.reduceMod, Int.reduceEq, Int.reduceLT, Int.reduceLE, Int.reduceToNat, dite_true, h', h0, h2', h20, hF36.cells kl2, hq5]
    refine CallV.pure (own F6 (e.alts[k]) _ (hown F6 hF36)) ?_
    intro v7 F7 hF7 hv7
    rw [← how] at hv7
    simp only [push_cast, ↓reduceIte, Nat.reduceEqDiff, Nat.reduceAdd, Nat.reduceMul, Nat.reduceSub, Nat.reduceLT, Nat.reduceLeDiff, reduceCtorEq, Nat.reduceMod, Int.reduceEq, Int.reduceLT, Int.reduceLE, Int.reduceToNat, dite_true]
    refine CallV.pure (find F7 v7 ow nm[j] hv7) ?_
    rintro _ F8 hF8 rfl
    have hF68 := PH.le_trans hF7 hF8
    by_cases c1 : findL ow nm[j] < 0
    case neg =>
      simp only [push_cast, ↓reduceIte, Nat.reduceEqDiff, Nat.reduceAdd, Nat.reduceMul, Nat.reduceSub, Nat.reduceLT, Nat.reduceLeDiff, reduceCtorEq, Nat.reduceMod, Int.reduceEq, Int.reduceLT, Int.reduceLE, Int.reduceToNat, dite_true, c1]
      refine VC.go 100 ?_
      simp only [push_cast, ↓reduceIte, Nat.reduceEqDiff, Nat.reduceAdd, Nat.reduceMul, Nat.reduceSub, Nat.reduceLT, Nat.reduceLeDiff, reduceCtorEq, Nat.reduceMod, Int.reduceEq, Int.reduceLT, Int.reduceLE, Int.reduceToNat, dite_true, e3]
      exact hG2 (j + 1, F8, v6, r6) _ ⟨by omega, PH.le_trans hF6 hF68, by dsimp only; rw [hst, show keep1 ow kq nm[j] = kq from if_pos (.inl (by omega))]; exact hr6⟩ (by simp; omega) (by simp [subk, Eng.look]) (List.Sublist.refl _) rfl (subR_refl _)
    simp only [push_cast, ↓reduceIte, Nat.reduceEqDiff, Nat.reduceAdd, Nat.reduceMul, Nat.reduceSub, Nat.reduceLT, Nat.reduceLeDiff, reduceCtorEq, Nat.reduceMod, Int.reduceEq, Int.reduceLT, Int.reduceLE, Int.reduceToNat, dite_true, c1, h2', h20, hF68.cell hq5]
    refine CallV.lendPure (r := r6) (Rf := m.rows) (List.Perm.refl _) (find F8 _ [] nm[j] (nil_strs _)).1 (fun hd => find _ v6 kq nm[j] (Row.strs hr6 (PH.or_right hd))) ?_
    rintro _ F9 hF9 rfl
    have hF69 := PH.le_trans hF68 hF9
    by_cases c2 : findL kq nm[j] < 0
    case neg =>
      simp only [push_cast, ↓reduceIte, Nat.reduceEqDiff, Nat.reduceAdd, Nat.reduceMul, Nat.reduceSub, Nat.reduceLT, Nat.reduceLeDiff, reduceCtorEq, Nat.reduceMod, Int.reduceEq, Int.reduceLT, Int.reduceLE, Int.reduceToNat, dite_true, c2]
      refine VC.go 100 ?_
      simp only [push_cast, ↓reduceIte, Nat.reduceEqDiff, Nat.reduceAdd, Nat.reduceMul, Nat.reduceSub, Nat.reduceLT, Nat.reduceLeDiff, reduceCtorEq, Nat.reduceMod, Int.reduceEq, Int.reduceLT, Int.reduceLE, Int.reduceToNat, dite_true, e3]
      exact hG2 (j + 1, F9, v6, r6) _ ⟨by omega, PH.le_trans hF6 hF69, by dsimp only; rw [hst, show keep1 ow kq nm[j] = kq from if_pos (.inr (by omega))]; exact hr6⟩ (by simp; omega) (by simp [subk, Eng.look]) (List.Sublist.refl _) rfl (subR_refl _)
    simp only [push_cast, ↓reduceIte, Nat.reduceEqDiff, Nat.reduceAdd, Nat.reduceMul, Nat.reduceSub, Nat.reduceLT, Nat.reduceLeDiff, reduceCtorEq, Nat.reduceMod, Int.reduceEq, Int.reduceLT, Int.reduceLE, Int.reduceToNat, dite_true, c2]
    refine VC.go 100 ?_
    simp only [push_cast, ↓reduceIte, Nat.reduceEqDiff, Nat.reduceAdd, Nat.reduceMul, Nat.reduceSub, Nat.reduceLT, Nat.reduceLeDiff, reduceCtorEq, Nat.reduceMod, Int.reduceEq, Int.reduceLT, Int.reduceLE, Int.reduceToNat, dite_true, h2', h20, hF69.cell hq5]
    intro b10 F10 hF10 hb10
    refine Eff.append (ys := [.string nm[j]]) rfl rfl rfl ty44 rfl ty9 rfl (by decide) rfl rfl (List.Perm.refl _) hr6 (Src.blk hb10 rfl) (by simp [Value.oneCell']) (by simp; omega) (by decide) fun v11 r11 hr11 => ?_
    simp only [push_cast, ↓reduceIte, Nat.reduceEqDiff, Nat.reduceAdd, Nat.reduceMul, Nat.reduceSub, Nat.reduceLT, Nat.reduceLeDiff, reduceCtorEq, Nat.reduceMod, Int.reduceEq, Int.reduceLT, Int.reduceLE, Int.reduceToNat, dite_true, e3]
    exact hG2 (j + 1, F10, v11, r11) _ ⟨by omega, PH.le_trans hF6 (PH.le_trans hF69 hF10), by dsimp only; rw [hst, show keep1 ow kq nm[j] = kq ++ [nm[j]] from if_neg (by omega), List.map_append]; exact hr11⟩ (by simp; omega) (by simp [subk, Eng.look]) (List.Sublist.refl _) rfl (subR_refl _)
  rintro ⟨F3, v3, r3⟩ ⟨hF3, hr3⟩
  dsimp only at hF3 hr3 ⊢
  refine VC.freezeR (.refl _) fun F4 hF4 hle => ?_
  have hw3 : Strs F4 v3 (keepL l e.alts) := Row.strs hr3 hle
  have hw3' := hw3
  obtain ⟨p3, c3, rfl, _, _, _⟩ := hw3
  have hF24 := PH.le_trans hF3 hF4
  have hF04 := PH.le_trans hF12 hF24
  have hS4 := hS.mono hF04
  have hC4 := hC.mono hF04
  obtain ⟨_, _, hvn, _, _⟩ := hS4.ins.val (by decide) (fun _ _ h => h.len)
  refine VC.go 4 ?_
  simp only [push_cast, ↓reduceIte, Nat.reduceEqDiff, Nat.reduceAdd, Nat.reduceMul, Nat.reduceSub, Nat.reduceLT, Nat.reduceLeDiff, reduceCtorEq, Nat.reduceMod, Int.reduceEq, Int.reduceLT, Int.reduceLE, Int.reduceToNat, dite_true, hvn]
  refine callLook (cs := cellsM vd vb vc vg m s.big) rfl (places F4 ds bs sb _ _ _ _ _ _ _ _ _ _ _ l (here l (V.withinKid e.kids)) (hv'.mono hF04) (hw2'.mono hF24) hC4.binds hbn (by omega)) fun v5 F5 hF5 hi5 => ?_
  have hi5' := hi5
  obtain ⟨p5, c5, rfl, _, _, _⟩ := hi5
  simp only [push_cast, ↓reduceIte, Nat.reduceEqDiff, Nat.reduceAdd, Nat.reduceMul, Nat.reduceSub, Nat.reduceLT, Nat.reduceLeDiff, reduceCtorEq, Nat.reduceMod, Int.reduceEq, Int.reduceLT, Int.reduceLE, Int.reduceToNat, dite_true]
  refine callLook (cs := cellsM vd vb vc vg m s.big) rfl (places F5 ds bs sb _ _ _ _ _ _ _ _ _ _ _ l (keepL l e.alts) (hv'.mono (PH.le_trans hF04 hF5)) (hw3'.mono hF5) ((hC4.mono hF5).binds) hbn (by omega)) fun v6 F6 hF6 hi6 => ?_
  have hi6' := hi6
  obtain ⟨p6, c6, rfl, _, _, _⟩ := hi6
  have hF46 := PH.le_trans hF5 hF6
  simp only [push_cast, ↓reduceIte, Nat.reduceEqDiff, Nat.reduceAdd, Nat.reduceMul, Nat.reduceSub, Nat.reduceLT, Nat.reduceLeDiff, reduceCtorEq, Nat.reduceMod, Int.reduceEq, Int.reduceLT, Int.reduceLE, Int.reduceToNat, dite_true]
  refine callPut (x := ⟨4, 0, l.length, (here l (V.withinKid e.kids)).map (place (env ds bs) l), (keepL l e.alts).map (place (env ds bs) l), [], []⟩) (Re := []) (m := m) rfl rfl (.refl _) (hC4.mono hF46) (hS4.mono hF46) ⟨_, _, _, _, rfl, hi5'.mono hF6, hi6', nil_sle _ 4 _, nil_sle _ 4 _⟩ (by omega) (by simp; omega) (by simp) fun v7 F7 m7 hF7 hS7 => ?_
  have hF47 := PH.le_trans hF46 hF7
  have hF07 := PH.le_trans hF04 hF47
  simp only [push_cast, ↓reduceIte, Nat.reduceEqDiff, Nat.reduceAdd, Nat.reduceMul, Nat.reduceSub, Nat.reduceLT, Nat.reduceLeDiff, reduceCtorEq, Nat.reduceMod, Int.reduceEq, Int.reduceLT, Int.reduceLE, Int.reduceToNat, dite_true]
  refine VC.go 4 ?_
  simp only [push_cast, ↓reduceIte, Nat.reduceEqDiff, Nat.reduceAdd, Nat.reduceMul, Nat.reduceSub, Nat.reduceLT, Nat.reduceLeDiff, reduceCtorEq, Nat.reduceMod, Int.reduceEq, Int.reduceLT, Int.reduceLE, Int.reduceToNat, dite_true, hkl, hF07.cells kl]
  have okk0 : okX (env ds bs) (here l (V.withinKid e.kids)) e0 := by rw [hk0] at okk ⊢; exact okk
  refine callS (Re := []) (m := m7) rfl rfl (.refl _) (hE e0 (by omega) F7 sb vd vb vc vg m7 (caseS (env ds bs) e.kids e.alts l s) (here l (V.withinKid e.kids)) _ _ _ _ _ (wx.mono hF07) (hw2'.mono (PH.le_trans hF24 hF47)) okk0 (hC.mono hF07) hS7 ⟨by simp [caseS, putS]; omega, by simp [caseS, putS]; omega, by omega, by omega⟩) fun v9 F9 m9 hF9 hS9 _ => ?_
  have hF09 := PH.le_trans hF07 hF9
  obtain ⟨s2, hs2⟩ : ∃ s2, s2 = layKid (env ds bs) e.kids (here l (V.withinKid e.kids)) (caseS (env ds bs) e.kids e.alts l s) := ⟨_, rfl⟩
  have hl2 : ∀ (ks : List Exp), ks = e0 :: es0 → ∀ (l' : List ByteArray) (s' : Sc), layKid (env ds bs) ks l' s' = layE (env ds bs) e0 l' s' := fun ks h l' s' => by subst h; simp only [layKid]
  rw [hl2 e.kids hk0] at hs2
  rw [← hs2] at hS9 ⊢
  have hon := layE_on (env ds bs) e0 (here l (V.withinKid e.kids)) (caseS (env ds bs) e.kids e.alts l s)
  rw [← hs2] at hon
  have hoi := hon.ins
  have hof := hon.infos
  have hci : (caseS (env ds bs) e.kids e.alts l s).ins.length = s.ins.length + 1 := by simp [caseS, putS]
  have hcf : (caseS (env ds bs) e.kids e.alts l s).infos.length = s.infos.length := by simp [caseS, putS]
  rw [hci] at hoi
  rw [hcf] at hof
  have hlen0 : 2 * e0.size + 2 * sizeLs e.alts + 2 ≤ 2 * e.size := by omega
  have e5 : IntKind.i64.wrap (((keepL l e.alts).length : Int) + 1) = (keepL l e.alts).length + 1 := w64 _ (by omega)
  obtain ⟨xs, hrow, hes'⟩ := hS9.ins
  have hxs := hes'.len (fun _ _ h => h.len)
  obtain ⟨pg, mg, cg, hvn9, m1, m2, m3⟩ := hrow.has (by intro h0; rw [h0, List.length_nil] at hxs; omega)
  have hmg : mg = s2.ins.length := by rw [hxs] at m1; omega
  subst hmg
  simp only [push_cast, ↓reduceIte, Nat.reduceEqDiff, Nat.reduceAdd, Nat.reduceMul, Nat.reduceSub, Nat.reduceLT, Nat.reduceLeDiff, reduceCtorEq, Nat.reduceMod, Int.reduceEq, Int.reduceLT, Int.reduceLE, Int.reduceToNat, dite_true, hvn9]
  rw [hvn9] at hrow
  refine VC.rowM (i := 7) (Rf := [m9.ri, m9.rf, m9.rw]) (List.Perm.swap _ _ _) hrow fun g csg hpg hcl hmc hcm hct => ?_
  subst hpg
  have hlt : s.ins.length * 7 + 1 < csg.length := by rw [hcl]; omega
  have hlt2 : (s.ins.length : Int) < (s2.ins.length : Int) := by omega
  have hlt3 : (0 : Int) ≤ (s.ins.length : Int) := by omega
  refine VC.go 2 ?_
  simp only [push_cast, ↓reduceIte, Nat.reduceEqDiff, Nat.reduceAdd, Nat.reduceMul, Nat.reduceSub, Nat.reduceLT, Nat.reduceLeDiff, reduceCtorEq, Nat.reduceMod, Int.reduceEq, Int.reduceLT, Int.reduceLE, Int.reduceToNat, dite_true, hvn9, add_own, Nat.zero_add, hlt, hlt2, hlt3]
  refine VC.toR (m := ⟨7, g, 89, csg.set (s.ins.length * 7 + 1) (i64v s2.ins.length)⟩) (.refl _) [(12, .v (i64v s2.ins.length)), (6, .v (.slice p2 (here l (V.withinKid e.kids)).length c2)), (7, .v (.slice p3 (keepL l e.alts).length c3)), (4, .o 1 b 0), (0, .o 0 sb 0), (2, .v (.slice pv0 l.length cv0))] (by simp [subv, Eng.look, AV.val]) ?_
  obtain ⟨m10, hm10⟩ : ∃ m10 : Mem, m10 = ⟨m9.vi, .slice (some ⟨g, 0, none⟩) s2.ins.length cg, m9.vf, m9.vw, m9.ri, cell1 g 89 (csg.set (s.ins.length * 7 + 1) (i64v s2.ins.length)), m9.rf, m9.rw⟩ := ⟨_, rfl⟩
  have hcells : cellsM vd vb vc vg m9 s2.big = cellsM vd vb vc vg m10 (setA s2 s.ins.length s2.ins.length).big := by rw [hm10]; simp only [cellsM, cellsD, hvn9, setA]
  have hrows : m10.rows = [m9.ri, cell1 g 89 (csg.set (s.ins.length * 7 + 1) (i64v s2.ins.length)), m9.rf, m9.rw] := by rw [hm10]
  have hS10 : SchD F9 (setA s2 s.ins.length s2.ins.length) m10 := by
    rw [hm10]
    refine ⟨hS9.infos, ?_, hS9.forms, hS9.needs, hS9.e1, hS9.e2⟩
    exact RowE.set (by decide) (fun _ _ h => h.len) (by decide) (fun x c hc => by obtain ⟨vl, vk, vm, va, rfl, k1, k2, k3, k4⟩ := hc; exact ⟨vl, vk, vm, va, rfl, k1, k2, k3, k4⟩) (by omega) hcl hmc hcm (by rw [hct]; exact hes') rfl
  refine VC.permR (R := m10.rows) (by rw [hrows]; exact List.Perm.swap _ _ _) ?_
  have hil : (setA s2 s.ins.length s2.ins.length).ins.length = s2.ins.length := by simp [setA]
  have hifl : (setA s2 s.ins.length s2.ins.length).infos.length = s2.infos.length := by simp [setA]
  dsimp only
  rw [hcells]
  refine VC.go 2 ?_
  simp only [push_cast, ↓reduceIte, Nat.reduceEqDiff, Nat.reduceAdd, Nat.reduceMul, Nat.reduceSub, Nat.reduceLT, Nat.reduceLeDiff, reduceCtorEq, Nat.reduceMod, Int.reduceEq, Int.reduceLT, Int.reduceLE, Int.reduceToNat, dite_true, e5]
  refine callPut (s := setA s2 s.ins.length s2.ins.length) (m := m10) (x := ⟨5, 0, (keepL l e.alts).length + 1, [], [], [], []⟩) (Re := []) rfl rfl (by rw [List.append_nil]) (hC.mono hF09) hS10 ⟨_, _, _, _, rfl, nil_ints _, nil_ints _, nil_sle _ 4 _, nil_sle _ 4 _⟩ (by omega) (by simp; omega) (by simp) fun v11 F10 m11 hF10 hS11 => ?_
  have hF010 := PH.le_trans hF09 hF10
  simp only [push_cast, ↓reduceIte, Nat.reduceEqDiff, Nat.reduceAdd, Nat.reduceMul, Nat.reduceSub, Nat.reduceLT, Nat.reduceLeDiff, reduceCtorEq, Nat.reduceMod, Int.reduceEq, Int.reduceLT, Int.reduceLE, Int.reduceToNat, dite_true]
  have hA : putS (setA s2 s.ins.length s2.ins.length) ⟨5, 0, (keepL l e.alts).length + 1, [], [], [], []⟩ = armsS s2 s.ins.length (keepL l e.alts) := rfl
  rw [hA] at hS11 ⊢
  have hi3 : (armsS s2 s.ins.length (keepL l e.alts)).ins.length = s2.ins.length + 1 := by simp [armsS, putS, setA]
  have hf3 : (armsS s2 s.ins.length (keepL l e.alts)).infos.length = s2.infos.length := by simp [armsS, putS, setA]
  have hw3k := hw3'.mono (PH.le_trans hF47 (PH.le_trans hF9 hF10))
  refine VC.emp (VC.go 2 ?_)
  simp only [push_cast, ↓reduceIte, Nat.reduceEqDiff, Nat.reduceAdd, Nat.reduceMul, Nat.reduceSub, Nat.reduceLT, Nat.reduceLeDiff, reduceCtorEq, Nat.reduceMod, Int.reduceEq, Int.reduceLT, Int.reduceLE, Int.reduceToNat, dite_true]
  refine VC.seq (VC.cutW (ι := PH × Value × PH × Mem) (fun j => [(13, .v j.2.1), (12, .v (i64v s2.ins.length)), (7, .v (.slice p3 (keepL l e.alts).length c3)), (4, .o 1 b 0), (0, .o 0 sb 0)]) (fun j => [⟨0, sb, schT, cellsM vd vb vc vg j.2.2.2 (layAlts (env ds bs) (keepL l e.alts) e.alts ⟨[], armsS s2 s.ins.length (keepL l e.alts)⟩).s.big⟩, ⟨1, b, 49, expCells e (.slice pa e.atoms.length ca) (.slice pb e.binds.length cb) (.slice (some q) e.kids.length ce) (.slice pl e.alts.length cl)⟩]) (fun j => j.1) (fun j => j.2.2.1 :: j.2.2.2.rows)
    (fun j => F10.le j.1 ∧ RowE j.2.2.1 138 4 RArm j.2.1 (layAlts (env ds bs) (keepL l e.alts) e.alts ⟨[], armsS s2 s.ins.length (keepL l e.alts)⟩).arms ∧ SchD j.1 (layAlts (env ds bs) (keepL l e.alts) e.alts ⟨[], armsS s2 s.ins.length (keepL l e.alts)⟩).s j.2.2.2) (fun G hG => ?_) ?_)
  · refine VC.go 100 ?_
    simp only [push_cast, ↓reduceIte, Nat.reduceEqDiff, Nat.reduceAdd, Nat.reduceMul, Nat.reduceSub, Nat.reduceLT, Nat.reduceLeDiff, reduceCtorEq, Nat.reduceMod, Int.reduceEq, Int.reduceLT, Int.reduceLE, Int.reduceToNat, dite_true]
    refine VC.loopW (ι := Nat × PH × Value × PH × Mem) (fun j => [(14, .v (i64v j.1)), (13, .v j.2.2.1), (12, .v (i64v s2.ins.length)), (7, .v (.slice p3 (keepL l e.alts).length c3)), (4, .o 1 b 0), (0, .o 0 sb 0)]) (fun j => [⟨0, sb, schT, cellsM vd vb vc vg j.2.2.2.2 (layAlts (env ds bs) (keepL l e.alts) (e.alts.take j.1) ⟨[], armsS s2 s.ins.length (keepL l e.alts)⟩).s.big⟩, ⟨1, b, 49, expCells e (.slice pa e.atoms.length ca) (.slice pb e.binds.length cb) (.slice (some q) e.kids.length ce) (.slice pl e.alts.length cl)⟩]) (fun j => j.2.1) (fun j => j.2.2.2.1 :: j.2.2.2.2.rows)
      (fun j => j.1 ≤ e.alts.length ∧ F10.le j.2.1 ∧ RowE j.2.2.2.1 138 4 RArm j.2.2.1 (layAlts (env ds bs) (keepL l e.alts) (e.alts.take j.1) ⟨[], armsS s2 s.ins.length (keepL l e.alts)⟩).arms ∧ SchD j.2.1 (layAlts (env ds bs) (keepL l e.alts) (e.alts.take j.1) ⟨[], armsS s2 s.ins.length (keepL l e.alts)⟩).s j.2.2.2.2) (fun j => e.alts.length - j.1)
      (0, F10, .slice none 0 0, PH.emp, m11) ⟨Nat.zero_le _, PH.le_refl _, RowE.nil _ _ _, hS11⟩ (by simp [subk, Eng.look]) (List.Sublist.refl _) rfl (subR_refl _) ?_
    rintro ⟨k, F11, v12, rl, ⟨vi12, vn12, vf12, vw12, ri12, rn12, rf12, rw12⟩⟩ ⟨hk, hF11, hrl, hS12⟩ G1 hG1
    dsimp only at hk hF11 hrl hS12 hG1 ⊢
    by_cases h : k < e.alts.length
    case neg =>
      have h' : ¬ (k : Int) < (e.alts.length : Int) := by omega
      have htk : e.alts.take k = e.alts := List.take_of_length_le (by omega)
      rw [htk] at hrl hS12 ⊢
      refine VC.go 100 ?_
      simp only [push_cast, ↓reduceIte, Nat.reduceEqDiff, Nat.reduceAdd, Nat.reduceMul, Nat.reduceSub, Nat.reduceLT, Nat.reduceLeDiff, reduceCtorEq, Nat.reduceMod, Int.reduceEq, Int.reduceLT, Int.reduceLE, Int.reduceToNat, dite_true, h']
      exact hG (F11, v12, rl, ⟨vi12, vn12, vf12, vw12, ri12, rn12, rf12, rw12⟩) _ ⟨hF11, hrl, hS12⟩ (by simp [subk, Eng.look]) (List.Sublist.refl _) rfl (subR_refl _)
    have h' : (k : Int) < (e.alts.length : Int) := by omega
    have h0 : (0 : Int) ≤ (k : Int) := by omega
    have hF011 := PH.le_trans hF010 hF11
    obtain ⟨q2, _, cs2, eq, _, _, kl2, kr2⟩ := (hX'.alts.mono (R' := RAlt F11) hF011 (fun _ _ _ h => h.mono hF011)).elem (by decide) (i := k) (a := e.alts[k]) (List.getElem?_eq_getElem h) (fun _ _ h => h.len)
    cases eq
    obtain ⟨va2, c2', rfl, hva, hvc⟩ := RAlt_iff.1 kr2
    obtain ⟨wa2, wb2, we2, wl2, rfl, wx2⟩ := RExp_iff.1 hvc
    have wx2' := wx2
    obtain ⟨pa2, ca2, pb2, cb2, pe2, ce2, pl2, cl2, rfl, rfl, rfl, rfl⟩ := wx2.slices
    have hva' := hva
    obtain ⟨pv, cv, rfl, _, _, _⟩ := hva
    have e2 : IntKind.i64.wrap ((k : Int) + 1) = ((k + 1 : Nat) : Int) := wadd k h (Nat.le_trans ha2 ha3)
    have hbm : (e.alts[k]).size ≤ sizeLs e.alts := V.sizeLs_mem (List.getElem_mem h)
    have hbq := V.asize_eq (e.alts[k])
    have honk := layAlts_on (env ds bs) (keepL l e.alts) (e.alts.take k) ⟨[], armsS s2 s.ins.length (keepL l e.alts)⟩
    have hstep : (layAlts (env ds bs) (keepL l e.alts) (e.alts.take (k + 1)) ⟨[], armsS s2 s.ins.length (keepL l e.alts)⟩) = layAlt (env ds bs) (keepL l e.alts) (e.alts[k]) (layAlts (env ds bs) (keepL l e.alts) (e.alts.take k) ⟨[], armsS s2 s.ins.length (keepL l e.alts)⟩) := by rw [List.take_succ_eq_append_getElem h, layAlts_append]; simp only [layAlts]
    have hsum : sizeLs (e.alts.take k) + (e.alts[k]).size ≤ sizeLs e.alts := sizeLs_take_at e.alts k h
    have okl' := okLs_mem okl _ (List.getElem_mem h)
    have hal0 := layAlts_arms (env ds bs) (keepL l e.alts) (e.alts.take k) ⟨[], armsS s2 s.ins.length (keepL l e.alts)⟩
    have hki := honk.ins
    have hkf := honk.infos
    dsimp only at hki hkf hal0
    rw [hi3] at hki
    rw [hf3] at hkf
    generalize ht : (layAlts (env ds bs) (keepL l e.alts) (e.alts.take k) ⟨[], armsS s2 s.ins.length (keepL l e.alts)⟩) = t at hrl hS12 hstep hki hkf hal0 ⊢
    obtain ⟨pn, cn, rfl, hn1, hn2⟩ := hS12.ins.val (by decide) (fun _ _ h => h.len)
    have hkk := hw3k.mono hF11
    have hvl := sizeS_len' (e.alts[k]).vars
    refine VC.go 9 ?_
    simp only [push_cast, ↓reduceIte, Nat.reduceEqDiff, Nat.reduceAdd, Nat.reduceMul, Nat.reduceSub, Nat.reduceLT, Nat.reduceLeDiff, reduceCtorEq, Nat.reduceMod, Int.reduceEq, Int.reduceLT, Int.reduceLE, Int.reduceToNat, dite_true, h', h0, kl2, expCells]
    intro b15
    refine VC.seq (VC.drawT (fun S' => ∃ b17, subk S'.L [(16, .o 3 b17 0), (15, .o 2 b15 0), (14, .v (i64v k)), (13, .v v12), (12, .v (i64v s2.ins.length)), (7, .v (.slice p3 (keepL l e.alts).length c3)), (4, .o 1 b 0), (0, .o 0 sb 0)] ∧ [Own.mk 0 sb schT (cellsD vd vb vc vg vi12 (.slice pn t.s.ins.length cn) vf12 vw12 t.s.big), ⟨1, b, 49, expCells e (.slice pa e.atoms.length ca) (.slice pb e.binds.length cb) (.slice (some q) e.kids.length ce) (.slice (some q2) e.alts.length cl)⟩, ⟨2, b15, 148, (i64v (e.alts[k]).kind :: i64v (e.alts[k]).at_ :: .string (e.alts[k]).name :: i64v (e.alts[k]).n :: .slice pv (e.alts[k]).vars.length cv :: expCells (e.alts[k]).body (.slice pa2 (e.alts[k]).body.atoms.length ca2) (.slice pb2 (e.alts[k]).body.binds.length cb2) (.slice pe2 (e.alts[k]).body.kids.length ce2) (.slice pl2 (e.alts[k]).body.alts.length cl2))⟩, ⟨3, b17, 138, [i64v (e.alts[k]).kind, i64v 0, i64v 0, i64v t.s.ins.length]⟩].Sublist S'.M ∧ S'.F = F11 ∧ S'.R.Perm [rl, ri12, rn12, rf12, rw12])
      (.q 0 (.q 1 (.q 2 (.q 3 (.q 4 (.q 5 (.q 6 (.q 7 (.e2 8 (.e 9 (.e 10 (.done))) 9 (.e 8 (.e 10 (.done)))))))))))) mixed (by rfl) ?_ ?_)
    · simp only [push_cast, ↓reduceIte, Nat.reduceEqDiff, Nat.reduceAdd, Nat.reduceMul, Nat.reduceSub, Nat.reduceLT, Nat.reduceLeDiff, reduceCtorEq, Nat.reduceMod, Int.reduceEq, Int.reduceLT, Int.reduceLE, Int.reduceToNat, dite_true]
      refine ⟨fun b17 => ⟨b17, by simp [subk, Eng.look], by simp, .refl _⟩, fun b17 => ⟨b17, by simp [subk, Eng.look], by simp, .refl _⟩⟩
    rintro S' ⟨b17, g1, g3, g4, g5⟩
    refine VC.fromT _ _ F11 _ g1 g3 g4 g5 ?_
    refine VC.go 2 ?_
    simp only [push_cast, ↓reduceIte, Nat.reduceEqDiff, Nat.reduceAdd, Nat.reduceMul, Nat.reduceSub, Nat.reduceLT, Nat.reduceLeDiff, reduceCtorEq, Nat.reduceMod, Int.reduceEq, Int.reduceLT, Int.reduceLE, Int.reduceToNat, dite_true]
    intro b144 F12 hF12 hb144
    refine callStrs (withF F12 _ _ (keepL l e.alts) [⟨#[]⟩] (hkk.mono hF12) ⟨_, _, rfl, Nat.le_refl _, by decide, Src.blk hb144 rfl⟩ (by simp; omega)) fun v17 F13 hF13 hv17 => ?_
    have hF1113 := PH.le_trans hF12 hF13
    simp only [push_cast, ↓reduceIte, Nat.reduceEqDiff, Nat.reduceAdd, Nat.reduceMul, Nat.reduceSub, Nat.reduceLT, Nat.reduceLeDiff, reduceCtorEq, Nat.reduceMod, Int.reduceEq, Int.reduceLT, Int.reduceLE, Int.reduceToNat, dite_true]
    refine VC.seq (VC.cutW (ι := PH × Value) (fun j => [(17, .v j.2), (16, .o 3 b17 0), (15, .o 2 b15 0), (14, .v (i64v k)), (13, .v v12), (12, .v (i64v s2.ins.length)), (7, .v (.slice p3 (keepL l e.alts).length c3)), (4, .o 1 b 0), (0, .o 0 sb 0)]) (fun j => [⟨0, sb, schT, cellsD vd vb vc vg vi12 (.slice pn t.s.ins.length cn) vf12 vw12 t.s.big⟩, ⟨1, b, 49, expCells e (.slice pa e.atoms.length ca) (.slice pb e.binds.length cb) (.slice (some q) e.kids.length ce) (.slice (some q2) e.alts.length cl)⟩, ⟨2, b15, 148, (i64v (e.alts[k]).kind :: i64v (e.alts[k]).at_ :: .string (e.alts[k]).name :: i64v (e.alts[k]).n :: .slice pv (e.alts[k]).vars.length cv :: expCells (e.alts[k]).body (.slice pa2 (e.alts[k]).body.atoms.length ca2) (.slice pb2 (e.alts[k]).body.binds.length cb2) (.slice pe2 (e.alts[k]).body.kids.length ce2) (.slice pl2 (e.alts[k]).body.alts.length cl2))⟩, ⟨3, b17, 138, [i64v (e.alts[k]).kind, i64v (if (e.alts[k]).kind = 1 then conD ds (e.alts[k]).name else 0), i64v 0, i64v t.s.ins.length]⟩]) (fun j => j.1) (fun _ => [rl, ri12, rn12, rf12, rw12]) (fun j => F13.le j.1 ∧ Strs j.1 j.2 (if (e.alts[k]).kind = 1 then keepL l e.alts ++ [⟨#[]⟩] ++ (e.alts[k]).vars else keepL l e.alts ++ [⟨#[]⟩])) (fun G2 hG2 => ?_) ?_)
    · refine VC.go 100 ?_
      by_cases k1 : (e.alts[k]).kind = 1
      · simp only [push_cast, ↓reduceIte, Nat.reduceEqDiff, Nat.reduceAdd, Nat.reduceMul, Nat.reduceSub, Nat.reduceLT, Nat.reduceLeDiff, reduceCtorEq, Nat.reduceMod, Int.reduceEq, Int.reduceLT, Int.reduceLE, Int.reduceToNat, dite_true, eq_true k1]
        refine callLook rfl (con F13 ds sb _ _ _ _ _ _ _ _ _ (e.alts[k]).name ((hC.mono (PH.le_trans hF011 hF1113)).dats)) fun v18 F14 hF14 eq => ?_
        subst eq
        simp only [push_cast, ↓reduceIte, Nat.reduceEqDiff, Nat.reduceAdd, Nat.reduceMul, Nat.reduceSub, Nat.reduceLT, Nat.reduceLeDiff, reduceCtorEq, Nat.reduceMod, Int.reduceEq, Int.reduceLT, Int.reduceLE, Int.reduceToNat, dite_true]
        refine callStrs (withF F14 _ _ (keepL l e.alts ++ [⟨#[]⟩]) (e.alts[k]).vars (hv17.mono hF14) (hva'.mono (PH.le_trans hF1113 hF14)) (by simp; omega)) fun v19 F15 hF15 hv19 => ?_
        simp only [push_cast, ↓reduceIte, Nat.reduceEqDiff, Nat.reduceAdd, Nat.reduceMul, Nat.reduceSub, Nat.reduceLT, Nat.reduceLeDiff, reduceCtorEq, Nat.reduceMod, Int.reduceEq, Int.reduceLT, Int.reduceLE, Int.reduceToNat, dite_true]
        exact hG2 (F15, v19) _ ⟨PH.le_trans hF14 hF15, by rw [if_pos k1]; exact hv19⟩ (by simp [subk, Eng.look]) (by simp [k1]) rfl (subR_refl _)
      · simp only [push_cast, ↓reduceIte, Nat.reduceEqDiff, Nat.reduceAdd, Nat.reduceMul, Nat.reduceSub, Nat.reduceLT, Nat.reduceLeDiff, reduceCtorEq, Nat.reduceMod, Int.reduceEq, Int.reduceLT, Int.reduceLE, Int.reduceToNat, dite_true, k1]
        exact hG2 (F13, v17) _ ⟨PH.le_refl _, by rw [if_neg k1]; exact hv17⟩ (by simp [subk, Eng.look]) (by simp [k1]) rfl (subR_refl _)
    rintro ⟨F14, v18⟩ ⟨hF14, hv18⟩
    dsimp only at hF14 hv18 ⊢
    refine VC.seq (VC.cutW (ι := Unit) (fun j => [(17, .v v18), (16, .o 3 b17 0), (15, .o 2 b15 0), (14, .v (i64v k)), (13, .v v12), (12, .v (i64v s2.ins.length)), (7, .v (.slice p3 (keepL l e.alts).length c3)), (4, .o 1 b 0), (0, .o 0 sb 0)]) (fun j => [⟨0, sb, schT, cellsD vd vb vc vg vi12 (.slice pn t.s.ins.length cn) vf12 vw12 t.s.big⟩, ⟨1, b, 49, expCells e (.slice pa e.atoms.length ca) (.slice pb e.binds.length cb) (.slice (some q) e.kids.length ce) (.slice (some q2) e.alts.length cl)⟩, ⟨2, b15, 148, (i64v (e.alts[k]).kind :: i64v (e.alts[k]).at_ :: .string (e.alts[k]).name :: i64v (e.alts[k]).n :: .slice pv (e.alts[k]).vars.length cv :: expCells (e.alts[k]).body (.slice pa2 (e.alts[k]).body.atoms.length ca2) (.slice pb2 (e.alts[k]).body.binds.length cb2) (.slice pe2 (e.alts[k]).body.kids.length ce2) (.slice pl2 (e.alts[k]).body.alts.length cl2))⟩, ⟨3, b17, 138, [i64v (e.alts[k]).kind, i64v (if (e.alts[k]).kind = 1 then conD ds (e.alts[k]).name else 0), i64v (if (e.alts[k]).kind = 2 then (e.alts[k]).n else 0), i64v t.s.ins.length]⟩]) (fun j => F14) (fun _ => [rl, ri12, rn12, rf12, rw12]) (fun j => True) (fun G2 hG2 => ?_) ?_)
    · refine VC.go 100 ?_
      by_cases k2 : (e.alts[k]).kind = 2
      · simp only [push_cast, ↓reduceIte, Nat.reduceEqDiff, Nat.reduceAdd, Nat.reduceMul, Nat.reduceSub, Nat.reduceLT, Nat.reduceLeDiff, reduceCtorEq, Nat.reduceMod, Int.reduceEq, Int.reduceLT, Int.reduceLE, Int.reduceToNat, dite_true, eq_true k2]
        exact hG2 () _ trivial (by simp [subk, Eng.look]) (by simp [k2]) rfl (subR_refl _)
      · simp only [push_cast, ↓reduceIte, Nat.reduceEqDiff, Nat.reduceAdd, Nat.reduceMul, Nat.reduceSub, Nat.reduceLT, Nat.reduceLeDiff, reduceCtorEq, Nat.reduceMod, Int.reduceEq, Int.reduceLT, Int.reduceLE, Int.reduceToNat, dite_true, k2]
        exact hG2 () _ trivial (by simp [subk, Eng.look]) (by simp [k2]) rfl (subR_refl _)
    rintro ⟨⟩ _
    refine VC.seq (VC.cutW (ι := PH × Value) (fun j => [(17, .v j.2), (16, .o 3 b17 0), (15, .o 2 b15 0), (14, .v (i64v k)), (13, .v v12), (12, .v (i64v s2.ins.length)), (7, .v (.slice p3 (keepL l e.alts).length c3)), (4, .o 1 b 0), (0, .o 0 sb 0)]) (fun j => [⟨0, sb, schT, cellsD vd vb vc vg vi12 (.slice pn t.s.ins.length cn) vf12 vw12 t.s.big⟩, ⟨1, b, 49, expCells e (.slice pa e.atoms.length ca) (.slice pb e.binds.length cb) (.slice (some q) e.kids.length ce) (.slice (some q2) e.alts.length cl)⟩, ⟨2, b15, 148, (i64v (e.alts[k]).kind :: i64v (e.alts[k]).at_ :: .string (e.alts[k]).name :: i64v (e.alts[k]).n :: .slice pv (e.alts[k]).vars.length cv :: expCells (e.alts[k]).body (.slice pa2 (e.alts[k]).body.atoms.length ca2) (.slice pb2 (e.alts[k]).body.binds.length cb2) (.slice pe2 (e.alts[k]).body.kids.length ce2) (.slice pl2 (e.alts[k]).body.alts.length cl2))⟩, ⟨3, b17, 138, [i64v (e.alts[k]).kind, i64v (if (e.alts[k]).kind = 1 then conD ds (e.alts[k]).name else 0), i64v (if (e.alts[k]).kind = 2 then (e.alts[k]).n else 0), i64v t.s.ins.length]⟩]) (fun j => j.1) (fun _ => [rl, ri12, rn12, rf12, rw12]) (fun j => F14.le j.1 ∧ Strs j.1 j.2 (armIn (keepL l e.alts) (e.alts[k]).kind (e.alts[k]).name (e.alts[k]).vars)) (fun G2 hG2 => ?_) ?_)
    · refine VC.go 100 ?_
      by_cases k3 : (e.alts[k]).kind = 3
      · have k1 : ¬ (e.alts[k]).kind = 1 := by omega
        simp only [push_cast, ↓reduceIte, Nat.reduceEqDiff, Nat.reduceAdd, Nat.reduceMul, Nat.reduceSub, Nat.reduceLT, Nat.reduceLeDiff, reduceCtorEq, Nat.reduceMod, Int.reduceEq, Int.reduceLT, Int.reduceLE, Int.reduceToNat, dite_true, eq_true k3]
        intro b21 F15 hF15 hb21
        refine callStrs (withF F15 _ _ (keepL l e.alts) [(e.alts[k]).name] (hkk.mono (PH.le_trans hF1113 (PH.le_trans hF14 hF15))) ⟨_, _, rfl, Nat.le_refl _, by decide, Src.blk hb21 rfl⟩ (by simp; omega)) fun v19 F16 hF16 hv19 => ?_
        simp only [push_cast, ↓reduceIte, Nat.reduceEqDiff, Nat.reduceAdd, Nat.reduceMul, Nat.reduceSub, Nat.reduceLT, Nat.reduceLeDiff, reduceCtorEq, Nat.reduceMod, Int.reduceEq, Int.reduceLT, Int.reduceLE, Int.reduceToNat, dite_true]
        exact hG2 (F16, v19) _ ⟨PH.le_trans hF15 hF16, by unfold armIn; rw [if_neg k1, if_pos k3]; exact hv19⟩ (by simp [subk, Eng.look]) (List.Sublist.refl _) rfl (subR_refl _)
      · simp only [push_cast, ↓reduceIte, Nat.reduceEqDiff, Nat.reduceAdd, Nat.reduceMul, Nat.reduceSub, Nat.reduceLT, Nat.reduceLeDiff, reduceCtorEq, Nat.reduceMod, Int.reduceEq, Int.reduceLT, Int.reduceLE, Int.reduceToNat, dite_true, k3]
        exact hG2 (F14, v18) _ ⟨PH.le_refl _, by unfold armIn; by_cases k1 : (e.alts[k]).kind = 1 <;> simp only [k1, k3, if_true, if_false] at hv18 ⊢ <;> exact hv18⟩ (by simp [subk, Eng.look]) (List.Sublist.refl _) rfl (subR_refl _)
    rintro ⟨F15, v19⟩ ⟨hF15, hv19⟩
    dsimp only at hF15 hv19 ⊢
    have hF1115 := PH.le_trans hF1113 (PH.le_trans hF14 hF15)
    obtain ⟨xl, hrl', hel⟩ := hrl
    have hxl := hel.len (fun _ _ h => h.len)
    have hal : t.arms.length ≤ e.alts.length := by rw [hal0]; simp; omega
    have harm : (armIn (keepL l e.alts) (e.alts[k]).kind (e.alts[k]).name (e.alts[k]).vars).length ≤ (keepL l e.alts).length + 1 + (e.alts[k]).vars.length := by unfold armIn; split <;> (try split) <;> simp <;> omega
    have okb : okX (env ds bs) (armIn (keepL l e.alts) (e.alts[k]).kind (e.alts[k]).name (e.alts[k]).vars) (e.alts[k]).body := by rw [okL_eq] at okl'; exact okl'
    refine VC.go 100 ?_
    simp only [push_cast, ↓reduceIte, Nat.reduceEqDiff, Nat.reduceAdd, Nat.reduceMul, Nat.reduceSub, Nat.reduceLT, Nat.reduceLeDiff, reduceCtorEq, Nat.reduceMod, Int.reduceEq, Int.reduceLT, Int.reduceLE, Int.reduceToNat, dite_true]
    intro b22 F16 hF16 hb22
    have hF1116 := PH.le_trans hF1115 hF16
    refine Eff.append rfl rfl rfl ty87 rfl ty138 rfl (by decide) rfl rfl (.refl _) hrl' (src_one hb22 rfl) (by simp [Value.oneCell']) (by simp [hxl]; omega) (by decide) fun v23 r23 hr23 => ?_
    simp only [push_cast, ↓reduceIte, Nat.reduceEqDiff, Nat.reduceAdd, Nat.reduceMul, Nat.reduceSub, Nat.reduceLT, Nat.reduceLeDiff, reduceCtorEq, Nat.reduceMod, Int.reduceEq, Int.reduceLT, Int.reduceLE, Int.reduceToNat, dite_true]
    refine callS (s := t.s) (m := ⟨vi12, .slice pn t.s.ins.length cn, vf12, vw12, ri12, rn12, rf12, rw12⟩) (Re := [r23]) rfl rfl (List.perm_append_comm (l₁ := [r23])) (hE (e.alts[k]).body (by omega) F16 sb vd vb vc vg _ t.s (armIn (keepL l e.alts) (e.alts[k]).kind (e.alts[k]).name (e.alts[k]).vars) _ _ _ _ _ (wx2'.mono hF1116) (hv19.mono hF16) okb (hC.mono (PH.le_trans hF011 hF1116)) (hS12.mono hF1116) ⟨by omega, by omega, by omega, by omega⟩) fun v24 F17 m17 hF17 hS17 _ => ?_
    simp only [push_cast, ↓reduceIte, Nat.reduceEqDiff, Nat.reduceAdd, Nat.reduceMul, Nat.reduceSub, Nat.reduceLT, Nat.reduceLeDiff, reduceCtorEq, Nat.reduceMod, Int.reduceEq, Int.reduceLT, Int.reduceLE, Int.reduceToNat, dite_true, e2]
    refine hG1 (k + 1, F17, v23, r23, m17) _ ⟨by omega, PH.le_trans hF11 (PH.le_trans hF1116 hF17), ?_, ?_⟩ (by simp; omega) (by simp [subk, Eng.look]) ?_ rfl (subR_perm (List.perm_append_comm (l₁ := m17.rows) (l₂ := [r23])))
    · dsimp only
      rw [hstep, layAlt_eq]
      exact ⟨_, hr23, each_snoc hel rfl⟩
    · dsimp only
      rw [hstep, layAlt_eq]
      exact hS17
    · dsimp only
      rw [hstep, layAlt_eq]
      simp
  rintro ⟨F12, vl, rl, ⟨vi12, vn12, vf12, vw12, ri12, rn12, rf12, rw12⟩⟩ ⟨hF12, hrl, hS12⟩
  dsimp only at hF12 hrl hS12 ⊢
  have hon2 := (layAlts_on (env ds bs) (keepL l e.alts) e.alts ⟨[], armsS s2 s.ins.length (keepL l e.alts)⟩).ins
  dsimp only at hon2
  rw [hi3] at hon2
  refine VC.freezeR (.refl _) fun F13 hF13 hle => ?_
  have hsl : SlE F13 4 RArm vl _ := hrl.sle (by decide) (fun _ _ h => h.len) hle
  obtain ⟨pu, cu, rfl, _, _⟩ := hsl.val
  have hS13 := hS12.mono hF13
  obtain ⟨xs2, hrow2, hes2⟩ := hS13.ins
  dsimp only at hrow2
  have hxs2 := hes2.len (fun _ _ h => h.len)
  obtain ⟨pg2, mg2, cg2, rfl, m12, m22, m32⟩ := hrow2.has (by intro h0; rw [h0, List.length_nil] at hxs2; omega)
  have hmg2 : mg2 = (layAlts (env ds bs) (keepL l e.alts) e.alts ⟨[], armsS s2 s.ins.length (keepL l e.alts)⟩).s.ins.length := by rw [hxs2] at m12; omega
  subst hmg2
  refine VC.rowM (i := 7) (Rf := [ri12, rf12, rw12]) (List.Perm.swap _ _ _) hrow2 fun g2 csg2 hpg2 hcl2 hmc2 hcm2 hct2 => ?_
  subst hpg2
  have hlt' : s2.ins.length * 7 + 6 < csg2.length := by rw [hcl2]; omega
  have hlt2' : (s2.ins.length : Int) < ((layAlts (env ds bs) (keepL l e.alts) e.alts ⟨[], armsS s2 s.ins.length (keepL l e.alts)⟩).s.ins.length : Int) := by omega
  have hlt3' : (0 : Int) ≤ (s2.ins.length : Int) := by omega
  refine VC.go 1 ?_
  simp only [push_cast, ↓reduceIte, Nat.reduceEqDiff, Nat.reduceAdd, Nat.reduceMul, Nat.reduceSub, Nat.reduceLT, Nat.reduceLeDiff, reduceCtorEq, Nat.reduceMod, Int.reduceEq, Int.reduceLT, Int.reduceLE, Int.reduceToNat, dite_true, add_own, Nat.zero_add, hlt', hlt2', hlt3']
  refine VC.toR (m := ⟨7, g2, 89, csg2.set (s2.ins.length * 7 + 6) (.slice pu (layAlts (env ds bs) (keepL l e.alts) e.alts ⟨[], armsS s2 s.ins.length (keepL l e.alts)⟩).arms.length cu)⟩) (.refl _) [] (by simp [subv]) ?_
  refine VC.go 1 ?_
  simp only [push_cast, ↓reduceIte, Nat.reduceEqDiff, Nat.reduceAdd, Nat.reduceMul, Nat.reduceSub, Nat.reduceLT, Nat.reduceLeDiff, reduceCtorEq, Nat.reduceMod, Int.reduceEq, Int.reduceLT, Int.reduceLE, Int.reduceToNat, dite_true]
  have e10 : layCase (env ds bs) e l s = setArms (layAlts (env ds bs) (keepL l e.alts) e.alts ⟨[], armsS s2 s.ins.length (keepL l e.alts)⟩).s s2.ins.length (layAlts (env ds bs) (keepL l e.alts) e.alts ⟨[], armsS s2 s.ins.length (keepL l e.alts)⟩).arms := by unfold layCase; rw [hl2 e.kids hk0, ← hs2]
  rw [e10]
  refine RetOk.r (vs := []) rfl (R' := [_, ri12, cell1 g2 89 (csg2.set (s2.ins.length * 7 + 6) (.slice pu (layAlts (env ds bs) (keepL l e.alts) e.alts ⟨[], armsS s2 s.ins.length (keepL l e.alts)⟩).arms.length cu)), rf12, rw12]) (fun _ w hs => Sat.permR (w := w) (RetR.own (i := 0) rfl _ _ hs) (.cons _ (List.Perm.swap _ _ _))) ⟨⟨vi12, _, vf12, vw12, ri12, cell1 g2 89 (csg2.set (s2.ins.length * 7 + 6) (.slice pu (layAlts (env ds bs) (keepL l e.alts) e.alts ⟨[], armsS s2 s.ins.length (keepL l e.alts)⟩).arms.length cu)), rf12, rw12⟩, rfl, ⟨hS13.infos, ?_, hS13.forms, hS13.needs, hS13.e1, hS13.e2⟩, trivial⟩
  exact RowE.set (by decide) (fun _ _ h => h.len) (by decide) (fun x c hc => by obtain ⟨vl, vk, vm, va, rfl, k1, k2, k3, k4⟩ := hc; exact ⟨vl, vk, vm, _, rfl, k1, k2, k3, hsl⟩) (by omega) hcl2 hmc2 hcm2 (by rw [hct2]; exact hes2) rfl
theorem exp_all (ds : List Dat) (bs : List Bind) (n : Nat) : ∀ e : Exp, e.size = n → GenED ds bs e := by
  induction n using Nat.strongRecOn with
  | _ n ih => exact fun e he => exp_ok ds bs e (fun h => let_ok ds bs e h fun e' h' => ih e'.size (by omega) e' rfl) (fun h => cases_ok ds bs e h fun e' h' => ih e'.size (by omega) e' rfl)
end Go.Proofs.YtoepmdbicdoieaaDoor.J
