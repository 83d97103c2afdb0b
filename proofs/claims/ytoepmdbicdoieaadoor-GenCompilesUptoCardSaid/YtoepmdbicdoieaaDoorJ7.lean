/- The document's gen: a group of binds. -/
import Derived.Test.YtoepmdbicdoieaaDoorJ6
namespace Go.Proofs.YtoepmdbicdoieaaDoor.J
open Go Go.Eng Go.Proofs Go.Proofs.YtoepmdbicdoieaaDoor.T Go.Proofs.YtoepmdbicdoieaaDoor.V Go.Proofs.YtoepmdbicdoieaaDoor.K Go.Proofs.YtoepmdbicdoieaaDoor.U
open Go.Proofs.YtoepmdbicdoieaaDoor.W (i64v ptr Ints RowE findL_append findL_snoc findL_has findL_lt findL_ge RMk RIns RInf RArm RNum RFrm src_one each_snoc each_append each_one nums_len nums_append atomsP_append atomsP_len nil_ints here_take here_len sle_one ret_ins Fits layE_eq layLet layCase sizeA_len' conM_len VC.fromT preM_len preM_append preM_len2 foldM_frm okB_eq okX_eq RMk.ones)
set_option linter.unusedSimpArgs false
set_option linter.unusedVariables false
set_option maxRecDepth 100000
set_option maxHeartbeats 4000000
theorem let_ok (ds : List Dat) (bs : List Bind) (e : Exp) (h5 : e.kind = 5) (hE : ∀ e' : Exp, e'.size < e.size → GenED ds bs e') : GenXD 54 layLet ds bs e := by
  intro F sb vd vb vc vg m s l v xa xb xe xl hX hv hok hC hS hfit
  rw [okX_eq] at hok
  obtain ⟨hkids, okb, okk⟩ := hok.2.2.2.1 h5
  obtain ⟨fi1, fi2, fi3, fi4⟩ := hfit
  have hX' := hX
  obtain ⟨pa, ca, pb, cb, pe, ce, pl, cl, rfl, rfl, rfl, rfl⟩ := hX.slices
  have hv' := hv
  obtain ⟨pv0, cv0, rfl, _, _, _⟩ := hv
  have hse := V.size_eq e
  have hbc := V.sizeBs_count e.binds
  have hbn := hC.few.2
  obtain ⟨_, _, hv1, hv2, hv3⟩ := hX'.binds.val
  cases hv1
  unfold SchFnD
  refine SFn.intro (n := 154) (ts := []) Tryd.func54 rfl rfl rfl rfl (by simp) fun B hB => VC.emp (VC.go 4 ?_)
  simp only [push_cast, ↓reduceIte, Nat.reduceEqDiff, Nat.reduceAdd, Nat.reduceMul, Nat.reduceSub, Nat.reduceLT, Nat.reduceLeDiff, reduceCtorEq, Nat.reduceMod, Int.reduceEq, Int.reduceLT, Int.reduceLE, Int.reduceToNat, dite_true]
  intro b
  refine VC.seq (VC.cutW (ι := PH × Value × PH) (fun j => [(6, .v j.2.1), (4, .o 1 b 0), (0, .o 0 sb 0), (2, .v (.slice pv0 l.length cv0))]) (fun j => [⟨0, sb, schT, cellsM vd vb vc vg m s.big⟩, ⟨1, b, 49, expCells e (.slice pa e.atoms.length ca) (.slice pb e.binds.length cb) (.slice pe e.kids.length ce) (.slice pl e.alts.length cl)⟩]) (fun j => j.1) (fun j => j.2.2 :: m.rows)
    (fun j => F.le j.1 ∧ RowE j.2.2 85 4 (RMk j.1) j.2.1 (preM e.binds)) (fun G hG => ?_) ?_)
  · refine VC.go 100 ?_
    simp only [push_cast, ↓reduceIte, Nat.reduceEqDiff, Nat.reduceAdd, Nat.reduceMul, Nat.reduceSub, Nat.reduceLT, Nat.reduceLeDiff, reduceCtorEq, Nat.reduceMod, Int.reduceEq, Int.reduceLT, Int.reduceLE, Int.reduceToNat, dite_true]
    refine VC.loopW (ι := Nat × PH × Value × PH) (fun j => [(7, .v (i64v j.1)), (6, .v j.2.2.1), (4, .o 1 b 0), (0, .o 0 sb 0), (2, .v (.slice pv0 l.length cv0))]) (fun j => [⟨0, sb, schT, cellsM vd vb vc vg m s.big⟩, ⟨1, b, 49, expCells e (.slice pa e.atoms.length ca) (.slice pb e.binds.length cb) (.slice pe e.kids.length ce) (.slice pl e.alts.length cl)⟩]) (fun j => j.2.1) (fun j => j.2.2.2 :: m.rows)
      (fun j => j.1 ≤ e.binds.length ∧ F.le j.2.1 ∧ RowE j.2.2.2 85 4 (RMk j.2.1) j.2.2.1 (preM (e.binds.take j.1))) (fun j => e.binds.length - j.1)
      (0, F, .slice none 0 0, PH.emp) ⟨Nat.zero_le _, PH.le_refl _, RowE.nil _ _ _⟩ (by simp [subk, Eng.look]) (List.Sublist.refl _) rfl (subR_refl _) ?_
    rintro ⟨k, F1, um, rm⟩ ⟨hk, hF1, hrm⟩ G1 hG1
    dsimp only at hk hF1 hrm hG1 ⊢
    by_cases h : k < e.binds.length
    case neg =>
      have h' : ¬ (k : Int) < (e.binds.length : Int) := by omega
      refine VC.go 100 ?_
      simp only [push_cast, ↓reduceIte, Nat.reduceEqDiff, Nat.reduceAdd, Nat.reduceMul, Nat.reduceSub, Nat.reduceLT, Nat.reduceLeDiff, reduceCtorEq, Nat.reduceMod, Int.reduceEq, Int.reduceLT, Int.reduceLE, Int.reduceToNat, dite_true, h']
      rw [List.take_of_length_le (by omega)] at hrm
      exact hG (F1, um, rm) _ ⟨hF1, hrm⟩ (by simp [subk, Eng.look]) (List.Sublist.refl _) rfl (subR_refl _)
    have h' : (k : Int) < (e.binds.length : Int) := by omega
    have h0 : (0 : Int) ≤ (k : Int) := by omega
    obtain ⟨q, _, cs, eq, _, _, kl, kr⟩ := (hX'.binds.mono (R' := RBind F1) hF1 (fun _ _ _ h => h.mono hF1)).elem (by decide) (i := k) (a := e.binds[k]) (List.getElem?_eq_getElem h) (fun _ _ h => h.len)
    cases eq
    obtain ⟨va2, c2, rfl, hva, hvc⟩ := RBind_iff.1 kr
    obtain ⟨wa, wb, we, wl, rfl, wx⟩ := RExp_iff.1 hvc
    have wx' := wx
    obtain ⟨pa2, ca2, pb2, cb2, pe2, ce2, pl2, cl2, rfl, rfl, rfl, rfl⟩ := wx.slices
    have hva' := hva
    obtain ⟨pv, cv, rfl, _, _, _⟩ := hva
    have e2 : IntKind.i64.wrap ((k : Int) + 1) = ((k + 1 : Nat) : Int) := wadd k h (Nat.le_trans hv2 hv3)
    have hbm : (e.binds[k]).size ≤ sizeBs e.binds := V.sizeBs_mem (List.getElem_mem h)
    have hbq := V.bsize_eq (e.binds[k])
    have hba := sizeA_len' (e.binds[k]).body
    have hpl := preM_len (e.binds.take k)
    have hpt := V.sizeBs_take e.binds k
    have hpre : preM (e.binds.take (k + 1)) = preM (e.binds.take k) ++ preM [e.binds[k]] := by rw [List.take_succ_eq_append_getElem h, preM_append]
    have kf : F1.cells (q.add (k * 11 + 2)) 9 = some (.slice pv (e.binds[k]).args.length cv :: expCells (e.binds[k]).body (.slice pa2 (e.binds[k]).body.atoms.length ca2) (.slice pb2 (e.binds[k]).body.binds.length cb2) (.slice pe2 (e.binds[k]).body.kids.length ce2) (.slice pl2 (e.binds[k]).body.alts.length cl2)) := by have := cells_sub kl (o := 2) (m := 9) (by omega); rw [add_add] at this; exact this
    have ka : F1.cell (q.add (k * 11 + 2 + 1 + 4)) = some (.slice pa2 (e.binds[k]).body.atoms.length ca2) := by have := cell_at kl (o := 7) rfl; rw [add_add] at this; exact this
    refine VC.go 100 ?_
    simp only [push_cast, ↓reduceIte, Nat.reduceEqDiff, Nat.reduceAdd, Nat.reduceMul, Nat.reduceSub, Nat.reduceLT, Nat.reduceLeDiff, reduceCtorEq, Nat.reduceMod, Int.reduceEq, Int.reduceLT, Int.reduceLE, Int.reduceToNat, dite_true, h', h0, kf, add_add]
    refine CallV.pure (V.refclas F1 ((e.binds[k]).args, (e.binds[k]).body) _ _ _ _ _ hva' wx') ?_
    rintro _ F3 hF3 rfl
    by_cases hcl : classOf (e.binds[k]).args (e.binds[k]).body = 1
    · simp only [push_cast, ↓reduceIte, Nat.reduceEqDiff, Nat.reduceAdd, Nat.reduceMul, Nat.reduceSub, Nat.reduceLT, Nat.reduceLeDiff, reduceCtorEq, Nat.reduceMod, Int.reduceEq, Int.reduceLT, Int.reduceLE, Int.reduceToNat, dite_true, eq_true hcl, h', h0, add_add, hF3.cell ka]
      refine callNumsF (wx'.mono hF3).atoms (by omega) fun r4 F4 hF4 hr4 => ?_
      have hnn := nums_len (e.binds[k]).body.atoms
      obtain ⟨x4, ⟨p4, c4, rfl, _, _, hs4⟩, he4⟩ := hr4
      obtain ⟨xm, hrm', hem⟩ := hrm
      have hxm := hem.len (fun _ _ h => h.len)
      have hx4 := he4.len (fun _ _ h => h.len)
      simp only [push_cast, ↓reduceIte, Nat.reduceEqDiff, Nat.reduceAdd, Nat.reduceMul, Nat.reduceSub, Nat.reduceLT, Nat.reduceLeDiff, reduceCtorEq, Nat.reduceMod, Int.reduceEq, Int.reduceLT, Int.reduceLE, Int.reduceToNat, dite_true]
      refine Eff.append rfl rfl rfl ty86 rfl ty85 rfl (by decide) rfl rfl (List.Perm.refl _) hrm' hs4 (each_one (fun _ _ h => h.ones) he4) (by rw [hxm, hx4]; omega) (by decide) fun v5 r5 hr5 => ?_
      simp only [push_cast, ↓reduceIte, Nat.reduceEqDiff, Nat.reduceAdd, Nat.reduceMul, Nat.reduceSub, Nat.reduceLT, Nat.reduceLeDiff, reduceCtorEq, Nat.reduceMod, Int.reduceEq, Int.reduceLT, Int.reduceLE, Int.reduceToNat, dite_true, e2]
      refine hG1 (k + 1, F4, v5, r5) _ ⟨by omega, PH.le_trans hF1 (PH.le_trans hF3 hF4), ?_⟩ (by simp; omega) (by simp [subk, Eng.look]) (List.Sublist.refl _) rfl (subR_refl _)
      dsimp only
      rw [hpre, show preM [e.binds[k]] = nums (e.binds[k]).body.atoms by simp [preM, hcl]]
      exact ⟨_, hr5, each_append (hem.mono fun _ _ _ h => h.mono (PH.le_trans hF3 hF4)) he4⟩
    · simp only [push_cast, ↓reduceIte, Nat.reduceEqDiff, Nat.reduceAdd, Nat.reduceMul, Nat.reduceSub, Nat.reduceLT, Nat.reduceLeDiff, reduceCtorEq, Nat.reduceMod, Int.reduceEq, Int.reduceLT, Int.reduceLE, Int.reduceToNat, dite_true, hcl, e2]
      refine hG1 (k + 1, F3, um, rm) _ ⟨by omega, PH.le_trans hF1 hF3, ?_⟩ (by simp; omega) (by simp [subk, Eng.look]) (List.Sublist.refl _) rfl (subR_refl _)
      dsimp only
      rw [hpre, show preM [e.binds[k]] = [] by simp [preM, hcl], List.append_nil]
      exact hrm.mono fun _ _ _ h => h.mono hF3
  rintro ⟨F1, um, rm⟩ ⟨hF1, hrm⟩
  dsimp only at hF1 hrm ⊢
  obtain ⟨pm, cm, rfl, hm1, hm2⟩ := hrm.val (by decide) (fun _ _ h => h.len)
  have hpl := preM_len e.binds
  refine VC.go 3 ?_
  simp only [push_cast, ↓reduceIte, Nat.reduceEqDiff, Nat.reduceAdd, Nat.reduceMul, Nat.reduceSub, Nat.reduceLT, Nat.reduceLeDiff, reduceCtorEq, Nat.reduceMod, Int.reduceEq, Int.reduceLT, Int.reduceLE, Int.reduceToNat, dite_true]
  refine VC.draw (.q 0 (.q 1 (.q 2 (.q 5 (.q 6 (.e 3 (.e 4 (.e 7 (.e 8 (.q 9 (.done))))))))))) mixed (by rfl) ?_
  simp only [push_cast, ↓reduceIte, Nat.reduceEqDiff, Nat.reduceAdd, Nat.reduceMul, Nat.reduceSub, Nat.reduceLT, Nat.reduceLeDiff, reduceCtorEq, Nat.reduceMod, Int.reduceEq, Int.reduceLT, Int.reduceLE, Int.reduceToNat, dite_true]
  refine callStrs (blank F1 (preM e.binds).length (by omega)) fun w3 G3 hG3 hw3 => ?_
  simp only [push_cast, ↓reduceIte, Nat.reduceEqDiff, Nat.reduceAdd, Nat.reduceMul, Nat.reduceSub, Nat.reduceLT, Nat.reduceLeDiff, reduceCtorEq, Nat.reduceMod, Int.reduceEq, Int.reduceLT, Int.reduceLE, Int.reduceToNat, dite_true]
  refine callStrs (withF G3 _ _ l (blanks (preM e.binds).length) (hv'.mono (PH.le_trans hF1 hG3)) hw3 (by simp [blanks]; omega)) fun w4 G4 hG4 hw4 => ?_
  have hFG4 := PH.le_trans hF1 (PH.le_trans hG3 hG4)
  simp only [push_cast, ↓reduceIte, Nat.reduceEqDiff, Nat.reduceAdd, Nat.reduceMul, Nat.reduceSub, Nat.reduceLT, Nat.reduceLeDiff, reduceCtorEq, Nat.reduceMod, Int.reduceEq, Int.reduceLT, Int.reduceLE, Int.reduceToNat, dite_true]
  refine callStrs (namesF G4 _ e.binds (hX'.binds.mono hFG4 fun _ _ _ h => h.mono hFG4) (by omega)) fun w7 G7 hG7 hw7 => ?_
  simp only [push_cast, ↓reduceIte, Nat.reduceEqDiff, Nat.reduceAdd, Nat.reduceMul, Nat.reduceSub, Nat.reduceLT, Nat.reduceLeDiff, reduceCtorEq, Nat.reduceMod, Int.reduceEq, Int.reduceLT, Int.reduceLE, Int.reduceToNat, dite_true]
  refine callStrs (withF G7 _ _ (l ++ blanks (preM e.binds).length) (e.binds.map Bind.name) (hw4.mono hG7) hw7 (by simp [blanks]; omega)) fun inv F2 hF2' hin => ?_
  have hin : Strs F2 inv (letIn e.binds l) := hin
  have hF2 : F1.le F2 := PH.le_trans hG3 (PH.le_trans hG4 (PH.le_trans hG7 hF2'))
  have hF12 := PH.le_trans hF1 hF2
  have hinl : (letIn e.binds l).length = l.length + (preM e.binds).length + e.binds.length := by simp [letIn, blanks]; omega
  simp only [push_cast, ↓reduceIte, Nat.reduceEqDiff, Nat.reduceAdd, Nat.reduceMul, Nat.reduceSub, Nat.reduceLT, Nat.reduceLeDiff, reduceCtorEq, Nat.reduceMod, Int.reduceEq, Int.reduceLT, Int.reduceLE, Int.reduceToNat, dite_true]
  refine VC.seq (VC.cutW (ι := PH × Value × PH × Mem) (fun j => [(9, .v inv), (6, .v j.2.1), (4, .o 1 b 0), (0, .o 0 sb 0), (2, .v (.slice pv0 l.length cv0))]) (fun j => [⟨0, sb, schT, cellsM vd vb vc vg j.2.2.2 (letM (env ds bs) e.binds l s).s.big⟩, ⟨1, b, 49, expCells e (.slice pa e.atoms.length ca) (.slice pb e.binds.length cb) (.slice pe e.kids.length ce) (.slice pl e.alts.length cl)⟩]) (fun j => j.1) (fun j => j.2.2.1 :: j.2.2.2.rows)
    (fun j => F2.le j.1 ∧ RowE j.2.2.1 85 4 (RMk j.1) j.2.1 (letM (env ds bs) e.binds l s).makes ∧ SchD j.1 (letM (env ds bs) e.binds l s).s j.2.2.2) (fun G hG => ?_) ?_)
  · refine VC.go 100 ?_
    simp only [push_cast, ↓reduceIte, Nat.reduceEqDiff, Nat.reduceAdd, Nat.reduceMul, Nat.reduceSub, Nat.reduceLT, Nat.reduceLeDiff, reduceCtorEq, Nat.reduceMod, Int.reduceEq, Int.reduceLT, Int.reduceLE, Int.reduceToNat, dite_true]
    refine VC.loopW (ι := Nat × PH × Value × PH × Mem) (fun j => [(10, .v (i64v j.1)), (8, .v (i64v ((l.length : Int) + (preM (e.binds.take j.1)).length))), (9, .v inv), (6, .v j.2.2.1), (4, .o 1 b 0), (0, .o 0 sb 0), (2, .v (.slice pv0 l.length cv0))]) (fun j => [⟨0, sb, schT, cellsM vd vb vc vg j.2.2.2.2 ((e.binds.take j.1).foldl (stepM (env ds bs) (letIn e.binds l)) ⟨preM e.binds, l.length, s⟩).s.big⟩, ⟨1, b, 49, expCells e (.slice pa e.atoms.length ca) (.slice pb e.binds.length cb) (.slice pe e.kids.length ce) (.slice pl e.alts.length cl)⟩]) (fun j => j.2.1) (fun j => j.2.2.2.1 :: j.2.2.2.2.rows)
      (fun j => j.1 ≤ e.binds.length ∧ F2.le j.2.1 ∧ RowE j.2.2.2.1 85 4 (RMk j.2.1) j.2.2.1 ((e.binds.take j.1).foldl (stepM (env ds bs) (letIn e.binds l)) ⟨preM e.binds, l.length, s⟩).makes ∧ SchD j.2.1 ((e.binds.take j.1).foldl (stepM (env ds bs) (letIn e.binds l)) ⟨preM e.binds, l.length, s⟩).s j.2.2.2.2) (fun j => e.binds.length - j.1)
      (0, F2, .slice pm (preM e.binds).length cm, rm, m) ⟨Nat.zero_le _, PH.le_refl _, hrm.mono fun _ _ _ h => h.mono hF2, hS.mono hF12⟩ (by simp [subk, Eng.look, preM]) (List.Sublist.refl _) rfl (subR_refl _) ?_
    rintro ⟨k, F3, um, rm3, m3⟩ ⟨hk, hF3, hrm3, hS3⟩ G1 hG1
    dsimp only at hk hF3 hrm3 hS3 hG1 ⊢
    by_cases h : k < e.binds.length
    case neg =>
      have h' : ¬ (k : Int) < (e.binds.length : Int) := by omega
      have htk : e.binds.take k = e.binds := List.take_of_length_le (by omega)
      rw [htk] at hrm3 hS3 ⊢
      refine VC.go 100 ?_
      simp only [push_cast, ↓reduceIte, Nat.reduceEqDiff, Nat.reduceAdd, Nat.reduceMul, Nat.reduceSub, Nat.reduceLT, Nat.reduceLeDiff, reduceCtorEq, Nat.reduceMod, Int.reduceEq, Int.reduceLT, Int.reduceLE, Int.reduceToNat, dite_true, h']
      exact hG (F3, um, rm3, m3) _ ⟨hF3, hrm3, hS3⟩ (by simp [subk, Eng.look]) (List.Sublist.refl _) rfl (subR_refl _)
    have h' : (k : Int) < (e.binds.length : Int) := by omega
    have h0 : (0 : Int) ≤ (k : Int) := by omega
    have hF03 := PH.le_trans hF12 hF3
    obtain ⟨q, _, cs, eq, _, _, kl, kr⟩ := (hX'.binds.mono (R' := RBind F3) hF03 (fun _ _ _ h => h.mono hF03)).elem (by decide) (i := k) (a := e.binds[k]) (List.getElem?_eq_getElem h) (fun _ _ h => h.len)
    cases eq
    obtain ⟨va2, c2, rfl, hva, hvc⟩ := RBind_iff.1 kr
    have hvc' := hvc
    obtain ⟨wa, wb, we, wl, rfl, wx⟩ := RExp_iff.1 hvc
    have wx' := wx
    obtain ⟨pa2, ca2, pb2, cb2, pe2, ce2, pl2, cl2, rfl, rfl, rfl, rfl⟩ := wx.slices
    have hva' := hva
    obtain ⟨pv, cv, rfl, _, _, _⟩ := hva
    have e2 : IntKind.i64.wrap ((k : Int) + 1) = ((k + 1 : Nat) : Int) := wadd k h (Nat.le_trans hv2 hv3)
    have hbm : (e.binds[k]).size ≤ sizeBs e.binds := V.sizeBs_mem (List.getElem_mem h)
    have hbq := V.bsize_eq (e.binds[k])
    have hsl := sizeS_len' (e.binds[k]).args
    have hba := sizeA_len' (e.binds[k]).body
    have hplk := preM_len (e.binds.take k)
    have hpt := V.sizeBs_take e.binds k
    obtain ⟨hfr, hmk⟩ := foldM_frm (env ds bs) (letIn e.binds l) (e.binds.take k) ⟨preM e.binds, l.length, s⟩
    obtain ⟨hfr1, _⟩ := foldM_frm (env ds bs) (letIn e.binds l) (e.binds.take (k + 1)) ⟨preM e.binds, l.length, s⟩
    have hon := on_foldM (env ds bs) (letIn e.binds l) (e.binds.take k) ⟨preM e.binds, l.length, s⟩
    have hst : ((e.binds.take (k + 1)).foldl (stepM (env ds bs) (letIn e.binds l)) ⟨preM e.binds, l.length, s⟩) = stepM (env ds bs) (letIn e.binds l) ((e.binds.take k).foldl (stepM (env ds bs) (letIn e.binds l)) ⟨preM e.binds, l.length, s⟩) (e.binds[k]) := by rw [List.take_succ_eq_append_getElem h, List.foldl_append]; rfl
    have htl : (e.binds.take k).length ≤ k := List.length_take_le _ _
    generalize hg : ((e.binds.take k).foldl (stepM (env ds bs) (letIn e.binds l)) ⟨preM e.binds, l.length, s⟩) = g at hrm3 hS3 hfr hmk hon hst ⊢
    have kf : F3.cells (q.add (k * 11 + 2)) 9 = some (.slice pv (e.binds[k]).args.length cv :: expCells (e.binds[k]).body (.slice pa2 (e.binds[k]).body.atoms.length ca2) (.slice pb2 (e.binds[k]).body.binds.length cb2) (.slice pe2 (e.binds[k]).body.kids.length ce2) (.slice pl2 (e.binds[k]).body.alts.length cl2)) := by have := cells_sub kl (o := 2) (m := 9) (by omega); rw [add_add] at this; exact this
    refine VC.go 11 ?_
    simp only [push_cast, ↓reduceIte, Nat.reduceEqDiff, Nat.reduceAdd, Nat.reduceMul, Nat.reduceSub, Nat.reduceLT, Nat.reduceLeDiff, reduceCtorEq, Nat.reduceMod, Int.reduceEq, Int.reduceLT, Int.reduceLE, Int.reduceToNat, dite_true, h', h0, kf, add_add]
    intro b15
    refine CallV.pure (V.refclas F3 ((e.binds[k]).args, (e.binds[k]).body) _ _ _ _ _ hva' wx') ?_
    rintro _ F4 hF4 rfl
    simp only [push_cast, ↓reduceIte, Nat.reduceEqDiff, Nat.reduceAdd, Nat.reduceMul, Nat.reduceSub, Nat.reduceLT, Nat.reduceLeDiff, reduceCtorEq, Nat.reduceMod, Int.reduceEq, Int.reduceLT, Int.reduceLE, Int.reduceToNat, dite_true]
    intro b16
    have hC4 := hC.mono (PH.le_trans hF03 hF4)
    have hS4 := hS3.mono hF4
    have hin4 := hin.mono (PH.le_trans hF3 hF4)
    refine VC.seq (VC.cutW (ι := PH × Mk × Value × Int × Sc × Mem) (fun j => [(12, .o 3 b16 0), (8, .v (i64v j.2.2.2.1)), (9, .v inv), (6, .v um), (10, .v (i64v k)), (4, .o 1 b 0), (0, .o 0 sb 0), (2, .v (.slice pv0 l.length cv0))])
      (fun j => [⟨0, sb, schT, cellsM vd vb vc vg j.2.2.2.2.2 j.2.2.2.2.1.big⟩, ⟨1, b, 49, expCells e (.slice pa e.atoms.length ca) (.slice (some q) e.binds.length cb) (.slice pe e.kids.length ce) (.slice pl e.alts.length cl)⟩, ⟨3, b16, 85, [i64v (j.2.1).kind, i64v (j.2.1).info, i64v (j.2.1).n, j.2.2.1]⟩]) (fun j => j.1) (fun j => rm3 :: j.2.2.2.2.2.rows)
      (fun j => F4.le j.1 ∧ stepM (env ds bs) (letIn e.binds l) g (e.binds[k]) = ⟨g.makes ++ [j.2.1], j.2.2.2.1, j.2.2.2.2.1⟩ ∧ Ints j.1 j.2.2.1 (j.2.1).frm ∧ SchD j.1 j.2.2.2.2.1 j.2.2.2.2.2) (fun G2 hG2 => ?_) ?_)
    · have hfrg : g.frm = ((l.length + (preM (e.binds.take k)).length : Nat) : Int) := by rw [hfr]; simp
      by_cases c1 : classOf (e.binds[k]).args (e.binds[k]).body = 1
      · refine VC.go 100 ?_
        simp only [push_cast, ↓reduceIte, Nat.reduceEqDiff, Nat.reduceAdd, Nat.reduceMul, Nat.reduceSub, Nat.reduceLT, Nat.reduceLeDiff, reduceCtorEq, Nat.reduceMod, Int.reduceEq, Int.reduceLT, Int.reduceLE, Int.reduceToNat, dite_true, c1]
        refine callLook rfl (con F4 ds sb _ _ _ _ _ _ _ _ _ (e.binds[k]).body.name hC4.dats) fun v5 F5 hF5 eq => ?_
        subst eq
        simp only [push_cast, ↓reduceIte, Nat.reduceEqDiff, Nat.reduceAdd, Nat.reduceMul, Nat.reduceSub, Nat.reduceLT, Nat.reduceLeDiff, reduceCtorEq, Nat.reduceMod, Int.reduceEq, Int.reduceLT, Int.reduceLE, Int.reduceToNat, dite_true]
        refine callLook rfl (atoms F5 ds bs sb _ _ _ _ _ _ _ _ _ _ _ (letIn e.binds l) (e.binds[k]).body.atoms (l.length + (preM (e.binds.take k)).length) (hin4.mono hF5) ((wx'.mono hF4).mono hF5).atoms ((hC4.mono hF5).binds) hbn (by omega) (by omega)) fun v6 F6 hF6 hi6 => ?_
        have hi6' := hi6
        obtain ⟨p6, c6, rfl, _, _, _⟩ := hi6
        have hF46 := PH.le_trans hF5 hF6
        simp only [push_cast, ↓reduceIte, Nat.reduceEqDiff, Nat.reduceAdd, Nat.reduceMul, Nat.reduceSub, Nat.reduceLT, Nat.reduceLeDiff, reduceCtorEq, Nat.reduceMod, Int.reduceEq, Int.reduceLT, Int.reduceLE, Int.reduceToNat, dite_true]
        refine callNumsF ((wx'.mono hF4).mono hF46).atoms (by omega) fun r7 F7 hF7 hr7 => ?_
        obtain ⟨p7, c7, rfl, _, _⟩ := hr7.val
        have hnn := nums_len (e.binds[k]).body.atoms
        have e4 : IntKind.i64.wrap ((l.length : Int) + ((preM (e.binds.take k)).length : Int) + ((nums (e.binds[k]).body.atoms).length : Int)) = l.length + (preM (e.binds.take k)).length + (nums (e.binds[k]).body.atoms).length := w64 _ (by omega)
        simp only [push_cast, ↓reduceIte, Nat.reduceEqDiff, Nat.reduceAdd, Nat.reduceMul, Nat.reduceSub, Nat.reduceLT, Nat.reduceLeDiff, reduceCtorEq, Nat.reduceMod, Int.reduceEq, Int.reduceLT, Int.reduceLE, Int.reduceToNat, dite_true, e4]
        exact hG2 (F7, ⟨1, conD ds (e.binds[k]).body.name, 0, atomsP (env ds bs) (letIn e.binds l) (e.binds[k]).body.atoms g.frm⟩, .slice p6 (atomsP (env ds bs) (letIn e.binds l) (e.binds[k]).body.atoms ((l.length + (preM (e.binds.take k)).length : Nat) : Int)).length c6, (l.length : Int) + (preM (e.binds.take k)).length + (nums (e.binds[k]).body.atoms).length, g.s, m3) _
          ⟨PH.le_trans hF46 hF7, by simp only [stepM, c1, if_true]; rw [hfrg]; simp, by dsimp only; rw [hfrg]; exact hi6'.mono hF7, (hS4.mono hF46).mono hF7⟩ (by simp [subk, Eng.look]) (by simp) rfl (subR_refl _)
      by_cases c2 : classOf (e.binds[k]).args (e.binds[k]).body = 2
      · refine VC.go 100 ?_
        simp only [push_cast, ↓reduceIte, Nat.reduceEqDiff, Nat.reduceAdd, Nat.reduceMul, Nat.reduceSub, Nat.reduceLT, Nat.reduceLeDiff, reduceCtorEq, Nat.reduceMod, Int.reduceEq, Int.reduceLT, Int.reduceLE, Int.reduceToNat, dite_true, c1, c2]
        exact hG2 (F4, ⟨2, 0, (e.binds[k]).body.n, []⟩, .slice none 0 0, (l.length : Int) + (preM (e.binds.take k)).length, g.s, m3) _
          ⟨PH.le_refl _, by simp only [stepM, c2, if_true]; rw [hfrg]; simp, nil_ints _, hS4⟩ (by simp [subk, Eng.look]) (by simp) rfl (subR_refl _)
      by_cases c7 : classOf (e.binds[k]).args (e.binds[k]).body = 7
      · refine VC.go 100 ?_
        simp only [push_cast, ↓reduceIte, Nat.reduceEqDiff, Nat.reduceAdd, Nat.reduceMul, Nat.reduceSub, Nat.reduceLT, Nat.reduceLeDiff, reduceCtorEq, Nat.reduceMod, Int.reduceEq, Int.reduceLT, Int.reduceLE, Int.reduceToNat, dite_true, c1, c2, c7]
        refine CallV.pure (V.reffield F4 ((e.binds[k]).args, (e.binds[k]).body) _ _ _ _ _ (hva'.mono hF4) (wx'.mono hF4)) ?_
        rintro _ F5 hF5 rfl
        simp only [push_cast, ↓reduceIte, Nat.reduceEqDiff, Nat.reduceAdd, Nat.reduceMul, Nat.reduceSub, Nat.reduceLT, Nat.reduceLeDiff, reduceCtorEq, Nat.reduceMod, Int.reduceEq, Int.reduceLT, Int.reduceLE, Int.reduceToNat, dite_true]
        refine callLook rfl (con F5 ds sb _ _ _ _ _ _ _ _ _ (fieldOf (e.binds[k]).args (e.binds[k]).body).1 (hC4.mono hF5).dats) fun v6 F6 hF6 eq => ?_
        subst eq
        have hF46 := PH.le_trans hF5 hF6
        simp only [push_cast, ↓reduceIte, Nat.reduceEqDiff, Nat.reduceAdd, Nat.reduceMul, Nat.reduceSub, Nat.reduceLT, Nat.reduceLeDiff, reduceCtorEq, Nat.reduceMod, Int.reduceEq, Int.reduceLT, Int.reduceLE, Int.reduceToNat, dite_true]
        refine callLook rfl (placeD F6 ds bs sb _ _ _ _ _ _ _ _ _ _ (letIn e.binds l) (fieldOf (e.binds[k]).args (e.binds[k]).body).2.2.1 (hin4.mono hF46) ((hC4.mono hF46).binds) hbn) fun v7 F7 hF7 eq => ?_
        subst eq
        simp only [push_cast, ↓reduceIte, Nat.reduceEqDiff, Nat.reduceAdd, Nat.reduceMul, Nat.reduceSub, Nat.reduceLT, Nat.reduceLeDiff, reduceCtorEq, Nat.reduceMod, Int.reduceEq, Int.reduceLT, Int.reduceLE, Int.reduceToNat, dite_true]
        intro b7 F8 hF8 hb7
        have hF48 := PH.le_trans hF46 (PH.le_trans hF7 hF8)
        exact hG2 (F8, ⟨7, conD ds (fieldOf (e.binds[k]).args (e.binds[k]).body).1, (fieldOf (e.binds[k]).args (e.binds[k]).body).2.1, [place (env ds bs) (letIn e.binds l) (fieldOf (e.binds[k]).args (e.binds[k]).body).2.2.1]⟩, .slice (some ⟨b7, 0, none⟩) 1 1, (l.length : Int) + (preM (e.binds.take k)).length, g.s, m3) _
          ⟨hF48, by simp only [stepM, c7, if_true]; rw [hfrg]; simp, ⟨_, _, rfl, Nat.le_refl _, by decide, src_one hb7 rfl⟩, hS4.mono hF48⟩ (by simp [subk, Eng.look]) (by simp) rfl (subR_refl _)
      · refine VC.go 100 ?_
        simp only [push_cast, ↓reduceIte, Nat.reduceEqDiff, Nat.reduceAdd, Nat.reduceMul, Nat.reduceSub, Nat.reduceLT, Nat.reduceLeDiff, reduceCtorEq, Nat.reduceMod, Int.reduceEq, Int.reduceLT, Int.reduceLE, Int.reduceToNat, dite_true, c1, c2, c7]
        have hwl := within_len (e.binds[k]).body
        have hfl : (freeB (e.binds[k])).length ≤ (within (e.binds[k]).body).length := List.length_filter_le _ _
        have hhl := here_len (letIn e.binds l) (freeB (e.binds[k]))
        refine callStrs (free10 F4 ((e.binds[k]).args, (e.binds[k]).body) _ _ _ _ _ (hva'.mono hF4) (wx'.mono hF4) (by dsimp only; omega)) fun w5 F5 hF5 hw5 => ?_
        have hw5 : Strs F5 w5 (freeB (e.binds[k])) := hw5
        simp only [push_cast, ↓reduceIte, Nat.reduceEqDiff, Nat.reduceAdd, Nat.reduceMul, Nat.reduceSub, Nat.reduceLT, Nat.reduceLeDiff, reduceCtorEq, Nat.reduceMod, Int.reduceEq, Int.reduceLT, Int.reduceLE, Int.reduceToNat, dite_true]
        refine callStrs (hereF F5 _ w5 (letIn e.binds l) (freeB (e.binds[k])) (hin4.mono hF5) hw5 (by omega)) fun w6 F6 hF6 hw6 => ?_
        have hF46 := PH.le_trans hF5 hF6
        have hC6 := hC4.mono hF46
        simp only [push_cast, ↓reduceIte, Nat.reduceEqDiff, Nat.reduceAdd, Nat.reduceMul, Nat.reduceSub, Nat.reduceLT, Nat.reduceLeDiff, reduceCtorEq, Nat.reduceMod, Int.reduceEq, Int.reduceLT, Int.reduceLE, Int.reduceToNat, dite_true]
        refine callInfo (f := ((e.binds[k]).args, (e.binds[k]).body)) (need := here (letIn e.binds l) (freeB (e.binds[k]))) (fc := (.slice pv (e.binds[k]).args.length cv :: expCells (e.binds[k]).body (.slice pa2 (e.binds[k]).body.atoms.length ca2) (.slice pb2 (e.binds[k]).body.binds.length cb2) (.slice pe2 (e.binds[k]).body.kids.length ce2) (.slice pl2 (e.binds[k]).body.alts.length cl2))) (Re := [rm3]) (m := m3) rfl rfl (List.perm_append_comm (l₁ := [rm3])) hC6.vd1 hC6.vb1 hC6.c1 hC6.g1 (hS4.mono hF46) ⟨_, _, rfl, (hva'.mono hF4).mono hF46, (hvc'.mono hF4).mono hF46⟩ hw6 (by have h9 := hon.infos; dsimp only at h9; omega) fun F7 m7 hF7 hS7 => ?_
        simp only [push_cast, ↓reduceIte, Nat.reduceEqDiff, Nat.reduceAdd, Nat.reduceMul, Nat.reduceSub, Nat.reduceLT, Nat.reduceLeDiff, reduceCtorEq, Nat.reduceMod, Int.reduceEq, Int.reduceLT, Int.reduceLE, Int.reduceToNat, dite_true]
        refine callLook rfl (places F7 ds bs sb _ _ _ _ _ _ _ _ _ _ _ (letIn e.binds l) (here (letIn e.binds l) (freeB (e.binds[k]))) (hin4.mono (PH.le_trans hF46 hF7)) (hw6.mono hF7) ((hC6.mono hF7).binds) hbn (by omega)) fun v8 F8 hF8 hi8 => ?_
        have hi8' := hi8
        obtain ⟨p8, c8, rfl, _, _, _⟩ := hi8
        simp only [push_cast, ↓reduceIte, Nat.reduceEqDiff, Nat.reduceAdd, Nat.reduceMul, Nat.reduceSub, Nat.reduceLT, Nat.reduceLeDiff, reduceCtorEq, Nat.reduceMod, Int.reduceEq, Int.reduceLT, Int.reduceLE, Int.reduceToNat, dite_true]
        exact hG2 (F8, ⟨classOf (e.binds[k]).args (e.binds[k]).body, g.s.infos.length, 0, (here (letIn e.binds l) (freeB (e.binds[k]))).map (place (env ds bs) (letIn e.binds l))⟩, .slice p8 ((here (letIn e.binds l) (freeB (e.binds[k]))).map (place (env ds bs) (letIn e.binds l))).length c8, (l.length : Int) + (preM (e.binds.take k)).length, infoS g.s ((e.binds[k]).args, (e.binds[k]).body) (here (letIn e.binds l) (freeB (e.binds[k]))), m7) _
          ⟨PH.le_trans hF46 (PH.le_trans hF7 hF8), by simp only [stepM, c1, c2, c7, if_false]; rw [hfrg]; simp, hi8', hS7.mono hF8⟩ (by simp [subk, Eng.look]) (by simp) rfl (subR_perm (List.perm_append_comm (l₁ := m7.rows) (l₂ := [rm3])))
    rintro ⟨F5, mk, vf, frm', s', m5⟩ ⟨hF5, hstep, hvf, hS5⟩
    dsimp only at hF5 hstep hvf hS5 ⊢
    have hvf' := hvf
    obtain ⟨pf, cf, rfl, _, _, _⟩ := hvf
    obtain ⟨xm, hrm', hem⟩ := hrm3
    have hxm := hem.len (fun _ _ h => h.len)
    have hfrm : frm' = (l.length : Int) + ((preM (e.binds.take (k + 1))).length : Int) := by rw [← hfr1, hst, hstep]
    subst hfrm
    refine VC.go 100 ?_
    simp only [push_cast, ↓reduceIte, Nat.reduceEqDiff, Nat.reduceAdd, Nat.reduceMul, Nat.reduceSub, Nat.reduceLT, Nat.reduceLeDiff, reduceCtorEq, Nat.reduceMod, Int.reduceEq, Int.reduceLT, Int.reduceLE, Int.reduceToNat, dite_true]
    intro b6 F6 hF6 hb6
    refine Eff.append rfl rfl rfl ty86 rfl ty85 rfl (by decide) rfl rfl (.refl _) hrm' (src_one hb6 rfl) (by simp [Value.oneCell']) (by simp [hxm, hmk]; omega) (by decide) fun v7 r7 hr7 => ?_
    simp only [push_cast, ↓reduceIte, Nat.reduceEqDiff, Nat.reduceAdd, Nat.reduceMul, Nat.reduceSub, Nat.reduceLT, Nat.reduceLeDiff, reduceCtorEq, Nat.reduceMod, Int.reduceEq, Int.reduceLT, Int.reduceLE, Int.reduceToNat, dite_true, e2]
    refine hG1 (k + 1, F6, v7, r7, m5) _ ⟨by omega, PH.le_trans hF3 (PH.le_trans hF4 (PH.le_trans hF5 hF6)), ?_, ?_⟩ (by simp; omega) (by simp [subk, Eng.look]) ?_ rfl (subR_refl _)
    · dsimp only
      rw [hst, hstep]
      exact ⟨_, hr7, each_snoc (hem.mono fun _ _ _ h => h.mono (PH.le_trans hF4 (PH.le_trans hF5 hF6))) ⟨_, rfl, hvf'.mono hF6⟩⟩
    · dsimp only
      rw [hst, hstep]
      exact hS5.mono hF6
    · dsimp only
      rw [hst, hstep]
      simp
  rintro ⟨F3, um, rm3, m3⟩ ⟨hF3, hrm3, hS3⟩
  dsimp only at hF3 hrm3 hS3 ⊢
  have hF03 := PH.le_trans hF12 hF3
  obtain ⟨_, hmk⟩ := foldM_frm (env ds bs) (letIn e.binds l) e.binds ⟨preM e.binds, l.length, s⟩
  have hmk : (letM (env ds bs) e.binds l s).makes.length = (preM e.binds).length + e.binds.length := hmk
  have hon := on_letM (env ds bs) e.binds l s
  obtain ⟨e0, es0, hk0⟩ : ∃ a b, e.kids = a :: b := by cases hc : e.kids with | nil => exact absurd hc hkids | cons a b => exact ⟨a, b, rfl⟩
  refine VC.freezeR (.refl _) fun F4 hF4 hle => ?_
  have hsl := (hrm3.sle (by decide) (fun _ _ h => h.len) hle).mono (R' := RMk F4) (PH.le_refl _) (fun _ _ _ h => h.mono hF4)
  obtain ⟨pu, cu, rfl, _, _⟩ := hsl.val
  refine VC.go 100 ?_
  simp only [push_cast, ↓reduceIte, Nat.reduceEqDiff, Nat.reduceAdd, Nat.reduceMul, Nat.reduceSub, Nat.reduceLT, Nat.reduceLeDiff, reduceCtorEq, Nat.reduceMod, Int.reduceEq, Int.reduceLT, Int.reduceLE, Int.reduceToNat, dite_true]
  refine callPut (s := (letM (env ds bs) e.binds l s).s) (x := insL l.length (letM (env ds bs) e.binds l s).makes) (Re := []) (m := m3) rfl rfl (.refl _) (hC.mono (PH.le_trans hF03 hF4)) (hS3.mono hF4) ⟨_, _, _, _, rfl, nil_ints _, nil_ints _, hsl, nil_sle _ 4 _⟩ (by have := hon.ins; omega) (by simp [insL]; omega) (by simp [insL]; omega) fun v5 F5 m5 hF5 hS5 => ?_
  have hF05 := PH.le_trans (PH.le_trans hF03 hF4) hF5
  obtain ⟨q, _, cs, eq, _, _, kl, kr⟩ := (hX'.kids.mono (R' := RExp F5) hF05 (fun _ _ _ h => h.mono hF05)).elem (by decide) (i := 0) (a := e0) (by rw [hk0]; rfl) (fun _ _ h => h.len)
  cases eq
  obtain ⟨wa, wb, we, wl, rfl, wx⟩ := RExp_iff.1 kr
  have hkl : (0 : Int) < (e.kids.length : Int) := by rw [hk0, List.length_cons]; omega
  simp only [push_cast, ↓reduceIte, Nat.reduceEqDiff, Nat.reduceAdd, Nat.reduceMul, Nat.reduceSub, Nat.reduceLT, Nat.reduceLeDiff, reduceCtorEq, Nat.reduceMod, Int.reduceEq, Int.reduceLT, Int.reduceLE, Int.reduceToNat, dite_true, hkl, kl]
  have hpl2 := preM_len2 e.binds
  have hes : e0.size ≤ sizeEs e.kids := by rw [hk0]; simp [sizeEs]
  have hlen : (letIn e.binds l).length = l.length + (letM (env ds bs) e.binds l s).makes.length := by rw [hmk]; simp [letIn, blanks]
  have okk0 : okX (env ds bs) (letIn e.binds l) e0 := by rw [hk0] at okk; exact okk
  have hoi := hon.ins
  have hof := hon.infos
  have hcall := hE e0 (by omega) F5 sb vd vb vc vg m5 (putS (letM (env ds bs) e.binds l s).s (insL l.length (letM (env ds bs) e.binds l s).makes)) (letIn e.binds l) _ _ _ _ _ wx (hin.mono (PH.le_trans hF3 (PH.le_trans hF4 hF5))) okk0 (hC.mono hF05) hS5 ⟨by simp [putS]; omega, by simp [putS]; omega, by omega, by omega⟩
  refine callS (Re := []) (m := m5) rfl rfl (.refl _) hcall fun v' F6 m6 hF6 hS6 _ => ?_
  simp only [push_cast, ↓reduceIte, Nat.reduceEqDiff, Nat.reduceAdd, Nat.reduceMul, Nat.reduceSub, Nat.reduceLT, Nat.reduceLeDiff, reduceCtorEq, Nat.reduceMod, Int.reduceEq, Int.reduceLT, Int.reduceLE, Int.reduceToNat, dite_true]
  have hlay : layE (env ds bs) e0 (letIn e.binds l) (putS (letM (env ds bs) e.binds l s).s (insL l.length (letM (env ds bs) e.binds l s).makes)) = layLet (env ds bs) e l s := by unfold layLet; rw [hk0]; simp only [layKid]
  rw [hlay] at hS6 ⊢
  exact RetOk.r (vs := []) rfl (RetR.own (i := 0) rfl) ⟨m6, rfl, hS6, trivial⟩
end Go.Proofs.YtoepmdbicdoieaaDoor.J
