/- The document's gen: an expression, from its groups and its cases. -/
import Derived.Test.YtoepmdbicdoieaaDoorJ5
namespace Go.Proofs.YtoepmdbicdoieaaDoor.J
open Go Go.Eng Go.Proofs Go.Proofs.YtoepmdbicdoieaaDoor.T Go.Proofs.YtoepmdbicdoieaaDoor.V Go.Proofs.YtoepmdbicdoieaaDoor.K Go.Proofs.YtoepmdbicdoieaaDoor.U
open Go.Proofs.YtoepmdbicdoieaaDoor.W (i64v ptr Ints RowE findL_append findL_snoc findL_has findL_lt findL_ge RMk RIns RInf RArm RNum RFrm src_one each_snoc nums_len nums_append atomsP_append atomsP_len nil_ints here_take here_len sle_one ret_ins Fits layE_eq layLet layCase sizeA_len' conM_len VC.fromT)
set_option linter.unusedSimpArgs false
set_option linter.unusedVariables false
set_option maxRecDepth 100000
set_option maxHeartbeats 4000000
def GenXD (f : FuncId) (lay : Env → Exp → List ByteArray → Sc → Sc) (ds : List Dat) (bs : List Bind) (e : Exp) : Prop := ∀ (F : PH) (sb : Nat) (vd vb vc vg : Value) (m : Mem) (s : Sc) (l : List ByteArray) (v xa xb xe xl : Value),
  ExpAt F e xa xb xe xl → Strs F v l → okX (env ds bs) l e → CtxD F ds bs vd vb vc vg → SchD F s m → Fits e s l →
  SchFnD f [.agg (expCells e xa xb xe xl).toArray, v] F sb vd vb vc vg m s (lay (env ds bs) e l s) (fun _ => True)
abbrev GenED := GenXD 22 layE
theorem ints_ok (F : PH) (sb : Nat) (ds : List Dat) (bs : List Bind) (vd vb vc vg : Value) (m : Mem) (s : Sc) (e : Exp) (xa xb xe xl : Value) (b : Nat) (hX : ExpAt F e xa xb xe xl) (hC : CtxD F ds bs vd vb vc vg) (hS : SchD F s m) (h1 : s.ins.length ≤ 100000000) (h2 : b ≤ 1000000000) (h3 : e.size ≤ 10000000) :
    SchFnD 51 [.agg (expCells e xa xb xe xl).toArray, i64v b] F sb vd vb vc vg m s (intsS s e.atoms b) (fun _ => True) := by
  have hX' := hX
  obtain ⟨pa, ca, pb, cb, pe, ce, pl, cl, rfl, rfl, rfl, rfl⟩ := hX.slices
  have hsa := sizeA_len' e
  have hnl := nums_len e.atoms
  unfold SchFnD
  refine SFn.intro (n := 18) (ts := []) Tryd.func51 rfl rfl rfl rfl (by simp) fun B hB => VC.go 100 ?_
  simp only [push_cast, ↓reduceIte, Nat.reduceEqDiff, Nat.reduceAdd, Nat.reduceMul, Nat.reduceSub, Nat.reduceLT, Nat.reduceLeDiff, reduceCtorEq, Nat.reduceMod, Int.reduceEq, Int.reduceLT, Int.reduceLE, Int.reduceToNat, dite_true]
  intro b1
  refine callNumsF hX'.atoms (by omega) fun r F1 hF1 hr => ?_
  have hr' := hr
  obtain ⟨pu, cu, rfl, _, _⟩ := hr.val
  by_cases hz : (nums e.atoms).length = 0
  · have hz' : ¬ (0 : Int) < ((nums e.atoms).length : Int) := by omega
    have hs0 : intsS s e.atoms b = s := by simp [intsS, hz]
    simp only [push_cast, ↓reduceIte, Nat.reduceEqDiff, Nat.reduceAdd, Nat.reduceMul, Nat.reduceSub, Nat.reduceLT, Nat.reduceLeDiff, reduceCtorEq, Nat.reduceMod, Int.reduceEq, Int.reduceLT, Int.reduceLE, Int.reduceToNat, dite_true, hz']
    exact RetOk.r (vs := []) rfl (RetR.own (i := 0) rfl) ⟨m, by rw [hs0], by rw [hs0]; exact hS.mono hF1, trivial⟩
  · have hz' : (0 : Int) < ((nums e.atoms).length : Int) := by omega
    have hs0 : intsS s e.atoms b = putS s (insL b (nums e.atoms)) := by simp [intsS, hz]
    simp only [push_cast, ↓reduceIte, Nat.reduceEqDiff, Nat.reduceAdd, Nat.reduceMul, Nat.reduceSub, Nat.reduceLT, Nat.reduceLeDiff, reduceCtorEq, Nat.reduceMod, Int.reduceEq, Int.reduceLT, Int.reduceLE, Int.reduceToNat, dite_true, hz']
    refine callPut (x := insL b (nums e.atoms)) (Re := []) (m := m) rfl rfl (.refl _) (hC.mono hF1) (hS.mono hF1) ⟨_, _, _, _, rfl, nil_ints _, nil_ints _, hr', nil_sle _ 4 _⟩ (by omega) (by simp [insL]; omega) (by simp [insL]; omega) fun v2 F2 m2 hF2 hS2 => ?_
    simp only [push_cast, ↓reduceIte, Nat.reduceEqDiff, Nat.reduceAdd, Nat.reduceMul, Nat.reduceSub, Nat.reduceLT, Nat.reduceLeDiff, reduceCtorEq, Nat.reduceMod, Int.reduceEq, Int.reduceLT, Int.reduceLE, Int.reduceToNat, dite_true]
    exact RetOk.r (vs := []) rfl (RetR.own (i := 0) rfl) ⟨m2, by rw [hs0], by rw [hs0]; exact hS2, trivial⟩
theorem exp_ok (ds : List Dat) (bs : List Bind) (e : Exp) (hL : e.kind = 5 → GenXD 54 layLet ds bs e) (hK : e.kind = 6 → GenXD 55 layCase ds bs e) : GenED ds bs e := by
  intro F sb vd vb vc vg m s l v xa xb xe xl hX hv hok hC hS hfit
  have hfit' := hfit
  obtain ⟨fi1, fi2, fi3, fi4⟩ := hfit
  have hX' := hX
  have hv' := hv
  obtain ⟨pa, ca, pb, cb, pe, ce, pl, cl, rfl, rfl, rfl, rfl⟩ := hX.slices
  obtain ⟨pv, cv, rfl, _, _, _⟩ := hv
  have hsa := sizeA_len' e
  have hnl := nums_len e.atoms
  have hsz : 1 ≤ e.size := by have := V.size_eq e; omega
  have hbn := hC.few.2
  unfold SchFnD
  rw [layE_eq]
  refine SFn.intro (n := 130) (ts := []) Tryd.func22 rfl rfl rfl rfl (by simp) fun B hB => ?_
  by_cases hbig : s.big = true
  · refine VC.go 100 ?_
    simp only [push_cast, ↓reduceIte, Nat.reduceEqDiff, Nat.reduceAdd, Nat.reduceMul, Nat.reduceSub, Nat.reduceLT, Nat.reduceLeDiff, reduceCtorEq, Nat.reduceMod, Int.reduceEq, Int.reduceLT, Int.reduceLE, Int.reduceToNat, dite_true, hbig]
    intro b
    exact RetOk.r (vs := []) rfl (RetR.own (i := 0) rfl) ⟨m, by simp [hbig], hS, trivial⟩
  have hbig' : s.big = false := Bool.eq_false_iff.2 hbig
  by_cases h4 : e.kind = 4
  · refine VC.go 100 ?_
    simp only [push_cast, ↓reduceIte, Nat.reduceEqDiff, Nat.reduceAdd, Nat.reduceMul, Nat.reduceSub, Nat.reduceLT, Nat.reduceLeDiff, reduceCtorEq, Nat.reduceMod, Int.reduceEq, Int.reduceLT, Int.reduceLE, Int.reduceToNat, dite_true, hbig', eq_true h4, Bool.false_eq_true]
    intro b b1 F1 hF1 hb1
    refine callPut (x := insL l.length [⟨2, 0, e.n, []⟩]) (Re := []) (m := m) hbig'.symm rfl (.refl _) (hC.mono hF1) (hS.mono hF1) ⟨_, _, _, _, rfl, nil_ints _, nil_ints _, sle_one hb1 rfl ⟨_, rfl, nil_ints _⟩, nil_sle _ 4 _⟩ (by omega) (by simp [insL]; omega) (by simp [insL]) fun v2 F2 m2 hF2 hS2 => ?_
    have e1 : IntKind.i64.wrap ((l.length : Int) + 1) = l.length + 1 := w64 _ (by omega)
    simp only [push_cast, ↓reduceIte, Nat.reduceEqDiff, Nat.reduceAdd, Nat.reduceMul, Nat.reduceSub, Nat.reduceLT, Nat.reduceLeDiff, reduceCtorEq, Nat.reduceMod, Int.reduceEq, Int.reduceLT, Int.reduceLE, Int.reduceToNat, dite_true, e1]
    refine callPut (x := ⟨3, l.length, l.length + 1, [], [], [], []⟩) (Re := []) (m := m2) rfl rfl (.refl _) (hC.mono (PH.le_trans hF1 hF2)) hS2 (ret_ins _ _) (by simp [putS]; omega) (by simp; omega) (by simp) fun v3 F3 m3 hF3 hS3 => ?_
    simp only [push_cast, ↓reduceIte, Nat.reduceEqDiff, Nat.reduceAdd, Nat.reduceMul, Nat.reduceSub, Nat.reduceLT, Nat.reduceLeDiff, reduceCtorEq, Nat.reduceMod, Int.reduceEq, Int.reduceLT, Int.reduceLE, Int.reduceToNat, dite_true]
    exact RetOk.r (vs := []) rfl (RetR.own (i := 0) rfl) ⟨m3, rfl, hS3, trivial⟩
  by_cases h2 : e.kind = 2
  · have hcl := conM_len (env ds bs) e.name e.atoms l
    refine VC.go 100 ?_
    simp only [push_cast, ↓reduceIte, Nat.reduceEqDiff, Nat.reduceAdd, Nat.reduceMul, Nat.reduceSub, Nat.reduceLT, Nat.reduceLeDiff, reduceCtorEq, Nat.reduceMod, Int.reduceEq, Int.reduceLT, Int.reduceLE, Int.reduceToNat, dite_true, hbig', h4, eq_true h2, Bool.false_eq_true]
    intro b
    refine callNums hX'.atoms (by omega) fun u F1 r1 hF1 hr1 => ?_
    obtain ⟨x1, hr1, he1⟩ := hr1
    have hx1 := he1.len (fun _ _ h => h.len)
    obtain ⟨p1, m1, c1, rfl, q1, q2, q3⟩ := hr1.len
    obtain rfl : m1 = (nums e.atoms).length := by omega
    simp only [push_cast, ↓reduceIte, Nat.reduceEqDiff, Nat.reduceAdd, Nat.reduceMul, Nat.reduceSub, Nat.reduceLT, Nat.reduceLeDiff, reduceCtorEq, Nat.reduceMod, Int.reduceEq, Int.reduceLT, Int.reduceLE, Int.reduceToNat, dite_true]
    refine VC.draw (.q 0 (.q 1 (.q 2 (.q 3 (.q 5 (.q 6 (.q 7 (.q 8 (.q 9 (.e 4 (.e 10 (.e 11 (.e 12 (.e 13 (.e 14 (.done)))))))))))))))) mixed (by rfl) ?_
    simp only [push_cast, ↓reduceIte, Nat.reduceEqDiff, Nat.reduceAdd, Nat.reduceMul, Nat.reduceSub, Nat.reduceLT, Nat.reduceLeDiff, reduceCtorEq, Nat.reduceMod, Int.reduceEq, Int.reduceLT, Int.reduceLE, Int.reduceToNat, dite_true, hbig']
    refine callLook rfl (con F1 ds sb _ _ _ _ _ _ _ _ _ e.name (hC.dats.mono' hF1)) fun v2 F2 hF2 eq => ?_
    subst eq
    have hF12 := PH.le_trans hF1 hF2
    simp only [push_cast, ↓reduceIte, Nat.reduceEqDiff, Nat.reduceAdd, Nat.reduceMul, Nat.reduceSub, Nat.reduceLT, Nat.reduceLeDiff, reduceCtorEq, Nat.reduceMod, Int.reduceEq, Int.reduceLT, Int.reduceLE, Int.reduceToNat, dite_true]
    refine callLook rfl (atoms F2 ds bs sb _ _ _ _ _ _ _ _ _ _ _ l e.atoms l.length (hv'.mono hF12) (hX'.atoms.mono hF12) ((hC.mono hF12).binds) hbn (by omega) (by omega)) fun v3 F3 hF3 hi3 => ?_
    have hi3' := hi3
    obtain ⟨p3, c3, rfl, _, _, _⟩ := hi3
    simp only [push_cast, ↓reduceIte, Nat.reduceEqDiff, Nat.reduceAdd, Nat.reduceMul, Nat.reduceSub, Nat.reduceLT, Nat.reduceLeDiff, reduceCtorEq, Nat.reduceMod, Int.reduceEq, Int.reduceLT, Int.reduceLE, Int.reduceToNat, dite_true]
    intro b4 F4 hF4 hb4
    refine Eff.append rfl rfl rfl ty86 rfl ty85 rfl (by decide) rfl rfl (.refl _) hr1 (src_one hb4 rfl) (by simp [Value.oneCell']) (by simp [hx1]; omega) (by decide) fun v5 r5 hr5 => ?_
    have hF34 := PH.le_trans hF3 hF4
    have hF14 := PH.le_trans hF12 hF34
    have hrow : RowE r5 85 4 (RMk F4) v5 (conM (env ds bs) e.name e.atoms l) := ⟨_, hr5, each_snoc (he1.mono fun _ _ _ h => h.mono (PH.le_trans hF2 hF34)) ⟨_, rfl, hi3'.mono hF4⟩⟩
    simp only [push_cast, ↓reduceIte, Nat.reduceEqDiff, Nat.reduceAdd, Nat.reduceMul, Nat.reduceSub, Nat.reduceLT, Nat.reduceLeDiff, reduceCtorEq, Nat.reduceMod, Int.reduceEq, Int.reduceLT, Int.reduceLE, Int.reduceToNat, dite_true]
    refine VC.freezeR (.refl _) fun F5 hF5 hle => ?_
    have hsl := (hrow.sle (by decide) (fun _ _ h => h.len) hle).mono (R' := RMk F5) (PH.le_refl _) (fun _ _ _ h => h.mono hF5)
    obtain ⟨pu, cu, rfl, _, _⟩ := hsl.val
    have hF15 := PH.le_trans hF14 hF5
    refine VC.go 100 ?_
    simp only [push_cast, ↓reduceIte, Nat.reduceEqDiff, Nat.reduceAdd, Nat.reduceMul, Nat.reduceSub, Nat.reduceLT, Nat.reduceLeDiff, reduceCtorEq, Nat.reduceMod, Int.reduceEq, Int.reduceLT, Int.reduceLE, Int.reduceToNat, dite_true]
    refine callPut (x := insL l.length (conM (env ds bs) e.name e.atoms l)) (Re := []) (m := m) hbig'.symm rfl (.refl _) (hC.mono hF15) (hS.mono hF15) ⟨_, _, _, _, rfl, nil_ints _, nil_ints _, hsl, nil_sle _ 4 _⟩ (by omega) (by simp [insL]; omega) (by simp [insL]; omega) fun v6 F6 m6 hF6 hS6 => ?_
    have e1 : IntKind.i64.wrap ((l.length : Int) + ((conM (env ds bs) e.name e.atoms l).length : Int)) = l.length + (conM (env ds bs) e.name e.atoms l).length := w64 _ (by omega)
    have e2 : IntKind.i64.wrap ((l.length : Int) + ((conM (env ds bs) e.name e.atoms l).length : Int) - 1) = l.length + (conM (env ds bs) e.name e.atoms l).length - 1 := w64 _ (by omega)
    simp only [push_cast, ↓reduceIte, Nat.reduceEqDiff, Nat.reduceAdd, Nat.reduceMul, Nat.reduceSub, Nat.reduceLT, Nat.reduceLeDiff, reduceCtorEq, Nat.reduceMod, Int.reduceEq, Int.reduceLT, Int.reduceLE, Int.reduceToNat, dite_true, e1, e2]
    refine callPut (x := ⟨3, l.length + (conM (env ds bs) e.name e.atoms l).length - 1, l.length + (conM (env ds bs) e.name e.atoms l).length, [], [], [], []⟩) (Re := []) (m := m6) rfl rfl (.refl _) (hC.mono (PH.le_trans hF15 hF6)) hS6 (ret_ins _ _) (by simp [putS]; omega) (by simp; omega) (by simp) fun v7 F7 m7 hF7 hS7 => ?_
    simp only [push_cast, ↓reduceIte, Nat.reduceEqDiff, Nat.reduceAdd, Nat.reduceMul, Nat.reduceSub, Nat.reduceLT, Nat.reduceLeDiff, reduceCtorEq, Nat.reduceMod, Int.reduceEq, Int.reduceLT, Int.reduceLE, Int.reduceToNat, dite_true]
    exact RetOk.r (vs := []) rfl (RetR.own (i := 0) rfl) ⟨m7, rfl, hS7, trivial⟩
  have hon := on_ints s e.atoms l.length
  have e1 : IntKind.i64.wrap ((l.length : Int) + ((nums e.atoms).length : Int)) = l.length + (nums e.atoms).length := w64 _ (by omega)
  by_cases h1 : e.kind = 1
  · refine VC.go 100 ?_
    simp only [push_cast, ↓reduceIte, Nat.reduceEqDiff, Nat.reduceAdd, Nat.reduceMul, Nat.reduceSub, Nat.reduceLT, Nat.reduceLeDiff, reduceCtorEq, Nat.reduceMod, Int.reduceEq, Int.reduceLT, Int.reduceLE, Int.reduceToNat, dite_true, hbig', h4, h2, eq_true h1, Bool.false_eq_true]
    intro b
    refine callS (s' := intsS s e.atoms l.length) (Re := []) (m := m) hbig'.symm rfl (.refl _) (ints_ok F sb ds bs vd vb vc vg m s e _ _ _ _ l.length hX' hC hS (by omega) (by omega) fi4) fun v2 F2 m2 hF2 hS2 _ => ?_
    simp only [push_cast, ↓reduceIte, Nat.reduceEqDiff, Nat.reduceAdd, Nat.reduceMul, Nat.reduceSub, Nat.reduceLT, Nat.reduceLeDiff, reduceCtorEq, Nat.reduceMod, Int.reduceEq, Int.reduceLT, Int.reduceLE, Int.reduceToNat, dite_true]
    refine VC.draw (.q 0 (.q 1 (.q 2 (.q 3 (.q 4 (.q 6 (.q 7 (.q 8 (.q 12 (.q 13 (.q 14 (.q 15 (.q 16 (.e 5 (.e 9 (.q 10 (.q 11 (.e 17 (.e 18 (.es 19 [0, 1, 2, 3, 4, 6, 7, 8, 10, 11, 12, 13, 14, 15, 16] (.done))))))))))))))))))))) mixed (by rfl) ?_
    simp only [push_cast, ↓reduceIte, Nat.reduceEqDiff, Nat.reduceAdd, Nat.reduceMul, Nat.reduceSub, Nat.reduceLT, Nat.reduceLeDiff, reduceCtorEq, Nat.reduceMod, Int.reduceEq, Int.reduceLT, Int.reduceLE, Int.reduceToNat, dite_true]
    refine callLook rfl (placeD F2 ds bs sb _ _ _ _ _ _ _ _ _ _ l e.name (hv'.mono hF2) ((hC.mono hF2).binds) hbn) fun v3 F3 hF3 eq => ?_
    subst eq
    have hF23 := PH.le_trans hF2 hF3
    simp only [push_cast, ↓reduceIte, Nat.reduceEqDiff, Nat.reduceAdd, Nat.reduceMul, Nat.reduceSub, Nat.reduceLT, Nat.reduceLeDiff, reduceCtorEq, Nat.reduceMod, Int.reduceEq, Int.reduceLT, Int.reduceLE, Int.reduceToNat, dite_true]
    refine callNumsF (hX'.atoms.mono hF23) (by omega) fun r4 F4 hF4 hr4 => ?_
    obtain ⟨pu, cu, rfl, _, _⟩ := hr4.val
    have hF24 := PH.le_trans hF23 hF4
    simp only [push_cast, ↓reduceIte, Nat.reduceEqDiff, Nat.reduceAdd, Nat.reduceMul, Nat.reduceSub, Nat.reduceLT, Nat.reduceLeDiff, reduceCtorEq, Nat.reduceMod, Int.reduceEq, Int.reduceLT, Int.reduceLE, Int.reduceToNat, dite_true, e1]
    refine callLook rfl (atoms F4 ds bs sb _ _ _ _ _ _ _ _ _ _ _ l e.atoms l.length (hv'.mono hF24) (hX'.atoms.mono hF24) ((hC.mono hF24).binds) hbn (by omega) (by omega)) fun v5 F5 hF5 hi5 => ?_
    have hi5' := hi5
    obtain ⟨p5, c5, rfl, _, _, _⟩ := hi5
    have hF25 := PH.le_trans hF24 hF5
    simp only [push_cast, ↓reduceIte, Nat.reduceEqDiff, Nat.reduceAdd, Nat.reduceMul, Nat.reduceSub, Nat.reduceLT, Nat.reduceLeDiff, reduceCtorEq, Nat.reduceMod, Int.reduceEq, Int.reduceLT, Int.reduceLE, Int.reduceToNat, dite_true]
    refine callPut (s := intsS s e.atoms l.length) (x := ⟨2, place (env ds bs) l e.name, l.length + (nums e.atoms).length, atomsP (env ds bs) l e.atoms l.length, [], [], []⟩) (Re := []) (m := m2) rfl rfl (.refl _) (hC.mono hF25) (hS2.mono (PH.le_trans hF3 (PH.le_trans hF4 hF5))) ⟨_, _, _, _, rfl, hi5', nil_ints _, nil_sle _ 4 _, nil_sle _ 4 _⟩ (by have := hon.ins; omega) (by simp; omega) (by simp) fun v6 F6 m6 hF6 hS6 => ?_
    simp only [push_cast, ↓reduceIte, Nat.reduceEqDiff, Nat.reduceAdd, Nat.reduceMul, Nat.reduceSub, Nat.reduceLT, Nat.reduceLeDiff, reduceCtorEq, Nat.reduceMod, Int.reduceEq, Int.reduceLT, Int.reduceLE, Int.reduceToNat, dite_true, e1]
    refine VC.go 100 ?_
    simp only [push_cast, ↓reduceIte, Nat.reduceEqDiff, Nat.reduceAdd, Nat.reduceMul, Nat.reduceSub, Nat.reduceLT, Nat.reduceLeDiff, reduceCtorEq, Nat.reduceMod, Int.reduceEq, Int.reduceLT, Int.reduceLE, Int.reduceToNat, dite_true]
    exact RetOk.r (vs := []) rfl (RetR.own (i := 0) rfl) ⟨m6, rfl, hS6, trivial⟩
  by_cases h3 : e.kind = 3
  · refine VC.go 100 ?_
    simp only [push_cast, ↓reduceIte, Nat.reduceEqDiff, Nat.reduceAdd, Nat.reduceMul, Nat.reduceSub, Nat.reduceLT, Nat.reduceLeDiff, reduceCtorEq, Nat.reduceMod, Int.reduceEq, Int.reduceLT, Int.reduceLE, Int.reduceToNat, dite_true, hbig', h4, h2, h1, eq_true h3, Bool.false_eq_true]
    intro b
    refine callS (s' := intsS s e.atoms l.length) (Re := []) (m := m) hbig'.symm rfl (.refl _) (ints_ok F sb ds bs vd vb vc vg m s e _ _ _ _ l.length hX' hC hS (by omega) (by omega) fi4) fun v2 F2 m2 hF2 hS2 _ => ?_
    simp only [push_cast, ↓reduceIte, Nat.reduceEqDiff, Nat.reduceAdd, Nat.reduceMul, Nat.reduceSub, Nat.reduceLT, Nat.reduceLeDiff, reduceCtorEq, Nat.reduceMod, Int.reduceEq, Int.reduceLT, Int.reduceLE, Int.reduceToNat, dite_true]
    refine VC.draw (.q 0 (.q 1 (.q 2 (.q 4 (.q 5 (.q 6 (.q 10 (.q 11 (.q 12 (.q 13 (.q 14 (.e 3 (.e 7 (.q 8 (.q 9 (.e 15 (.e 16 (.es 17 [0, 1, 2, 4, 5, 6, 8, 9, 10, 11, 12, 13, 14] (.done))))))))))))))))))) mixed (by rfl) ?_
    simp only [push_cast, ↓reduceIte, Nat.reduceEqDiff, Nat.reduceAdd, Nat.reduceMul, Nat.reduceSub, Nat.reduceLT, Nat.reduceLeDiff, reduceCtorEq, Nat.reduceMod, Int.reduceEq, Int.reduceLT, Int.reduceLE, Int.reduceToNat, dite_true]
    refine CallV.pure (K.find F2 e.name) ?_
    rintro _ F3 hF3 rfl
    have hF23 := PH.le_trans hF2 hF3
    simp only [push_cast, ↓reduceIte, Nat.reduceEqDiff, Nat.reduceAdd, Nat.reduceMul, Nat.reduceSub, Nat.reduceLT, Nat.reduceLeDiff, reduceCtorEq, Nat.reduceMod, Int.reduceEq, Int.reduceLT, Int.reduceLE, Int.reduceToNat, dite_true]
    refine callNumsF (hX'.atoms.mono hF23) (by omega) fun r4 F4 hF4 hr4 => ?_
    obtain ⟨pu, cu, rfl, _, _⟩ := hr4.val
    have hF24 := PH.le_trans hF23 hF4
    simp only [push_cast, ↓reduceIte, Nat.reduceEqDiff, Nat.reduceAdd, Nat.reduceMul, Nat.reduceSub, Nat.reduceLT, Nat.reduceLeDiff, reduceCtorEq, Nat.reduceMod, Int.reduceEq, Int.reduceLT, Int.reduceLE, Int.reduceToNat, dite_true, e1]
    refine callLook rfl (atoms F4 ds bs sb _ _ _ _ _ _ _ _ _ _ _ l e.atoms l.length (hv'.mono hF24) (hX'.atoms.mono hF24) ((hC.mono hF24).binds) hbn (by omega) (by omega)) fun v5 F5 hF5 hi5 => ?_
    have hi5' := hi5
    obtain ⟨p5, c5, rfl, _, _, _⟩ := hi5
    have hF25 := PH.le_trans hF24 hF5
    simp only [push_cast, ↓reduceIte, Nat.reduceEqDiff, Nat.reduceAdd, Nat.reduceMul, Nat.reduceSub, Nat.reduceLT, Nat.reduceLeDiff, reduceCtorEq, Nat.reduceMod, Int.reduceEq, Int.reduceLT, Int.reduceLE, Int.reduceToNat, dite_true]
    refine callPut (s := intsS s e.atoms l.length) (x := ⟨6, findP e.name, l.length + (nums e.atoms).length, atomsP (env ds bs) l e.atoms l.length, [], [], []⟩) (Re := []) (m := m2) rfl rfl (.refl _) (hC.mono hF25) (hS2.mono (PH.le_trans hF3 (PH.le_trans hF4 hF5))) ⟨_, _, _, _, rfl, hi5', nil_ints _, nil_sle _ 4 _, nil_sle _ 4 _⟩ (by have := hon.ins; omega) (by simp; omega) (by simp) fun v6 F6 m6 hF6 hS6 => ?_
    simp only [push_cast, ↓reduceIte, Nat.reduceEqDiff, Nat.reduceAdd, Nat.reduceMul, Nat.reduceSub, Nat.reduceLT, Nat.reduceLeDiff, reduceCtorEq, Nat.reduceMod, Int.reduceEq, Int.reduceLT, Int.reduceLE, Int.reduceToNat, dite_true, e1]
    refine VC.go 100 ?_
    simp only [push_cast, ↓reduceIte, Nat.reduceEqDiff, Nat.reduceAdd, Nat.reduceMul, Nat.reduceSub, Nat.reduceLT, Nat.reduceLeDiff, reduceCtorEq, Nat.reduceMod, Int.reduceEq, Int.reduceLT, Int.reduceLE, Int.reduceToNat, dite_true]
    exact RetOk.r (vs := []) rfl (RetR.own (i := 0) rfl) ⟨m6, rfl, hS6, trivial⟩
  by_cases h5 : e.kind = 5
  · refine VC.go 100 ?_
    simp only [push_cast, ↓reduceIte, Nat.reduceEqDiff, Nat.reduceAdd, Nat.reduceMul, Nat.reduceSub, Nat.reduceLT, Nat.reduceLeDiff, reduceCtorEq, Nat.reduceMod, Int.reduceEq, Int.reduceLT, Int.reduceLE, Int.reduceToNat, dite_true, hbig', h4, h2, h1, h3, eq_true h5, Bool.false_eq_true]
    intro b
    refine callS (s' := layLet (env ds bs) e l s) (Re := []) (m := m) hbig'.symm rfl (.refl _) (hL h5 F sb vd vb vc vg m s l _ _ _ _ _ hX' hv' hok hC hS hfit') fun v' F1 m1 hF1 hS1 _ => ?_
    simp only [push_cast, ↓reduceIte, Nat.reduceEqDiff, Nat.reduceAdd, Nat.reduceMul, Nat.reduceSub, Nat.reduceLT, Nat.reduceLeDiff, reduceCtorEq, Nat.reduceMod, Int.reduceEq, Int.reduceLT, Int.reduceLE, Int.reduceToNat, dite_true]
    exact RetOk.r (vs := []) rfl (RetR.own (i := 0) rfl) ⟨m1, rfl, hS1, trivial⟩
  by_cases h6 : e.kind = 6
  · refine VC.go 100 ?_
    simp only [push_cast, ↓reduceIte, Nat.reduceEqDiff, Nat.reduceAdd, Nat.reduceMul, Nat.reduceSub, Nat.reduceLT, Nat.reduceLeDiff, reduceCtorEq, Nat.reduceMod, Int.reduceEq, Int.reduceLT, Int.reduceLE, Int.reduceToNat, dite_true, hbig', h4, h2, h1, h3, h5, eq_true h6, Bool.false_eq_true]
    intro b
    refine callS (s' := layCase (env ds bs) e l s) (Re := []) (m := m) hbig'.symm rfl (.refl _) (hK h6 F sb vd vb vc vg m s l _ _ _ _ _ hX' hv' hok hC hS hfit') fun v' F1 m1 hF1 hS1 _ => ?_
    simp only [push_cast, ↓reduceIte, Nat.reduceEqDiff, Nat.reduceAdd, Nat.reduceMul, Nat.reduceSub, Nat.reduceLT, Nat.reduceLeDiff, reduceCtorEq, Nat.reduceMod, Int.reduceEq, Int.reduceLT, Int.reduceLE, Int.reduceToNat, dite_true]
    exact RetOk.r (vs := []) rfl (RetR.own (i := 0) rfl) ⟨m1, rfl, hS1, trivial⟩
  · refine VC.go 100 ?_
    simp only [push_cast, ↓reduceIte, Nat.reduceEqDiff, Nat.reduceAdd, Nat.reduceMul, Nat.reduceSub, Nat.reduceLT, Nat.reduceLeDiff, reduceCtorEq, Nat.reduceMod, Int.reduceEq, Int.reduceLT, Int.reduceLE, Int.reduceToNat, dite_true, hbig', h4, h2, h1, h3, h5, h6, Bool.false_eq_true]
    intro b
    exact RetOk.r (vs := []) rfl (RetR.own (i := 0) rfl) ⟨m, by rw [hbig'], hS, trivial⟩
end Go.Proofs.YtoepmdbicdoieaaDoor.J
