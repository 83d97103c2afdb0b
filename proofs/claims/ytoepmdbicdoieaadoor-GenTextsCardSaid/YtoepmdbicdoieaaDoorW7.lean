/- gen: an expression is laid. -/
import Derived.Test.YtoepmdbicdoieaaDoorW6
namespace Go.Proofs.YtoepmdbicdoieaaDoor.W
open Go Go.Eng Go.Proofs Go.Proofs.YtoepmdbicdoieaaDoor.T Go.Proofs.YtoepmdbicdoieaaDoor.K Go.Proofs.YtoepmdbicdoieaaDoor.U
set_option linter.unusedSimpArgs false
set_option linter.unusedVariables false
set_option maxRecDepth 100000
set_option maxHeartbeats 4000000
theorem layE_eq (C : Env) (e : Exp) (l : List ByteArray) (s : Sc) : layE C e l s =
    if s.big = true then s
    else if e.kind = 4 then retS (putS s (insL l.length [⟨2, 0, e.n, []⟩])) l.length (l.length + 1)
    else if e.kind = 2 then retS (putS s (insL l.length (conM C e.name e.atoms l))) (l.length + (conM C e.name e.atoms l).length - 1) (l.length + (conM C e.name e.atoms l).length)
    else if e.kind = 1 then putS (intsS s e.atoms l.length) ⟨2, place C l e.name, l.length + (nums e.atoms).length, atomsP C l e.atoms l.length, [], [], []⟩
    else if e.kind = 3 then putS (intsS s e.atoms l.length) ⟨6, findP e.name, l.length + (nums e.atoms).length, atomsP C l e.atoms l.length, [], [], []⟩
    else if e.kind = 5 then layKid C e.kids (letIn e.binds l) (putS (letM C e.binds l s).s (insL l.length (letM C e.binds l s).makes))
    else if e.kind = 6 then setArms (layAlts C (keepL l e.alts) e.alts ⟨[], armsS (layKid C e.kids (here l (V.withinKid e.kids)) (caseS C e.kids e.alts l s)) s.ins.length (keepL l e.alts)⟩).s
        (layKid C e.kids (here l (V.withinKid e.kids)) (caseS C e.kids e.alts l s)).ins.length (layAlts C (keepL l e.alts) e.alts ⟨[], armsS (layKid C e.kids (here l (V.withinKid e.kids)) (caseS C e.kids e.alts l s)) s.ins.length (keepL l e.alts)⟩).arms
    else s := by cases e; simp only [layE]; rfl
theorem okX_eq (C : Env) (e : Exp) (l : List ByteArray) : okX C l e = ((e.kind = 1 → Known C l e.name ∧ KnownA C l e.atoms) ∧ (e.kind = 2 → KnownA C l e.atoms) ∧ (e.kind = 3 → KnownA C l e.atoms) ∧
    (e.kind = 5 → e.kids ≠ [] ∧ okBs C (letIn e.binds l) e.binds ∧ okKid C (letIn e.binds l) e.kids) ∧
    (e.kind = 6 → e.kids ≠ [] ∧ okKid C (here l (V.withinKid e.kids)) e.kids ∧ okLs C (keepL l e.alts) e.alts)) := by cases e; simp only [okX]; rfl
/-- What bounds the walk. -/
def Fits (e : Exp) (s : Sc) (l : List ByteArray) : Prop := s.ins.length + 2 * e.size ≤ 100000000 ∧ s.infos.length + e.size ≤ 100000000 ∧ l.length + e.size ≤ 100000000 ∧ e.size ≤ 10000000
/-- How an expression is laid, whatever the call. -/
def GenX (f : FuncId) (lay : Env → Exp → List ByteArray → Sc → Sc) (C : Env) (e : Exp) : Prop := ∀ (F : PH) (sb i : Nat) (vc vg mc mt vi vn vq : Value) (ri rn rq : PH) (s : Sc) (l : List ByteArray) (v va vb ve vl : Value),
  ExpAt F e va vb ve vl → Plc F v l → Ctx F C vc vg mc mt → Sch F sb i s vi vn vq ri rn rq → okX C l e → Fits e s l →
  SchFn f [.agg (expCells e va vb ve vl).toArray, v, i64v l.length] F sb i vc vg mc mt vi vn vq ri rn rq s (lay C e l s) (fun _ => True)
abbrev GenE := GenX 42 layE
/-- A group, and what stands behind it. -/
def layLet (C : Env) (e : Exp) (l : List ByteArray) (s : Sc) : Sc := layKid C e.kids (letIn e.binds l) (putS (letM C e.binds l s).s (insL l.length (letM C e.binds l s).makes))
def layCase (C : Env) (e : Exp) (l : List ByteArray) (s : Sc) : Sc :=
  setArms (layAlts C (keepL l e.alts) e.alts ⟨[], armsS (layKid C e.kids (here l (V.withinKid e.kids)) (caseS C e.kids e.alts l s)) s.ins.length (keepL l e.alts)⟩).s
    (layKid C e.kids (here l (V.withinKid e.kids)) (caseS C e.kids e.alts l s)).ins.length (layAlts C (keepL l e.alts) e.alts ⟨[], armsS (layKid C e.kids (here l (V.withinKid e.kids)) (caseS C e.kids e.alts l s)) s.ins.length (keepL l e.alts)⟩).arms
theorem sizeA_len' (e : Exp) : e.atoms.length ≤ e.size := by have := V.sizeA_len e.atoms; have := V.size_eq e; omega
theorem ret_ins {F : PH} (a b : Int) : RIns F ⟨3, a, b, [], [], [], []⟩ [i64v 3, i64v a, i64v b, .slice none 0 0, .slice none 0 0, .slice none 0 0, .slice none 0 0] :=
  ⟨_, _, _, _, rfl, nil_ints F, nil_ints F, nil_sle F 4 _, nil_sle F 4 _⟩
theorem VC.fromT {P : Program} {n : Nat} {X : Cx} {k : List KItem} {S' : St} (L : KL) (M : List Own) (F : PH) (R : List PH) (h1 : subk S'.L L) (h2 : M.Sublist S'.M) (h3 : S'.F = F) (h4 : S'.R.Perm R) (h : VC P n X k ⟨L, M, F, R, S'.nx⟩) : VC P n X k S' :=
  VC.permR h4 (VC.weaken (S' := ⟨L, M, F, R, S'.nx⟩) ⟨subk_le h1, h2, h3.symm, List.Sublist.refl _⟩ h)
theorem conM_len (C : Env) (nm : ByteArray) (ats : List (ByteArray × Int)) (l : List ByteArray) : (conM C nm ats l).length = (nums ats).length + 1 := by simp [conM]
theorem exp_ok (C : Env) (e : Exp) (hL : e.kind = 5 → GenX 86 layLet C e) (hK : e.kind = 6 → GenX 87 layCase C e) : GenE C e := by
  intro F sb i vc vg mc mt vi vn vq ri rn rq s l v va vb ve vl hX hp hC hS hok hfit
  rw [okX_eq] at hok
  obtain ⟨ok1, ok2, ok3, ok5, ok6⟩ := hok
  obtain ⟨fi1, fi2, fi3, fi4⟩ := hfit
  have hX' := hX
  obtain ⟨pa, ca, pb, cb, pe, ce, pl, cl, rfl, rfl, rfl, rfl⟩ := hX.slices
  obtain ⟨mb, rfl⟩ := hp.val
  have hsa := sizeA_len' e
  have hsz : 1 ≤ e.size := by have := V.size_eq e; omega
  unfold SchFn
  rw [layE_eq]
  refine SFn.intro (n := 127) (ts := []) Tryd.func42 rfl rfl rfl rfl (by simp) fun B hB => ?_
  by_cases hbig : s.big = true
  · refine VC.go 100 ?_
    simp only [push_cast, ↓reduceIte, Nat.reduceEqDiff, Nat.reduceAdd, Nat.reduceMul, Nat.reduceSub, Nat.reduceLT, Nat.reduceLeDiff, reduceCtorEq, Nat.reduceMod, Int.reduceEq, Int.reduceLT, Int.reduceLE, Int.reduceToNat, dite_true, hbig]
    intro b
    exact RetOk.r (vs := []) rfl (RetR.own (i := 0) rfl) ⟨vi, vn, vq, ri, rn, rq, by simp [hbig], hS, trivial⟩
  have hbig' : s.big = false := Bool.eq_false_iff.2 hbig
  by_cases h4 : e.kind = 4
  · refine VC.go 100 ?_
    simp only [push_cast, ↓reduceIte, Nat.reduceEqDiff, Nat.reduceAdd, Nat.reduceMul, Nat.reduceSub, Nat.reduceLT, Nat.reduceLeDiff, reduceCtorEq, Nat.reduceMod, Int.reduceEq, Int.reduceLT, Int.reduceLE, Int.reduceToNat, dite_true, hbig', eq_true h4, Bool.false_eq_true]
    intro b b1 F1 hF1 hb1
    refine callPut (x := insL l.length [⟨2, 0, e.n, []⟩]) (Re := []) hbig'.symm rfl (.refl _) (hC.mono hF1) (hS.mono hF1) ⟨_, _, _, _, rfl, nil_ints _, nil_ints _, sle_one hb1 rfl ⟨_, rfl, nil_ints _⟩, nil_sle _ 4 _⟩ (by omega) (by simp [insL]; omega) (by simp [insL]) fun F2 vn2 rn2 hF2 hS2 => ?_
    have e1 : IntKind.i64.wrap ((l.length : Int) + 1) = l.length + 1 := w64 _ (by omega)
    simp only [push_cast, ↓reduceIte, Nat.reduceEqDiff, Nat.reduceAdd, Nat.reduceMul, Nat.reduceSub, Nat.reduceLT, Nat.reduceLeDiff, reduceCtorEq, Nat.reduceMod, Int.reduceEq, Int.reduceLT, Int.reduceLE, Int.reduceToNat, dite_true, e1]
    refine callPut (x := ⟨3, l.length, l.length + 1, [], [], [], []⟩) (Re := []) rfl rfl (.refl _) (hC.mono (PH.le_trans hF1 hF2)) hS2 (ret_ins _ _) (by simp [putS]; omega) (by simp; omega) (by simp) fun F3 vn3 rn3 hF3 hS3 => ?_
    simp only [push_cast, ↓reduceIte, Nat.reduceEqDiff, Nat.reduceAdd, Nat.reduceMul, Nat.reduceSub, Nat.reduceLT, Nat.reduceLeDiff, reduceCtorEq, Nat.reduceMod, Int.reduceEq, Int.reduceLT, Int.reduceLE, Int.reduceToNat, dite_true]
    exact RetOk.r (vs := []) rfl (RetR.own (i := 0) rfl) ⟨vi, vn3, vq, ri, rn3, rq, rfl, hS3, trivial⟩
  by_cases h2 : e.kind = 2
  · refine VC.go 100 ?_
    simp only [push_cast, ↓reduceIte, Nat.reduceEqDiff, Nat.reduceAdd, Nat.reduceMul, Nat.reduceSub, Nat.reduceLT, Nat.reduceLeDiff, reduceCtorEq, Nat.reduceMod, Int.reduceEq, Int.reduceLT, Int.reduceLE, Int.reduceToNat, dite_true, hbig', h4, eq_true h2, Bool.false_eq_true]
    intro b
    refine callNums hX.atoms (by omega) fun u F1 r1 hF1 hr1 => ?_
    have hnl := nums_len e.atoms
    have hcl := conM_len C e.name e.atoms l
    obtain ⟨x1, hr1, he1⟩ := hr1
    have hx1 := he1.len (fun _ _ h => h.len)
    obtain ⟨p1, m1, c1, rfl, q1, q2, q3⟩ := hr1.len
    obtain rfl : m1 = (nums e.atoms).length := by omega
    have hC' := hC
    obtain ⟨mc', ⟨cb', ces, cc, ckv, rfl, hcF, hcm, hcn, hcg⟩, hcc⟩ := hC.cons
    have hget : (mget ckv e.name).getD (i64v 0) = i64v (conD C.ds e.name) := by rw [hcg, ← hcc]; cases mc' e.name <;> rfl
    simp only [push_cast, ↓reduceIte, Nat.reduceEqDiff, Nat.reduceAdd, Nat.reduceMul, Nat.reduceSub, Nat.reduceLT, Nat.reduceLeDiff, reduceCtorEq, Nat.reduceMod, Int.reduceEq, Int.reduceLT, Int.reduceLE, Int.reduceToNat, dite_true]
    refine VC.drawT (fun S' => ∃ F2 u2 r2, F1.le F2 ∧ RowE r2 85 4 (RMk F2) u2 (conM C e.name e.atoms l) ∧ subk S'.L [(8, .v u2), (3, .v (i64v l.length)), (0, .o 0 sb 0)] ∧ [Own.mk 0 sb 70 (schC vc vg vi vn (.map (some cb')) mt vq false)].Sublist S'.M ∧ S'.F = F2 ∧ S'.R.Perm [r2, ri, rn, rq])
      (.q 0 (.q 1 (.q 2 (.q 3 (.q 4 (.q 5 (.q 6 (.q 8 (.q 9 (.q 10 (.q 11 (.q 12 (.e2 7 (.e 13 (.e 14 (.e 15 (.e 16 (.e 17 (.done)))))) 13 (.e 7 (.e 14 (.e 15 (.e 16 (.e 17 (.done))))))))))))))))))) mixed (by rfl) ?_ ?_
    · simp only [push_cast, ↓reduceIte, Nat.reduceEqDiff, Nat.reduceAdd, Nat.reduceMul, Nat.reduceSub, Nat.reduceLT, Nat.reduceLeDiff, reduceCtorEq, Nat.reduceMod, Int.reduceEq, Int.reduceLT, Int.reduceLE, Int.reduceToNat, dite_true, hbig']
      refine ⟨?_, ?_⟩
      · refine Eff.lookup keyStr rfl ty67 rfl Tryd.underlying9 ty3 rfl rfl (.inl (hF1 _ _ hcF)) hcm.1 ?_
        simp only [push_cast, ↓reduceIte, Nat.reduceEqDiff, Nat.reduceAdd, Nat.reduceMul, Nat.reduceSub, Nat.reduceLT, Nat.reduceLeDiff, reduceCtorEq, Nat.reduceMod, Int.reduceEq, Int.reduceLT, Int.reduceLE, Int.reduceToNat, dite_true, hget, Bool.false_eq_true]
        refine callAtoms (C := C) rfl (hC'.mono hF1) (hX.atoms.mono hF1) (hp.mono hF1) (ok2 h2) (by omega) (by omega) fun r2 F2 hF2 hr2 => ?_
        have hr2' := hr2
        obtain ⟨pr, cr, rfl, _, _, _⟩ := hr2
        simp only [push_cast, ↓reduceIte, Nat.reduceEqDiff, Nat.reduceAdd, Nat.reduceMul, Nat.reduceSub, Nat.reduceLT, Nat.reduceLeDiff, reduceCtorEq, Nat.reduceMod, Int.reduceEq, Int.reduceLT, Int.reduceLE, Int.reduceToNat, dite_true]
        intro b3 F3 hF3 hb3
        refine Eff.append rfl rfl rfl ty86 rfl ty85 rfl (by decide) rfl rfl (.refl _) hr1 (src_one hb3 rfl) (by simp [Value.oneCell']) (by simp [hx1]; omega) (by decide) fun v4 r4 hr4 => ?_
        simp only [push_cast, ↓reduceIte, Nat.reduceEqDiff, Nat.reduceAdd, Nat.reduceMul, Nat.reduceSub, Nat.reduceLT, Nat.reduceLeDiff, reduceCtorEq, Nat.reduceMod, Int.reduceEq, Int.reduceLT, Int.reduceLE, Int.reduceToNat, dite_true]
        exact ⟨F3, v4, r4, PH.le_trans hF2 hF3, ⟨_, hr4, each_snoc (he1.mono fun _ _ _ h => h.mono (PH.le_trans hF2 hF3)) ⟨_, rfl, hr2'.mono hF3⟩⟩, by simp [subk, Eng.look], by simp, rfl, .refl _⟩
      · refine callAtoms (C := C) rfl (hC'.mono hF1) (hX.atoms.mono hF1) (hp.mono hF1) (ok2 h2) (by omega) (by omega) fun r2 F2 hF2 hr2 => ?_
        have hr2' := hr2
        obtain ⟨pr, cr, rfl, _, _, _⟩ := hr2
        simp only [push_cast, ↓reduceIte, Nat.reduceEqDiff, Nat.reduceAdd, Nat.reduceMul, Nat.reduceSub, Nat.reduceLT, Nat.reduceLeDiff, reduceCtorEq, Nat.reduceMod, Int.reduceEq, Int.reduceLT, Int.reduceLE, Int.reduceToNat, dite_true]
        refine Eff.lookup keyStr rfl ty67 rfl Tryd.underlying9 ty3 rfl rfl (.inl ((PH.le_trans hF1 hF2) _ _ hcF)) hcm.1 ?_
        simp only [push_cast, ↓reduceIte, Nat.reduceEqDiff, Nat.reduceAdd, Nat.reduceMul, Nat.reduceSub, Nat.reduceLT, Nat.reduceLeDiff, reduceCtorEq, Nat.reduceMod, Int.reduceEq, Int.reduceLT, Int.reduceLE, Int.reduceToNat, dite_true, hget, Bool.false_eq_true]
        intro b3 F3 hF3 hb3
        refine Eff.append rfl rfl rfl ty86 rfl ty85 rfl (by decide) rfl rfl (.refl _) hr1 (src_one hb3 rfl) (by simp [Value.oneCell']) (by simp [hx1]; omega) (by decide) fun v4 r4 hr4 => ?_
        simp only [push_cast, ↓reduceIte, Nat.reduceEqDiff, Nat.reduceAdd, Nat.reduceMul, Nat.reduceSub, Nat.reduceLT, Nat.reduceLeDiff, reduceCtorEq, Nat.reduceMod, Int.reduceEq, Int.reduceLT, Int.reduceLE, Int.reduceToNat, dite_true]
        exact ⟨F3, v4, r4, PH.le_trans hF2 hF3, ⟨_, hr4, each_snoc (he1.mono fun _ _ _ h => h.mono (PH.le_trans hF2 hF3)) ⟨_, rfl, hr2'.mono hF3⟩⟩, by simp [subk, Eng.look], by simp, rfl, .refl _⟩
    rintro S' ⟨F2, u2, r2, hF2, hr2, h1, h3, h4, h5⟩
    refine VC.fromT _ _ F2 _ h1 h3 h4 h5 ?_
    refine VC.freezeR (.refl _) fun F3 hF3 hle => ?_
    have hsl := (hr2.sle (by decide) (fun _ _ h => h.len) hle).mono (R' := RMk F3) (PH.le_refl _) (fun _ _ _ h => h.mono hF3)
    obtain ⟨pu, cu, rfl, _, _⟩ := hsl.val
    have hF13 := PH.le_trans hF1 (PH.le_trans hF2 hF3)
    refine VC.go 100 ?_
    simp only [push_cast, ↓reduceIte, Nat.reduceEqDiff, Nat.reduceAdd, Nat.reduceMul, Nat.reduceSub, Nat.reduceLT, Nat.reduceLeDiff, reduceCtorEq, Nat.reduceMod, Int.reduceEq, Int.reduceLT, Int.reduceLE, Int.reduceToNat, dite_true]
    refine callPut (x := insL l.length (conM C e.name e.atoms l)) (Re := []) hbig'.symm rfl (.refl _) (hC'.mono hF13) (hS.mono hF13) ⟨_, _, _, _, rfl, nil_ints _, nil_ints _, hsl, nil_sle _ 4 _⟩ (by omega) (by simp [insL]; omega) (by simp [insL]; omega) fun F4 vn4 rn4 hF4 hS4 => ?_
    have e1 : IntKind.i64.wrap ((l.length : Int) + ((conM C e.name e.atoms l).length : Int)) = l.length + (conM C e.name e.atoms l).length := w64 _ (by omega)
    have e2 : IntKind.i64.wrap ((l.length : Int) + ((conM C e.name e.atoms l).length : Int) - 1) = l.length + (conM C e.name e.atoms l).length - 1 := w64 _ (by omega)
    simp only [push_cast, ↓reduceIte, Nat.reduceEqDiff, Nat.reduceAdd, Nat.reduceMul, Nat.reduceSub, Nat.reduceLT, Nat.reduceLeDiff, reduceCtorEq, Nat.reduceMod, Int.reduceEq, Int.reduceLT, Int.reduceLE, Int.reduceToNat, dite_true, e1, e2]
    refine callPut (x := ⟨3, l.length + (conM C e.name e.atoms l).length - 1, l.length + (conM C e.name e.atoms l).length, [], [], [], []⟩) (Re := []) rfl rfl (.refl _) (hC'.mono (PH.le_trans hF13 hF4)) hS4 (ret_ins _ _) (by simp [putS]; omega) (by simp; omega) (by simp) fun F5 vn5 rn5 hF5 hS5 => ?_
    simp only [push_cast, ↓reduceIte, Nat.reduceEqDiff, Nat.reduceAdd, Nat.reduceMul, Nat.reduceSub, Nat.reduceLT, Nat.reduceLeDiff, reduceCtorEq, Nat.reduceMod, Int.reduceEq, Int.reduceLT, Int.reduceLE, Int.reduceToNat, dite_true]
    exact RetOk.r (vs := []) rfl (RetR.own (i := 0) rfl) ⟨vi, vn5, vq, ri, rn5, rq, rfl, hS5, trivial⟩
  by_cases h1 : e.kind = 1
  · have okA : KnownA C l e.atoms := (ok1 h1).2
    refine VC.go 24 ?_
    simp only [push_cast, ↓reduceIte, Nat.reduceEqDiff, Nat.reduceAdd, Nat.reduceMul, Nat.reduceSub, Nat.reduceLT, Nat.reduceLeDiff, reduceCtorEq, Nat.reduceMod, Int.reduceEq, Int.reduceLT, Int.reduceLE, Int.reduceToNat, dite_true, hbig', h4, h2, eq_true h1, Bool.false_eq_true]
    intro b
    refine callNums hX.atoms (by omega) fun u F1 r1 hF1 hr1 => ?_
    have hnl := nums_len e.atoms
    simp only [push_cast, ↓reduceIte, Nat.reduceEqDiff, Nat.reduceAdd, Nat.reduceMul, Nat.reduceSub, Nat.reduceLT, Nat.reduceLeDiff, reduceCtorEq, Nat.reduceMod, Int.reduceEq, Int.reduceLT, Int.reduceLE, Int.reduceToNat, dite_true]
    refine VC.freezeR (.refl _) fun F2 hF2 hle => ?_
    have hsl := (hr1.sle (by decide) (fun _ _ h => h.len) hle).mono (R' := RMk F2) (PH.le_refl _) (fun _ _ _ h => h.mono hF2)
    obtain ⟨pu, cu, rfl, _, _⟩ := hsl.val
    have hF12 := PH.le_trans hF1 hF2
    have hon := on_ints s e.atoms l.length
    refine VC.seq (VC.cutW (ι := PH × Value × PH) (fun j => [(9, .v (.slice pu (nums e.atoms).length cu)), (5, .o 1 b 0), (0, .o 0 sb 0), (2, .v (.map (some mb))), (3, .v (i64v l.length))])
      (fun j => [⟨0, sb, 70, schC vc vg vi j.2.1 mc mt vq (intsS s e.atoms l.length).big⟩, ⟨1, b, 49, expCells e (.slice pa e.atoms.length ca) (.slice pb e.binds.length cb) (.slice pe e.kids.length ce) (.slice pl e.alts.length cl)⟩]) (fun j => j.1) (fun j => [ri, j.2.2, rq])
      (fun j => F2.le j.1 ∧ Sch j.1 sb i (intsS s e.atoms l.length) vi j.2.1 vq ri j.2.2 rq) (fun G hG => ?_) ?_)
    · refine VC.go 100 ?_
      by_cases hz : (nums e.atoms).length = 0
      · have hz' : ¬ (0 : Int) < ((nums e.atoms).length : Int) := by omega
        have hs0 : intsS s e.atoms l.length = s := by simp [intsS, hz]
        simp only [push_cast, ↓reduceIte, Nat.reduceEqDiff, Nat.reduceAdd, Nat.reduceMul, Nat.reduceSub, Nat.reduceLT, Nat.reduceLeDiff, reduceCtorEq, Nat.reduceMod, Int.reduceEq, Int.reduceLT, Int.reduceLE, Int.reduceToNat, dite_true, hz']
        refine hG (F2, vn, rn) _ ⟨PH.le_refl _, by rw [hs0]; exact hS.mono hF12⟩ (by simp [subk, Eng.look]) ?_ rfl (subR_refl _)
        dsimp only
        rw [hs0, hbig']
        exact List.Sublist.refl _
      · have hz' : (0 : Int) < ((nums e.atoms).length : Int) := by omega
        have hs0 : intsS s e.atoms l.length = putS s (insL l.length (nums e.atoms)) := by simp [intsS, hz]
        simp only [push_cast, ↓reduceIte, Nat.reduceEqDiff, Nat.reduceAdd, Nat.reduceMul, Nat.reduceSub, Nat.reduceLT, Nat.reduceLeDiff, reduceCtorEq, Nat.reduceMod, Int.reduceEq, Int.reduceLT, Int.reduceLE, Int.reduceToNat, dite_true, hz']
        refine callPut (x := insL l.length (nums e.atoms)) (Re := []) hbig'.symm rfl (.refl _) (hC.mono hF12) (hS.mono hF12) ⟨_, _, _, _, rfl, nil_ints _, nil_ints _, hsl, nil_sle _ 4 _⟩ (by omega) (by simp [insL]; omega) (by simp [insL]; omega) fun F3 vn3 rn3 hF3 hS3 => ?_
        simp only [push_cast, ↓reduceIte, Nat.reduceEqDiff, Nat.reduceAdd, Nat.reduceMul, Nat.reduceSub, Nat.reduceLT, Nat.reduceLeDiff, reduceCtorEq, Nat.reduceMod, Int.reduceEq, Int.reduceLT, Int.reduceLE, Int.reduceToNat, dite_true]
        refine hG (F3, vn3, rn3) _ ⟨hF3, by rw [hs0]; exact hS3⟩ (by simp [subk, Eng.look]) ?_ rfl (subR_refl _)
        dsimp only
        rw [hs0]
        exact List.Sublist.refl _
    rintro ⟨F3, vn3, rn3⟩ ⟨hF3, hS3⟩
    dsimp only at hF3 hS3 ⊢
    have hF13 := PH.le_trans hF12 hF3
    have hC3 := hC.mono hF13
    have e1 : IntKind.i64.wrap ((l.length : Int) + ((nums e.atoms).length : Int)) = l.length + (nums e.atoms).length := w64 _ (by omega)
    refine VC.seq (VC.drawT (fun S' => ∃ F4 b10 pr cr, F3.le F4 ∧ Ints F4 (.slice pr (atomsP C l e.atoms l.length).length cr) (atomsP C l e.atoms l.length) ∧ subk S'.L [(10, .o 2 b10 0), (5, .o 1 b 0), (0, .o 0 sb 0), (2, .v (.map (some mb))), (3, .v (i64v l.length))]
        ∧ [Own.mk 0 sb 70 (schC vc vg vi vn3 mc mt vq (intsS s e.atoms l.length).big), ⟨1, b, 49, expCells e (.slice pa e.atoms.length ca) (.slice pb e.binds.length cb) (.slice pe e.kids.length ce) (.slice pl e.alts.length cl)⟩, ⟨2, b10, 89, [i64v 6, i64v (findP e.name), i64v (l.length + (nums e.atoms).length), .slice pr (atomsP C l e.atoms l.length).length cr, .slice none 0 0, .slice none 0 0, .slice none 0 0]⟩].Sublist S'.M ∧ S'.F = F4 ∧ S'.R.Perm [ri, rn3, rq])
      (.q 0 (.q 1 (.q 3 (.q 4 (.q 5 (.q 6 (.q 7 (.q 8 (.q 9 (.q 10 (.q 11 (.e2 2 (.e2 12 (.e2 13 (.e 14 (.e 15 (.done))) 14 (.e 13 (.e 15 (.done)))) 14 (.e 12 (.e 13 (.e 15 (.done))))) 14 (.e 2 (.e 12 (.e 13 (.e 15 (.done))))))))))))))))) mixed (by rfl) ?_ ?_)
    · simp only [push_cast, ↓reduceIte, Nat.reduceEqDiff, Nat.reduceAdd, Nat.reduceMul, Nat.reduceSub, Nat.reduceLT, Nat.reduceLeDiff, reduceCtorEq, Nat.reduceMod, Int.reduceEq, Int.reduceLT, Int.reduceLE, Int.reduceToNat, dite_true, e1]
      refine ⟨?_, ?_⟩
      · refine CallV.pure (P.find _ e.name hC3.tab) ?_
        rintro _ F4 hF4 rfl
        simp only [push_cast, ↓reduceIte, Nat.reduceEqDiff, Nat.reduceAdd, Nat.reduceMul, Nat.reduceSub, Nat.reduceLT, Nat.reduceLeDiff, reduceCtorEq, Nat.reduceMod, Int.reduceEq, Int.reduceLT, Int.reduceLE, Int.reduceToNat, dite_true, e1]
        refine ⟨?_, ?_⟩
        · refine callAtoms (C := C) rfl (hC3.mono hF4) ((hX.mono hF13).atoms.mono hF4) ((hp.mono hF13).mono hF4) okA (by omega) (by omega) fun r2 F5 hF5 hr2 => ?_
          have hr2' := hr2
          obtain ⟨pr, cr, rfl, _, _, _⟩ := hr2
          simp only [push_cast, ↓reduceIte, Nat.reduceEqDiff, Nat.reduceAdd, Nat.reduceMul, Nat.reduceSub, Nat.reduceLT, Nat.reduceLeDiff, reduceCtorEq, Nat.reduceMod, Int.reduceEq, Int.reduceLT, Int.reduceLE, Int.reduceToNat, dite_true]
          refine ⟨?_, ?_⟩
          · intro b10
            exact ⟨F5, b10, pr, cr, PH.le_trans hF4 hF5, hr2', by simp [subk, Eng.look], by simp, rfl, .refl _⟩
          · intro b10
            exact ⟨F5, b10, pr, cr, PH.le_trans hF4 hF5, hr2', by simp [subk, Eng.look], by simp, rfl, .refl _⟩
        · intro b10
          refine callAtoms (C := C) rfl (hC3.mono hF4) ((hX.mono hF13).atoms.mono hF4) ((hp.mono hF13).mono hF4) okA (by omega) (by omega) fun r2 F5 hF5 hr2 => ?_
          have hr2' := hr2
          obtain ⟨pr, cr, rfl, _, _, _⟩ := hr2
          simp only [push_cast, ↓reduceIte, Nat.reduceEqDiff, Nat.reduceAdd, Nat.reduceMul, Nat.reduceSub, Nat.reduceLT, Nat.reduceLeDiff, reduceCtorEq, Nat.reduceMod, Int.reduceEq, Int.reduceLT, Int.reduceLE, Int.reduceToNat, dite_true]
          exact ⟨F5, b10, pr, cr, PH.le_trans hF4 hF5, hr2', by simp [subk, Eng.look], by simp, rfl, .refl _⟩
      · intro b10
        refine CallV.pure (P.find _ e.name hC3.tab) ?_
        rintro _ F4 hF4 rfl
        simp only [push_cast, ↓reduceIte, Nat.reduceEqDiff, Nat.reduceAdd, Nat.reduceMul, Nat.reduceSub, Nat.reduceLT, Nat.reduceLeDiff, reduceCtorEq, Nat.reduceMod, Int.reduceEq, Int.reduceLT, Int.reduceLE, Int.reduceToNat, dite_true, e1]
        refine callAtoms (C := C) rfl (hC3.mono hF4) ((hX.mono hF13).atoms.mono hF4) ((hp.mono hF13).mono hF4) okA (by omega) (by omega) fun r2 F5 hF5 hr2 => ?_
        have hr2' := hr2
        obtain ⟨pr, cr, rfl, _, _, _⟩ := hr2
        simp only [push_cast, ↓reduceIte, Nat.reduceEqDiff, Nat.reduceAdd, Nat.reduceMul, Nat.reduceSub, Nat.reduceLT, Nat.reduceLeDiff, reduceCtorEq, Nat.reduceMod, Int.reduceEq, Int.reduceLT, Int.reduceLE, Int.reduceToNat, dite_true]
        exact ⟨F5, b10, pr, cr, PH.le_trans hF4 hF5, hr2', by simp [subk, Eng.look], by simp, rfl, .refl _⟩
    rintro S' ⟨F4, b10, pr, cr, hF4, hr2, g1, g3, g4, g5⟩
    refine VC.fromT _ _ F4 _ g1 g3 g4 g5 ?_
    refine VC.go 100 ?_
    simp only [push_cast, ↓reduceIte, Nat.reduceEqDiff, Nat.reduceAdd, Nat.reduceMul, Nat.reduceSub, Nat.reduceLT, Nat.reduceLeDiff, reduceCtorEq, Nat.reduceMod, Int.reduceEq, Int.reduceLT, Int.reduceLE, Int.reduceToNat, dite_true, eq_true h1]
    refine callPlace (C := C) rfl (hC3.mono hF4) ((hp.mono hF13).mono hF4) (ok1 h1).1 fun F5 hF5 => ?_
    simp only [push_cast, ↓reduceIte, Nat.reduceEqDiff, Nat.reduceAdd, Nat.reduceMul, Nat.reduceSub, Nat.reduceLT, Nat.reduceLeDiff, reduceCtorEq, Nat.reduceMod, Int.reduceEq, Int.reduceLT, Int.reduceLE, Int.reduceToNat, dite_true]
    refine callPut (x := ⟨2, place C l e.name, l.length + (nums e.atoms).length, atomsP C l e.atoms l.length, [], [], []⟩) (Re := []) rfl rfl (.refl _) ((hC3.mono hF4).mono hF5) ((hS3.mono hF4).mono hF5) ⟨_, _, _, _, rfl, hr2.mono hF5, nil_ints _, nil_sle _ 4 _, nil_sle _ 4 _⟩ (by have := hon.ins; omega) (by simp; omega) (by simp) fun F6 vn6 rn6 hF6 hS6 => ?_
    simp only [push_cast, ↓reduceIte, Nat.reduceEqDiff, Nat.reduceAdd, Nat.reduceMul, Nat.reduceSub, Nat.reduceLT, Nat.reduceLeDiff, reduceCtorEq, Nat.reduceMod, Int.reduceEq, Int.reduceLT, Int.reduceLE, Int.reduceToNat, dite_true]
    exact RetOk.r (vs := []) rfl (RetR.own (i := 0) rfl) ⟨vi, vn6, vq, ri, rn6, rq, rfl, hS6, trivial⟩
  by_cases h3 : e.kind = 3
  · have okA : KnownA C l e.atoms := ok3 h3
    refine VC.go 24 ?_
    simp only [push_cast, ↓reduceIte, Nat.reduceEqDiff, Nat.reduceAdd, Nat.reduceMul, Nat.reduceSub, Nat.reduceLT, Nat.reduceLeDiff, reduceCtorEq, Nat.reduceMod, Int.reduceEq, Int.reduceLT, Int.reduceLE, Int.reduceToNat, dite_true, hbig', h4, h2, h1, eq_true h3, Bool.false_eq_true]
    intro b
    refine callNums hX.atoms (by omega) fun u F1 r1 hF1 hr1 => ?_
    have hnl := nums_len e.atoms
    simp only [push_cast, ↓reduceIte, Nat.reduceEqDiff, Nat.reduceAdd, Nat.reduceMul, Nat.reduceSub, Nat.reduceLT, Nat.reduceLeDiff, reduceCtorEq, Nat.reduceMod, Int.reduceEq, Int.reduceLT, Int.reduceLE, Int.reduceToNat, dite_true]
    refine VC.freezeR (.refl _) fun F2 hF2 hle => ?_
    have hsl := (hr1.sle (by decide) (fun _ _ h => h.len) hle).mono (R' := RMk F2) (PH.le_refl _) (fun _ _ _ h => h.mono hF2)
    obtain ⟨pu, cu, rfl, _, _⟩ := hsl.val
    have hF12 := PH.le_trans hF1 hF2
    have hon := on_ints s e.atoms l.length
    refine VC.seq (VC.cutW (ι := PH × Value × PH) (fun j => [(9, .v (.slice pu (nums e.atoms).length cu)), (5, .o 1 b 0), (0, .o 0 sb 0), (2, .v (.map (some mb))), (3, .v (i64v l.length))])
      (fun j => [⟨0, sb, 70, schC vc vg vi j.2.1 mc mt vq (intsS s e.atoms l.length).big⟩, ⟨1, b, 49, expCells e (.slice pa e.atoms.length ca) (.slice pb e.binds.length cb) (.slice pe e.kids.length ce) (.slice pl e.alts.length cl)⟩]) (fun j => j.1) (fun j => [ri, j.2.2, rq])
      (fun j => F2.le j.1 ∧ Sch j.1 sb i (intsS s e.atoms l.length) vi j.2.1 vq ri j.2.2 rq) (fun G hG => ?_) ?_)
    · refine VC.go 100 ?_
      by_cases hz : (nums e.atoms).length = 0
      · have hz' : ¬ (0 : Int) < ((nums e.atoms).length : Int) := by omega
        have hs0 : intsS s e.atoms l.length = s := by simp [intsS, hz]
        simp only [push_cast, ↓reduceIte, Nat.reduceEqDiff, Nat.reduceAdd, Nat.reduceMul, Nat.reduceSub, Nat.reduceLT, Nat.reduceLeDiff, reduceCtorEq, Nat.reduceMod, Int.reduceEq, Int.reduceLT, Int.reduceLE, Int.reduceToNat, dite_true, hz']
        refine hG (F2, vn, rn) _ ⟨PH.le_refl _, by rw [hs0]; exact hS.mono hF12⟩ (by simp [subk, Eng.look]) ?_ rfl (subR_refl _)
        dsimp only
        rw [hs0, hbig']
        exact List.Sublist.refl _
      · have hz' : (0 : Int) < ((nums e.atoms).length : Int) := by omega
        have hs0 : intsS s e.atoms l.length = putS s (insL l.length (nums e.atoms)) := by simp [intsS, hz]
        simp only [push_cast, ↓reduceIte, Nat.reduceEqDiff, Nat.reduceAdd, Nat.reduceMul, Nat.reduceSub, Nat.reduceLT, Nat.reduceLeDiff, reduceCtorEq, Nat.reduceMod, Int.reduceEq, Int.reduceLT, Int.reduceLE, Int.reduceToNat, dite_true, hz']
        refine callPut (x := insL l.length (nums e.atoms)) (Re := []) hbig'.symm rfl (.refl _) (hC.mono hF12) (hS.mono hF12) ⟨_, _, _, _, rfl, nil_ints _, nil_ints _, hsl, nil_sle _ 4 _⟩ (by omega) (by simp [insL]; omega) (by simp [insL]; omega) fun F3 vn3 rn3 hF3 hS3 => ?_
        simp only [push_cast, ↓reduceIte, Nat.reduceEqDiff, Nat.reduceAdd, Nat.reduceMul, Nat.reduceSub, Nat.reduceLT, Nat.reduceLeDiff, reduceCtorEq, Nat.reduceMod, Int.reduceEq, Int.reduceLT, Int.reduceLE, Int.reduceToNat, dite_true]
        refine hG (F3, vn3, rn3) _ ⟨hF3, by rw [hs0]; exact hS3⟩ (by simp [subk, Eng.look]) ?_ rfl (subR_refl _)
        dsimp only
        rw [hs0]
        exact List.Sublist.refl _
    rintro ⟨F3, vn3, rn3⟩ ⟨hF3, hS3⟩
    dsimp only at hF3 hS3 ⊢
    have hF13 := PH.le_trans hF12 hF3
    have hC3 := hC.mono hF13
    have e1 : IntKind.i64.wrap ((l.length : Int) + ((nums e.atoms).length : Int)) = l.length + (nums e.atoms).length := w64 _ (by omega)
    refine VC.seq (VC.drawT (fun S' => ∃ F4 b10 pr cr, F3.le F4 ∧ Ints F4 (.slice pr (atomsP C l e.atoms l.length).length cr) (atomsP C l e.atoms l.length) ∧ subk S'.L [(10, .o 2 b10 0), (5, .o 1 b 0), (0, .o 0 sb 0), (2, .v (.map (some mb))), (3, .v (i64v l.length))]
        ∧ [Own.mk 0 sb 70 (schC vc vg vi vn3 mc mt vq (intsS s e.atoms l.length).big), ⟨1, b, 49, expCells e (.slice pa e.atoms.length ca) (.slice pb e.binds.length cb) (.slice pe e.kids.length ce) (.slice pl e.alts.length cl)⟩, ⟨2, b10, 89, [i64v 6, i64v (findP e.name), i64v (l.length + (nums e.atoms).length), .slice pr (atomsP C l e.atoms l.length).length cr, .slice none 0 0, .slice none 0 0, .slice none 0 0]⟩].Sublist S'.M ∧ S'.F = F4 ∧ S'.R.Perm [ri, rn3, rq])
      (.q 0 (.q 1 (.q 3 (.q 4 (.q 5 (.q 6 (.q 7 (.q 8 (.q 9 (.q 10 (.q 11 (.e2 2 (.e2 12 (.e2 13 (.e 14 (.e 15 (.done))) 14 (.e 13 (.e 15 (.done)))) 14 (.e 12 (.e 13 (.e 15 (.done))))) 14 (.e 2 (.e 12 (.e 13 (.e 15 (.done))))))))))))))))) mixed (by rfl) ?_ ?_)
    · simp only [push_cast, ↓reduceIte, Nat.reduceEqDiff, Nat.reduceAdd, Nat.reduceMul, Nat.reduceSub, Nat.reduceLT, Nat.reduceLeDiff, reduceCtorEq, Nat.reduceMod, Int.reduceEq, Int.reduceLT, Int.reduceLE, Int.reduceToNat, dite_true, e1]
      refine ⟨?_, ?_⟩
      · refine CallV.pure (P.find _ e.name hC3.tab) ?_
        rintro _ F4 hF4 rfl
        simp only [push_cast, ↓reduceIte, Nat.reduceEqDiff, Nat.reduceAdd, Nat.reduceMul, Nat.reduceSub, Nat.reduceLT, Nat.reduceLeDiff, reduceCtorEq, Nat.reduceMod, Int.reduceEq, Int.reduceLT, Int.reduceLE, Int.reduceToNat, dite_true, e1]
        refine ⟨?_, ?_⟩
        · refine callAtoms (C := C) rfl (hC3.mono hF4) ((hX.mono hF13).atoms.mono hF4) ((hp.mono hF13).mono hF4) okA (by omega) (by omega) fun r2 F5 hF5 hr2 => ?_
          have hr2' := hr2
          obtain ⟨pr, cr, rfl, _, _, _⟩ := hr2
          simp only [push_cast, ↓reduceIte, Nat.reduceEqDiff, Nat.reduceAdd, Nat.reduceMul, Nat.reduceSub, Nat.reduceLT, Nat.reduceLeDiff, reduceCtorEq, Nat.reduceMod, Int.reduceEq, Int.reduceLT, Int.reduceLE, Int.reduceToNat, dite_true]
          refine ⟨?_, ?_⟩
          · intro b10
            exact ⟨F5, b10, pr, cr, PH.le_trans hF4 hF5, hr2', by simp [subk, Eng.look], by simp, rfl, .refl _⟩
          · intro b10
            exact ⟨F5, b10, pr, cr, PH.le_trans hF4 hF5, hr2', by simp [subk, Eng.look], by simp, rfl, .refl _⟩
        · intro b10
          refine callAtoms (C := C) rfl (hC3.mono hF4) ((hX.mono hF13).atoms.mono hF4) ((hp.mono hF13).mono hF4) okA (by omega) (by omega) fun r2 F5 hF5 hr2 => ?_
          have hr2' := hr2
          obtain ⟨pr, cr, rfl, _, _, _⟩ := hr2
          simp only [push_cast, ↓reduceIte, Nat.reduceEqDiff, Nat.reduceAdd, Nat.reduceMul, Nat.reduceSub, Nat.reduceLT, Nat.reduceLeDiff, reduceCtorEq, Nat.reduceMod, Int.reduceEq, Int.reduceLT, Int.reduceLE, Int.reduceToNat, dite_true]
          exact ⟨F5, b10, pr, cr, PH.le_trans hF4 hF5, hr2', by simp [subk, Eng.look], by simp, rfl, .refl _⟩
      · intro b10
        refine CallV.pure (P.find _ e.name hC3.tab) ?_
        rintro _ F4 hF4 rfl
        simp only [push_cast, ↓reduceIte, Nat.reduceEqDiff, Nat.reduceAdd, Nat.reduceMul, Nat.reduceSub, Nat.reduceLT, Nat.reduceLeDiff, reduceCtorEq, Nat.reduceMod, Int.reduceEq, Int.reduceLT, Int.reduceLE, Int.reduceToNat, dite_true, e1]
        refine callAtoms (C := C) rfl (hC3.mono hF4) ((hX.mono hF13).atoms.mono hF4) ((hp.mono hF13).mono hF4) okA (by omega) (by omega) fun r2 F5 hF5 hr2 => ?_
        have hr2' := hr2
        obtain ⟨pr, cr, rfl, _, _, _⟩ := hr2
        simp only [push_cast, ↓reduceIte, Nat.reduceEqDiff, Nat.reduceAdd, Nat.reduceMul, Nat.reduceSub, Nat.reduceLT, Nat.reduceLeDiff, reduceCtorEq, Nat.reduceMod, Int.reduceEq, Int.reduceLT, Int.reduceLE, Int.reduceToNat, dite_true]
        exact ⟨F5, b10, pr, cr, PH.le_trans hF4 hF5, hr2', by simp [subk, Eng.look], by simp, rfl, .refl _⟩
    rintro S' ⟨F4, b10, pr, cr, hF4, hr2, g1, g3, g4, g5⟩
    refine VC.fromT _ _ F4 _ g1 g3 g4 g5 ?_
    refine VC.go 100 ?_
    simp only [push_cast, ↓reduceIte, Nat.reduceEqDiff, Nat.reduceAdd, Nat.reduceMul, Nat.reduceSub, Nat.reduceLT, Nat.reduceLeDiff, reduceCtorEq, Nat.reduceMod, Int.reduceEq, Int.reduceLT, Int.reduceLE, Int.reduceToNat, dite_true, h1]
    refine callPut (x := ⟨6, findP e.name, l.length + (nums e.atoms).length, atomsP C l e.atoms l.length, [], [], []⟩) (Re := []) rfl rfl (.refl _) (hC3.mono hF4) (hS3.mono hF4) ⟨_, _, _, _, rfl, hr2, nil_ints _, nil_sle _ 4 _, nil_sle _ 4 _⟩ (by have := hon.ins; omega) (by simp; omega) (by simp) fun F6 vn6 rn6 hF6 hS6 => ?_
    simp only [push_cast, ↓reduceIte, Nat.reduceEqDiff, Nat.reduceAdd, Nat.reduceMul, Nat.reduceSub, Nat.reduceLT, Nat.reduceLeDiff, reduceCtorEq, Nat.reduceMod, Int.reduceEq, Int.reduceLT, Int.reduceLE, Int.reduceToNat, dite_true]
    exact RetOk.r (vs := []) rfl (RetR.own (i := 0) rfl) ⟨vi, vn6, vq, ri, rn6, rq, rfl, hS6, trivial⟩
  by_cases h5 : e.kind = 5
  · refine VC.go 100 ?_
    simp only [push_cast, ↓reduceIte, Nat.reduceEqDiff, Nat.reduceAdd, Nat.reduceMul, Nat.reduceSub, Nat.reduceLT, Nat.reduceLeDiff, reduceCtorEq, Nat.reduceMod, Int.reduceEq, Int.reduceLT, Int.reduceLE, Int.reduceToNat, dite_true, hbig', h4, h2, h1, h3, eq_true h5, Bool.false_eq_true]
    intro b
    refine callS (s' := layLet C e l s) (Re := []) hbig'.symm rfl (.refl _) (hL h5 F sb i vc vg mc mt vi vn vq ri rn rq s l _ _ _ _ _ hX hp hC hS (by rw [okX_eq]; exact ⟨ok1, ok2, ok3, ok5, ok6⟩) ⟨fi1, fi2, fi3, fi4⟩) fun v' F1 vi1 vn1 vq1 ri1 rn1 rq1 hF1 hS1 _ => ?_
    simp only [push_cast, ↓reduceIte, Nat.reduceEqDiff, Nat.reduceAdd, Nat.reduceMul, Nat.reduceSub, Nat.reduceLT, Nat.reduceLeDiff, reduceCtorEq, Nat.reduceMod, Int.reduceEq, Int.reduceLT, Int.reduceLE, Int.reduceToNat, dite_true]
    exact RetOk.r (vs := []) rfl (RetR.own (i := 0) rfl) ⟨vi1, vn1, vq1, ri1, rn1, rq1, rfl, hS1, trivial⟩
  by_cases h6 : e.kind = 6
  · refine VC.go 100 ?_
    simp only [push_cast, ↓reduceIte, Nat.reduceEqDiff, Nat.reduceAdd, Nat.reduceMul, Nat.reduceSub, Nat.reduceLT, Nat.reduceLeDiff, reduceCtorEq, Nat.reduceMod, Int.reduceEq, Int.reduceLT, Int.reduceLE, Int.reduceToNat, dite_true, hbig', h4, h2, h1, h3, h5, eq_true h6, Bool.false_eq_true]
    intro b
    refine callS (s' := layCase C e l s) (Re := []) hbig'.symm rfl (.refl _) (hK h6 F sb i vc vg mc mt vi vn vq ri rn rq s l _ _ _ _ _ hX hp hC hS (by rw [okX_eq]; exact ⟨ok1, ok2, ok3, ok5, ok6⟩) ⟨fi1, fi2, fi3, fi4⟩) fun v' F1 vi1 vn1 vq1 ri1 rn1 rq1 hF1 hS1 _ => ?_
    simp only [push_cast, ↓reduceIte, Nat.reduceEqDiff, Nat.reduceAdd, Nat.reduceMul, Nat.reduceSub, Nat.reduceLT, Nat.reduceLeDiff, reduceCtorEq, Nat.reduceMod, Int.reduceEq, Int.reduceLT, Int.reduceLE, Int.reduceToNat, dite_true]
    exact RetOk.r (vs := []) rfl (RetR.own (i := 0) rfl) ⟨vi1, vn1, vq1, ri1, rn1, rq1, rfl, hS1, trivial⟩
  · refine VC.go 100 ?_
    simp only [push_cast, ↓reduceIte, Nat.reduceEqDiff, Nat.reduceAdd, Nat.reduceMul, Nat.reduceSub, Nat.reduceLT, Nat.reduceLeDiff, reduceCtorEq, Nat.reduceMod, Int.reduceEq, Int.reduceLT, Int.reduceLE, Int.reduceToNat, dite_true, hbig', h4, h2, h1, h3, h5, h6, Bool.false_eq_true]
    intro b
    exact RetOk.r (vs := []) rfl (RetR.own (i := 0) rfl) ⟨vi, vn, vq, ri, rn, rq, by rw [hbig'], hS, trivial⟩
end Go.Proofs.YtoepmdbicdoieaaDoor.W
