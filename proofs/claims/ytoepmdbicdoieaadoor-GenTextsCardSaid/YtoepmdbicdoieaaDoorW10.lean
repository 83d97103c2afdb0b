/- gen: a case is laid. -/
import Derived.Test.YtoepmdbicdoieaaDoorW9
namespace Go.Proofs.YtoepmdbicdoieaaDoor.W
open Go Go.Eng Go.Proofs Go.Proofs.YtoepmdbicdoieaaDoor.T Go.Proofs.YtoepmdbicdoieaaDoor.K Go.Proofs.YtoepmdbicdoieaaDoor.U
open Go.Proofs.YtoepmdbicdoieaaDoor.V (within within_all within_len WithinOk classOf fieldOf)
set_option linter.unusedSimpArgs false
set_option linter.unusedVariables false
set_option maxRecDepth 100000
set_option maxHeartbeats 4000000
theorem keep_known (C : Env) (l : List ByteArray) (ls : List Alt) : ∀ s ∈ keepL l ls, Known C l s := by
  have h1 : ∀ (own names keep : List ByteArray), (∀ s ∈ names, Known C l s) → (∀ s ∈ keep, Known C l s) → ∀ s ∈ names.foldl (keep1 own) keep, Known C l s := by
    intro own names
    induction names with
    | nil => intro keep _ hk; exact hk
    | cons x names ih =>
      intro keep hn hk
      refine ih _ (fun s hs => hn s (List.mem_cons_of_mem _ hs)) fun s hs => ?_
      unfold keep1 at hs
      split at hs
      · exact hk s hs
      · rcases List.mem_append.1 hs with hs | hs
        · exact hk s hs
        · rw [List.mem_singleton.1 hs]; exact hn x List.mem_cons_self
  have h2 : ∀ (ls : List Alt) (keep : List ByteArray), (∀ s ∈ keep, Known C l s) → ∀ s ∈ ls.foldl (keepA l) keep, Known C l s := by
    intro ls
    induction ls with
    | nil => intro keep hk; exact hk
    | cons a ls ih =>
      intro keep hk
      exact ih _ (h1 _ _ _ (here_known (within_ne _)) hk)
  exact h2 ls [] (fun s h => nomatch h)
theorem sizeS_len : ∀ l : List ByteArray, l.length ≤ sizeS l
  | [] => by simp
  | a :: l => by have := sizeS_len l; simp only [sizeS, List.length_cons]; omega
theorem sizeLs_count : ∀ l : List Alt, l.length ≤ sizeLs l
  | [] => by simp
  | a :: l => by have := sizeLs_count l; have := V.asize_eq a; simp only [sizeLs, List.length_cons]; omega
theorem layAlt_eq (C : Env) (keep : List ByteArray) (a : Alt) (t : Ars) : layAlt C keep a t = ⟨t.arms ++ [⟨a.kind, if a.kind = 1 then conD C.ds a.name else 0, if a.kind = 2 then a.n else 0, t.s.ins.length⟩], layE C a.body (armIn keep a.kind a.name a.vars) t.s⟩ := by cases a; simp only [layAlt]; rfl
theorem okL_eq (C : Env) (keep : List ByteArray) (a : Alt) : okL C keep a = okX C (armIn keep a.kind a.name a.vars) a.body := by cases a; simp only [okL]; rfl
theorem layAlts_arms (C : Env) (keep : List ByteArray) : ∀ (ls : List Alt) (t : Ars), (layAlts C keep ls t).arms.length = t.arms.length + ls.length
  | [], t => by simp [layAlts]
  | a :: ls, t => by simp only [layAlts]; rw [layAlts_arms C keep ls, layAlt_eq]; simp; omega
theorem sizeLs_take_at : ∀ (ls : List Alt) (k : Nat) (h : k < ls.length), sizeLs (ls.take k) + (ls[k]).size ≤ sizeLs ls
  | a :: ls, 0, _ => by simp [sizeLs]
  | a :: ls, k + 1, h => by
    have := sizeLs_take_at ls k (by simpa using h)
    simp only [List.take_succ_cons, sizeLs, List.getElem_cons_succ]
    omega
theorem cases_ok (C : Env) (e : Exp) (h6 : e.kind = 6) (hE : ∀ e' : Exp, e'.size < e.size → GenE C e') : GenX 87 layCase C e := by
  intro F sb i vc vg mc mt vi vn vq ri rn rq s l v va vb ve vl hX hp hC hS hok hfit
  rw [okX_eq] at hok
  obtain ⟨hkids, okk, okl⟩ := hok.2.2.2.2 h6
  obtain ⟨fi1, fi2, fi3, fi4⟩ := hfit
  obtain ⟨e0, es0, hk0⟩ : ∃ a b, e.kids = a :: b := by cases hc : e.kids with | nil => exact absurd hc hkids | cons a b => exact ⟨a, b, rfl⟩
  obtain ⟨pa, ca, pb, cb, pe, ce, pl, cl, rfl, rfl, rfl, rfl⟩ := hX.slices
  obtain ⟨mb, rfl⟩ := hp.val
  have hse := V.size_eq e
  have hes : e0.size ≤ sizeEs e.kids := by rw [hk0]; simp [sizeEs]
  obtain ⟨q, _, cs, eq, _, _, kl, kr⟩ := hX.kids.elem (by decide) (i := 0) (a := e0) (by rw [hk0]; rfl) (fun _ _ h => h.len)
  cases eq
  obtain ⟨wa, wb, we, wl, rfl, wx⟩ := RExp_iff.1 kr
  have hkl : (0 : Int) < (e.kids.length : Int) := by rw [hk0, List.length_cons]; omega
  have hwk : V.withinKid e.kids = within e0 := by rw [hk0]; rfl
  have hwl := within_len e0
  have hhl := here_len l (within e0)
  have hkp := keepL_len l e.alts []
  have hkp' : (keepL l e.alts).length ≤ sizeLs e.alts := by simpa [keepL] using hkp
  unfold SchFn
  refine SFn.intro (n := 146) (ts := []) Tryd.func87 rfl rfl rfl rfl (by simp) fun B hB => VC.go 3 ?_
  simp only [push_cast, ↓reduceIte, Nat.reduceEqDiff, Nat.reduceAdd, Nat.reduceMul, Nat.reduceSub, Nat.reduceLT, Nat.reduceLeDiff, reduceCtorEq, Nat.reduceMod, Int.reduceEq, Int.reduceLT, Int.reduceLE, Int.reduceToNat, dite_true]
  intro b
  refine VC.draw (.q 0 (.q 1 (.q 2 (.q 3 (.q 5 (.q 7 (.q 8 (.q 9 (.e 4 (.e 6 (.e 10 (.q 11 (.q 12 (.done)))))))))))))) mixed (by rfl) ?_
  simp only [push_cast, ↓reduceIte, Nat.reduceEqDiff, Nat.reduceAdd, Nat.reduceMul, Nat.reduceSub, Nat.reduceLT, Nat.reduceLeDiff, reduceCtorEq, Nat.reduceMod, Int.reduceEq, Int.reduceLT, Int.reduceLE, Int.reduceToNat, dite_true, hkl, kl]
  refine CallV.sl (within_all _ e0 rfl (by omega) F _ _ _ _ wx) fun w1 F1 n1 hF1 hl1 hs1 => ?_
  have hw1 := sl_strs hl1 hs1
  simp only [push_cast, ↓reduceIte, Nat.reduceEqDiff, Nat.reduceAdd, Nat.reduceMul, Nat.reduceSub, Nat.reduceLT, Nat.reduceLeDiff, reduceCtorEq, Nat.reduceMod, Int.reduceEq, Int.reduceLT, Int.reduceLE, Int.reduceToNat, dite_true]
  refine CallV.sl (locals F1 w1 _ (within e0) l hw1 (hp.mono hF1) (within_ne _) (by omega)) fun w2 F2 n2 hF2 hl2 hs2 => ?_
  have hw2 := sl_strs hl2 hs2
  have hF12 := PH.le_trans hF1 hF2
  simp only [push_cast, ↓reduceIte, Nat.reduceEqDiff, Nat.reduceAdd, Nat.reduceMul, Nat.reduceSub, Nat.reduceLT, Nat.reduceLeDiff, reduceCtorEq, Nat.reduceMod, Int.reduceEq, Int.reduceLT, Int.reduceLE, Int.reduceToNat, dite_true]
  refine CallV.sl (kept F2 _ _ e.alts l (hX.alts.mono hF12 fun _ _ _ h => h.mono hF12) (hp.mono hF12) (by omega)) fun w3 F3 n3 hF3 hl3 hs3 => ?_
  have hw3 := sl_strs hl3 hs3
  have hF13 := PH.le_trans hF12 hF3
  simp only [push_cast, ↓reduceIte, Nat.reduceEqDiff, Nat.reduceAdd, Nat.reduceMul, Nat.reduceSub, Nat.reduceLT, Nat.reduceLeDiff, reduceCtorEq, Nat.reduceMod, Int.reduceEq, Int.reduceLT, Int.reduceLE, Int.reduceToNat, dite_true]
  rw [← hwk] at hw2 hhl hwl
  have hne := here_known (C := C) (l := l) (names := V.withinKid e.kids) (by rw [hwk]; exact within_ne _)
  have hkne : ∀ s ∈ keepL l e.alts, Known C l s := keep_known C l e.alts
  refine VC.go 3 ?_
  simp only [push_cast, ↓reduceIte, Nat.reduceEqDiff, Nat.reduceAdd, Nat.reduceMul, Nat.reduceSub, Nat.reduceLT, Nat.reduceLeDiff, reduceCtorEq, Nat.reduceMod, Int.reduceEq, Int.reduceLT, Int.reduceLE, Int.reduceToNat, dite_true]
  refine callAll (C := C) rfl (hC.mono hF13) (hw2.mono hF3) (hp.mono hF13) hne (by omega) fun r4 F4 hF4 hr4 => ?_
  have hr4' := hr4
  obtain ⟨p4, c4, rfl, _, _, _⟩ := hr4
  simp only [push_cast, ↓reduceIte, Nat.reduceEqDiff, Nat.reduceAdd, Nat.reduceMul, Nat.reduceSub, Nat.reduceLT, Nat.reduceLeDiff, reduceCtorEq, Nat.reduceMod, Int.reduceEq, Int.reduceLT, Int.reduceLE, Int.reduceToNat, dite_true]
  refine callAll (C := C) rfl (hC.mono (PH.le_trans hF13 hF4)) (hw3.mono hF4) (hp.mono (PH.le_trans hF13 hF4)) hkne (by omega) fun r5 F5 hF5 hr5 => ?_
  have hr5' := hr5
  obtain ⟨p5, c5, rfl, _, _, _⟩ := hr5
  have hF15 := PH.le_trans (PH.le_trans hF13 hF4) hF5
  simp only [push_cast, ↓reduceIte, Nat.reduceEqDiff, Nat.reduceAdd, Nat.reduceMul, Nat.reduceSub, Nat.reduceLT, Nat.reduceLeDiff, reduceCtorEq, Nat.reduceMod, Int.reduceEq, Int.reduceLT, Int.reduceLE, Int.reduceToNat, dite_true]
  refine callPut (x := ⟨4, 0, l.length, (here l (V.withinKid e.kids)).map (place C l), (keepL l e.alts).map (place C l), [], []⟩) (Re := []) rfl rfl (.refl _) (hC.mono hF15) (hS.mono hF15) ⟨_, _, _, _, rfl, hr4'.mono hF5, hr5', nil_sle _ 4 _, nil_sle _ 4 _⟩ (by omega) (by simp; omega) (by simp) fun F6 vn6 rn6 hF6 hS6 => ?_
  have hF16 := PH.le_trans hF15 hF6
  simp only [push_cast, ↓reduceIte, Nat.reduceEqDiff, Nat.reduceAdd, Nat.reduceMul, Nat.reduceSub, Nat.reduceLT, Nat.reduceLeDiff, reduceCtorEq, Nat.reduceMod, Int.reduceEq, Int.reduceLT, Int.reduceLE, Int.reduceToNat, dite_true]
  obtain ⟨p2, c2, rfl, h21, h22, h23⟩ := hw2
  have hw2 : Strs F2 (.slice p2 (here l (V.withinKid e.kids)).length c2) (here l (V.withinKid e.kids)) := ⟨p2, c2, rfl, h21, h22, h23⟩
  have okk0 : okX C (here l (V.withinKid e.kids)) e0 := by rw [hk0] at okk ⊢; exact okk
  refine VC.draw (.q 0 (.q 1 (.q 2 (.q 3 (.q 4 (.q 6 (.q 8 (.q 9 (.e 5 (.e 7 (.es 10 [1, 2, 3, 6, 8] (.done)))))))))))) mixed (by rfl) ?_
  simp only [push_cast, ↓reduceIte, Nat.reduceEqDiff, Nat.reduceAdd, Nat.reduceMul, Nat.reduceSub, Nat.reduceLT, Nat.reduceLeDiff, reduceCtorEq, Nat.reduceMod, Int.reduceEq, Int.reduceLT, Int.reduceLE, Int.reduceToNat, dite_true, hkl, hF16.cells kl]
  refine Eff.makeMapF rfl fun b7 F7 hF7 hb7 => ?_
  simp only [push_cast, ↓reduceIte, Nat.reduceEqDiff, Nat.reduceAdd, Nat.reduceMul, Nat.reduceSub, Nat.reduceLT, Nat.reduceLeDiff, reduceCtorEq, Nat.reduceMod, Int.reduceEq, Int.reduceLT, Int.reduceLE, Int.reduceToNat, dite_true]
  refine CallV.pure (with0 F7 b7 _ _ hb7 (hw2.mono (PH.le_trans hF3 (PH.le_trans hF4 (PH.le_trans hF5 (PH.le_trans hF6 hF7))))) (by omega)) fun r8 F8 hF8 hr8 => ?_
  obtain ⟨mb8, rfl⟩ := hr8.val
  simp only [push_cast, ↓reduceIte, Nat.reduceEqDiff, Nat.reduceAdd, Nat.reduceMul, Nat.reduceSub, Nat.reduceLT, Nat.reduceLeDiff, reduceCtorEq, Nat.reduceMod, Int.reduceEq, Int.reduceLT, Int.reduceLE, Int.reduceToNat, dite_true]
  have hF68 := PH.le_trans hF7 hF8
  have hlen0 : 2 * e0.size + 2 * sizeLs e.alts + 2 ≤ 2 * e.size := by omega
  refine callS (Re := []) rfl rfl (.refl _) (hE e0 (by omega) F8 sb i vc vg mc mt vi vn6 vq ri rn6 rq (caseS C e.kids e.alts l s) (here l (V.withinKid e.kids)) _ _ _ _ _ (wx.mono (PH.le_trans hF16 hF68)) hr8 (hC.mono (PH.le_trans hF16 hF68)) (hS6.mono hF68) okk0 ⟨by simp [caseS, putS]; omega, by simp [caseS, putS]; omega, by omega, by omega⟩) fun v9 F9 vi9 vn9 vq9 ri9 rn9 rq9 hF9 hS9 _ => ?_
  have hF19 := PH.le_trans (PH.le_trans hF16 hF68) hF9
  simp only [push_cast, ↓reduceIte, Nat.reduceEqDiff, Nat.reduceAdd, Nat.reduceMul, Nat.reduceSub, Nat.reduceLT, Nat.reduceLeDiff, reduceCtorEq, Nat.reduceMod, Int.reduceEq, Int.reduceLT, Int.reduceLE, Int.reduceToNat, dite_true, hkl, hF19.cells kl]
  obtain ⟨s2, hs2⟩ : ∃ s2, s2 = layKid C e.kids (here l (V.withinKid e.kids)) (caseS C e.kids e.alts l s) := ⟨_, rfl⟩
  have hl2 : ∀ (ks : List Exp), ks = e0 :: es0 → ∀ (l' : List ByteArray) (s' : Sc), layKid C ks l' s' = layE C e0 l' s' := fun ks h l' s' => by subst h; simp only [layKid]
  rw [hl2 e.kids hk0] at hs2
  rw [← hs2] at hS9 ⊢
  have hon := layE_on C e0 (here l (V.withinKid e.kids)) (caseS C e.kids e.alts l s)
  rw [← hs2] at hon
  have hoi := hon.ins
  have hof := hon.infos
  have hci : (caseS C e.kids e.alts l s).ins.length = s.ins.length + 1 := by simp [caseS, putS]
  have hcf : (caseS C e.kids e.alts l s).infos.length = s.infos.length := by simp [caseS, putS]
  rw [hci] at hoi
  rw [hcf] at hof
  obtain ⟨p3, c3, rfl, h31, h32, h33⟩ := hw3
  have hw3 : Strs F3 (.slice p3 (keepL l e.alts).length c3) (keepL l e.alts) := ⟨p3, c3, rfl, h31, h32, h33⟩
  have e5 : IntKind.i64.wrap (((keepL l e.alts).length : Int) + 1) = (keepL l e.alts).length + 1 := w64 _ (by omega)
  refine VC.go 4 ?_
  simp only [push_cast, ↓reduceIte, Nat.reduceEqDiff, Nat.reduceAdd, Nat.reduceMul, Nat.reduceSub, Nat.reduceLT, Nat.reduceLeDiff, reduceCtorEq, Nat.reduceMod, Int.reduceEq, Int.reduceLT, Int.reduceLE, Int.reduceToNat, dite_true, e5]
  refine callPut (x := ⟨5, 0, (keepL l e.alts).length + 1, [], [], [], []⟩) (Re := []) rfl rfl (.refl _) (hC.mono hF19) hS9 ⟨_, _, _, _, rfl, nil_ints _, nil_ints _, nil_sle _ 4 _, nil_sle _ 4 _⟩ (by omega) (by simp; omega) (by simp) fun F10 vn10 rn10 hF10 hS10 => ?_
  have hF110 := PH.le_trans hF19 hF10
  simp only [push_cast, ↓reduceIte, Nat.reduceEqDiff, Nat.reduceAdd, Nat.reduceMul, Nat.reduceSub, Nat.reduceLT, Nat.reduceLeDiff, reduceCtorEq, Nat.reduceMod, Int.reduceEq, Int.reduceLT, Int.reduceLE, Int.reduceToNat, dite_true]
  obtain ⟨xs, hrow, hes'⟩ := hS10.ins
  have hxs := hes'.len (fun _ _ h => h.len)
  have hpl : (putS s2 ⟨5, 0, (keepL l e.alts).length + 1, [], [], [], []⟩).ins.length = s2.ins.length + 1 := by simp [putS]
  obtain ⟨pg, mg, cg, rfl, m1, m2, m3⟩ := hrow.has (by intro h0; rw [h0, hpl, List.length_nil] at hxs; omega)
  have hmg : mg = s2.ins.length + 1 := by rw [hxs, hpl] at m1; omega
  subst hmg
  refine VC.rowM (i := 7) (Rf := [ri9, rq9]) (List.Perm.swap _ _ _) hrow fun g csg hpg hcl hmc hcm hct => ?_
  subst hpg
  have hlt : s.ins.length * 7 + 1 < csg.length := by rw [hcl]; omega
  have hlt2 : (s.ins.length : Int) < ((s2.ins.length : Int) + 1) := by omega
  have hlt3 : (0 : Int) ≤ (s.ins.length : Int) := by omega
  refine VC.go 2 ?_
  simp only [push_cast, ↓reduceIte, Nat.reduceEqDiff, Nat.reduceAdd, Nat.reduceMul, Nat.reduceSub, Nat.reduceLT, Nat.reduceLeDiff, reduceCtorEq, Nat.reduceMod, Int.reduceEq, Int.reduceLT, Int.reduceLE, Int.reduceToNat, dite_true, add_own, Nat.zero_add, hlt, hlt2, hlt3]
  refine VC.toR (m := ⟨7, g, 89, csg.set (s.ins.length * 7 + 1) (i64v s2.ins.length)⟩) (.refl _) [(12, .v (i64v s2.ins.length)), (11, .v (i64v (keepL l e.alts).length)), (9, .v (.slice p3 (keepL l e.alts).length c3)), (5, .o 1 b 0), (0, .o 0 sb 0)] (by simp [subv, Eng.look, AV.val]) ?_
  have hS11 : Sch F10 sb i (armsS s2 s.ins.length (keepL l e.alts)) vi9 (.slice (some ⟨g, 0, none⟩) (s2.ins.length + 1) cg) vq9 ri9 (cell1 g 89 (csg.set (s.ins.length * 7 + 1) (i64v s2.ins.length))) rq9 := by
    have e9 : armsS s2 s.ins.length (keepL l e.alts) = setA (putS s2 ⟨5, 0, (keepL l e.alts).length + 1, [], [], [], []⟩) s.ins.length s2.ins.length := (setA_put (by omega)).symm
    rw [e9]
    refine ⟨hS10.infos, ?_, hS10.queue, hS10.e1, hS10.e2, hS10.le⟩
    exact RowE.set (by decide) (fun _ _ h => h.len) (by decide) (fun x c hc => by obtain ⟨vl, vk, vm, va, rfl, k1, k2, k3, k4⟩ := hc; exact ⟨vl, vk, vm, va, rfl, k1, k2, k3, k4⟩) (by omega) hcl hmc hcm (by rw [hct]; exact hes') hpl.symm
  have hb3 : (armsS s2 s.ins.length (keepL l e.alts)).big = (putS s2 ⟨5, 0, (keepL l e.alts).length + 1, [], [], [], []⟩).big := rfl
  rw [← hb3]
  have hi3 : (armsS s2 s.ins.length (keepL l e.alts)).ins.length = s2.ins.length + 1 := by simp [armsS, putS, setA]
  have hf3 : (armsS s2 s.ins.length (keepL l e.alts)).infos.length = s2.infos.length := by simp [armsS, putS, setA]
  obtain ⟨_, _, ha1, ha2, ha3⟩ := hX.alts.val
  cases ha1
  refine VC.emp (VC.go 2 ?_)
  simp only [push_cast, ↓reduceIte, Nat.reduceEqDiff, Nat.reduceAdd, Nat.reduceMul, Nat.reduceSub, Nat.reduceLT, Nat.reduceLeDiff, reduceCtorEq, Nat.reduceMod, Int.reduceEq, Int.reduceLT, Int.reduceLE, Int.reduceToNat, dite_true]
  refine VC.seq (VC.cutW (ι := PH × Value × Value × Value × Value × PH × PH × PH × PH) (fun j => [(13, .v j.2.1), (12, .v (i64v s2.ins.length)), (11, .v (i64v (keepL l e.alts).length)), (9, .v (.slice p3 (keepL l e.alts).length c3)), (5, .o 1 b 0), (0, .o 0 sb 0)]) (fun j => [⟨0, sb, 70, schC vc vg j.2.2.1 j.2.2.2.1 mc mt j.2.2.2.2.1 (layAlts C (keepL l e.alts) e.alts ⟨[], armsS s2 s.ins.length (keepL l e.alts)⟩).s.big⟩, ⟨1, b, 49, expCells e (.slice pa e.atoms.length ca) (.slice pb e.binds.length cb) (.slice (some q) e.kids.length ce) (.slice pl e.alts.length cl)⟩]) (fun j => j.1) (fun j => [j.2.2.2.2.2.1, j.2.2.2.2.2.2.1, j.2.2.2.2.2.2.2.1, j.2.2.2.2.2.2.2.2])
    (fun j => F10.le j.1 ∧ RowE j.2.2.2.2.2.1 138 4 RArm j.2.1 (layAlts C (keepL l e.alts) e.alts ⟨[], armsS s2 s.ins.length (keepL l e.alts)⟩).arms ∧ Sch j.1 sb i (layAlts C (keepL l e.alts) e.alts ⟨[], armsS s2 s.ins.length (keepL l e.alts)⟩).s j.2.2.1 j.2.2.2.1 j.2.2.2.2.1 j.2.2.2.2.2.2.1 j.2.2.2.2.2.2.2.1 j.2.2.2.2.2.2.2.2) (fun G hG => ?_) ?_)
  · refine VC.go 100 ?_
    simp only [push_cast, ↓reduceIte, Nat.reduceEqDiff, Nat.reduceAdd, Nat.reduceMul, Nat.reduceSub, Nat.reduceLT, Nat.reduceLeDiff, reduceCtorEq, Nat.reduceMod, Int.reduceEq, Int.reduceLT, Int.reduceLE, Int.reduceToNat, dite_true]
    refine VC.loopW (ι := Nat × PH × Value × Value × Value × Value × PH × PH × PH × PH) (fun j => [(72, .v (i64v j.1)), (71, .v (i64v e.alts.length)), (70, .v (.slice pl e.alts.length cl)), (13, .v j.2.2.1), (12, .v (i64v s2.ins.length)), (11, .v (i64v (keepL l e.alts).length)), (9, .v (.slice p3 (keepL l e.alts).length c3)), (5, .o 1 b 0), (0, .o 0 sb 0)]) (fun j => [⟨0, sb, 70, schC vc vg j.2.2.2.1 j.2.2.2.2.1 mc mt j.2.2.2.2.2.1 (layAlts C (keepL l e.alts) (e.alts.take j.1) ⟨[], armsS s2 s.ins.length (keepL l e.alts)⟩).s.big⟩, ⟨1, b, 49, expCells e (.slice pa e.atoms.length ca) (.slice pb e.binds.length cb) (.slice (some q) e.kids.length ce) (.slice pl e.alts.length cl)⟩]) (fun j => j.2.1) (fun j => [j.2.2.2.2.2.2.1, j.2.2.2.2.2.2.2.1, j.2.2.2.2.2.2.2.2.1, j.2.2.2.2.2.2.2.2.2])
      (fun j => j.1 ≤ e.alts.length ∧ F10.le j.2.1 ∧ RowE j.2.2.2.2.2.2.1 138 4 RArm j.2.2.1 (layAlts C (keepL l e.alts) (e.alts.take j.1) ⟨[], armsS s2 s.ins.length (keepL l e.alts)⟩).arms ∧ Sch j.2.1 sb i (layAlts C (keepL l e.alts) (e.alts.take j.1) ⟨[], armsS s2 s.ins.length (keepL l e.alts)⟩).s j.2.2.2.1 j.2.2.2.2.1 j.2.2.2.2.2.1 j.2.2.2.2.2.2.2.1 j.2.2.2.2.2.2.2.2.1 j.2.2.2.2.2.2.2.2.2) (fun j => e.alts.length - j.1)
      (0, F10, .slice none 0 0, vi9, .slice (some ⟨g, 0, none⟩) (s2.ins.length + 1) cg, vq9, PH.emp, ri9, cell1 g 89 (csg.set (s.ins.length * 7 + 1) (i64v s2.ins.length)), rq9) ⟨Nat.zero_le _, PH.le_refl _, RowE.nil _ _ _, hS11⟩ (by simp [subk, Eng.look]) (List.Sublist.refl _) rfl (subR_perm (.cons _ (List.Perm.swap _ _ _))) ?_
    rintro ⟨k, F11, vl, vi11, vn11, vq11, rl, ri11, rn11, rq11⟩ ⟨hk, hF11, hrl, hS11⟩ G1 hG1
    dsimp only at hk hF11 hrl hS11 hG1 ⊢
    by_cases h : k < e.alts.length
    case neg =>
      have h' : ¬ (k : Int) < (e.alts.length : Int) := by omega
      have htk : e.alts.take k = e.alts := List.take_of_length_le (by omega)
      rw [htk] at hrl hS11 ⊢
      refine VC.go 100 ?_
      simp only [push_cast, ↓reduceIte, Nat.reduceEqDiff, Nat.reduceAdd, Nat.reduceMul, Nat.reduceSub, Nat.reduceLT, Nat.reduceLeDiff, reduceCtorEq, Nat.reduceMod, Int.reduceEq, Int.reduceLT, Int.reduceLE, Int.reduceToNat, dite_true, h']
      exact hG (F11, vl, vi11, vn11, vq11, rl, ri11, rn11, rq11) _ ⟨hF11, hrl, hS11⟩ (by simp [subk, Eng.look]) (List.Sublist.refl _) rfl (subR_refl _)
    have h' : (k : Int) < (e.alts.length : Int) := by omega
    have h0 : (0 : Int) ≤ (k : Int) := by omega
    have hF011 := PH.le_trans hF110 hF11
    obtain ⟨q2, _, cs2, eq, _, _, kl2, kr2⟩ := (hX.alts.mono (R' := RAlt F11) hF011 (fun _ _ _ h => h.mono hF011)).elem (by decide) (i := k) (a := e.alts[k]) (List.getElem?_eq_getElem h) (fun _ _ h => h.len)
    cases eq
    obtain ⟨va2, c2', rfl, hva, hvc⟩ := RAlt_iff.1 kr2
    obtain ⟨wa2, wb2, we2, wl2, rfl, wx2⟩ := RExp_iff.1 hvc
    have wx2' := wx2
    obtain ⟨pa2, ca2, pb2, cb2, pe2, ce2, pl2, cl2, rfl, rfl, rfl, rfl⟩ := wx2.slices
    have hva' := hva
    obtain ⟨pv, cv, rfl, _, _, _⟩ := hva
    have e2 : IntKind.i64.wrap ((k : Int) + 1) = ((k + 1 : Nat) : Int) := wadd k h (Nat.le_trans ha2 ha3)
    have hbm : (e.alts[k]).size ≤ sizeLs e.alts := V.sizeLs_mem (List.getElem_mem h)
    have hbq := V.asize_eq (e.alts[k])
    have honk := layAlts_on C (keepL l e.alts) (e.alts.take k) ⟨[], armsS s2 s.ins.length (keepL l e.alts)⟩
    have hstep : (layAlts C (keepL l e.alts) (e.alts.take (k + 1)) ⟨[], armsS s2 s.ins.length (keepL l e.alts)⟩) = layAlt C (keepL l e.alts) (e.alts[k]) (layAlts C (keepL l e.alts) (e.alts.take k) ⟨[], armsS s2 s.ins.length (keepL l e.alts)⟩) := by rw [List.take_succ_eq_append_getElem h, layAlts_append]; simp only [layAlts]
    have hsum : sizeLs (e.alts.take k) + (e.alts[k]).size ≤ sizeLs e.alts := sizeLs_take_at e.alts k h
    have okl' := okLs_mem okl _ (List.getElem_mem h)
    have hki := honk.ins
    have hkf := honk.infos
    dsimp only at hki hkf
    rw [hi3] at hki
    rw [hf3] at hkf
    generalize ht : (layAlts C (keepL l e.alts) (e.alts.take k) ⟨[], armsS s2 s.ins.length (keepL l e.alts)⟩) = t at hrl hS11 hstep hki hkf ⊢
    obtain ⟨pn, cn, rfl, hn1, hn2⟩ := hS11.ins.val (by decide) (fun _ _ h => h.len)
    have e6 : IntKind.i64.wrap (((keepL l e.alts).length : Int) + 1) = (keepL l e.alts).length + 1 := w64 _ (by omega)
    have hkk := hw3.mono (PH.le_trans hF4 (PH.le_trans hF5 (PH.le_trans hF6 (PH.le_trans hF68 (PH.le_trans hF9 (PH.le_trans hF10 hF11))))))
    refine VC.go 12 ?_
    simp only [push_cast, ↓reduceIte, Nat.reduceEqDiff, Nat.reduceAdd, Nat.reduceMul, Nat.reduceSub, Nat.reduceLT, Nat.reduceLeDiff, reduceCtorEq, Nat.reduceMod, Int.reduceEq, Int.reduceLT, Int.reduceLE, Int.reduceToNat, dite_true, h', h0, kl2]
    intro b15
    refine Eff.makeMapF rfl fun b76 F12 hF12 hb76 => ?_
    simp only [push_cast, ↓reduceIte, Nat.reduceEqDiff, Nat.reduceAdd, Nat.reduceMul, Nat.reduceSub, Nat.reduceLT, Nat.reduceLeDiff, reduceCtorEq, Nat.reduceMod, Int.reduceEq, Int.reduceLT, Int.reduceLE, Int.reduceToNat, dite_true]
    refine CallV.pure (with0 F12 b76 _ _ hb76 (hkk.mono hF12) (by omega)) fun r16 F13 hF13 hr16 => ?_
    obtain ⟨mb16, rfl⟩ := hr16.val
    have hF113 := PH.le_trans hF12 hF13
    simp only [push_cast, ↓reduceIte, Nat.reduceEqDiff, Nat.reduceAdd, Nat.reduceMul, Nat.reduceSub, Nat.reduceLT, Nat.reduceLeDiff, reduceCtorEq, Nat.reduceMod, Int.reduceEq, Int.reduceLT, Int.reduceLE, Int.reduceToNat, dite_true]
    refine VC.drawT (fun S' => ∃ b17, subk S'.L [(17, .o 3 b17 0), (16, .v (.map (some mb16))), (15, .o 2 b15 0), (72, .v (i64v k)), (71, .v (i64v e.alts.length)), (70, .v (.slice (some q2) e.alts.length cl)), (13, .v vl), (12, .v (i64v s2.ins.length)), (11, .v (i64v (keepL l e.alts).length)), (9, .v (.slice p3 (keepL l e.alts).length c3)), (5, .o 1 b 0), (0, .o 0 sb 0)] ∧ [Own.mk 0 sb 70 (schC vc vg vi11 (.slice pn t.s.ins.length cn) mc mt vq11 t.s.big), ⟨1, b, 49, expCells e (.slice pa e.atoms.length ca) (.slice pb e.binds.length cb) (.slice (some q) e.kids.length ce) (.slice (some q2) e.alts.length cl)⟩, ⟨2, b15, 148, (i64v (e.alts[k]).kind :: i64v (e.alts[k]).at_ :: .string (e.alts[k]).name :: i64v (e.alts[k]).n :: .slice pv (e.alts[k]).vars.length cv :: expCells (e.alts[k]).body (.slice pa2 (e.alts[k]).body.atoms.length ca2) (.slice pb2 (e.alts[k]).body.binds.length cb2) (.slice pe2 (e.alts[k]).body.kids.length ce2) (.slice pl2 (e.alts[k]).body.alts.length cl2))⟩, ⟨3, b17, 138, [i64v (e.alts[k]).kind, i64v 0, i64v 0, i64v t.s.ins.length]⟩].Sublist S'.M ∧ S'.F = F13 ∧ S'.R.Perm [rl, ri11, rn11, rq11])
      (.q 0 (.q 1 (.q 2 (.q 3 (.q 4 (.q 5 (.q 6 (.q 7 (.e2 8 (.e 9 (.e 10 (.done))) 9 (.e 8 (.e 10 (.done)))))))))))) mixed (by rfl) ?_ ?_
    · simp only [push_cast, ↓reduceIte, Nat.reduceEqDiff, Nat.reduceAdd, Nat.reduceMul, Nat.reduceSub, Nat.reduceLT, Nat.reduceLeDiff, reduceCtorEq, Nat.reduceMod, Int.reduceEq, Int.reduceLT, Int.reduceLE, Int.reduceToNat, dite_true]
      refine ⟨fun b17 => ⟨b17, by simp [subk, Eng.look], by simp, .refl _⟩, fun b17 => ⟨b17, by simp [subk, Eng.look], by simp, .refl _⟩⟩
    rintro S' ⟨b17, g1, g3, g4, g5⟩
    refine VC.fromT _ _ F13 _ g1 g3 g4 g5 ?_
    refine VC.go 2 ?_
    simp only [push_cast, ↓reduceIte, Nat.reduceEqDiff, Nat.reduceAdd, Nat.reduceMul, Nat.reduceSub, Nat.reduceLT, Nat.reduceLeDiff, reduceCtorEq, Nat.reduceMod, Int.reduceEq, Int.reduceLT, Int.reduceLE, Int.reduceToNat, dite_true, e6]
    have hC13 := hC.mono (PH.le_trans hF011 hF113)
    obtain ⟨mc', ⟨cb', ces, cc, ckv, hmc, hcF, hcm, hcn, hcg⟩, hcc⟩ := hC13.cons
    subst hmc
    have hget : ∀ nm, (mget ckv nm).getD (i64v 0) = i64v (conD C.ds nm) := fun nm => by rw [hcg, ← hcc]; cases mc' nm <;> rfl
    refine VC.seq (VC.cutW (ι := PH × Value) (fun j => [(18, .v (i64v (armIn (keepL l e.alts) (e.alts[k]).kind (e.alts[k]).name (e.alts[k]).vars).length)), (17, .o 3 b17 0), (16, .v j.2), (15, .o 2 b15 0), (72, .v (i64v k)), (71, .v (i64v e.alts.length)), (70, .v (.slice (some q2) e.alts.length cl)), (13, .v vl), (12, .v (i64v s2.ins.length)), (11, .v (i64v (keepL l e.alts).length)), (9, .v (.slice p3 (keepL l e.alts).length c3)), (5, .o 1 b 0), (0, .o 0 sb 0)])
      (fun j => [⟨0, sb, 70, schC vc vg vi11 (.slice pn t.s.ins.length cn) (.map (some cb')) mt vq11 t.s.big⟩, ⟨1, b, 49, expCells e (.slice pa e.atoms.length ca) (.slice pb e.binds.length cb) (.slice (some q) e.kids.length ce) (.slice (some q2) e.alts.length cl)⟩, ⟨2, b15, 148, (i64v (e.alts[k]).kind :: i64v (e.alts[k]).at_ :: .string (e.alts[k]).name :: i64v (e.alts[k]).n :: .slice pv (e.alts[k]).vars.length cv :: expCells (e.alts[k]).body (.slice pa2 (e.alts[k]).body.atoms.length ca2) (.slice pb2 (e.alts[k]).body.binds.length cb2) (.slice pe2 (e.alts[k]).body.kids.length ce2) (.slice pl2 (e.alts[k]).body.alts.length cl2))⟩, ⟨3, b17, 138, [i64v (e.alts[k]).kind, i64v (if (e.alts[k]).kind = 1 then conD C.ds (e.alts[k]).name else 0), i64v (if (e.alts[k]).kind = 2 then (e.alts[k]).n else 0), i64v t.s.ins.length]⟩]) (fun j => j.1) (fun j => [rl, ri11, rn11, rq11])
      (fun j => F13.le j.1 ∧ Plc j.1 j.2 (armIn (keepL l e.alts) (e.alts[k]).kind (e.alts[k]).name (e.alts[k]).vars)) (fun G2 hG2 => ?_) ?_)
    · refine VC.go 100 ?_
      by_cases k1 : (e.alts[k]).kind = 1
      · simp only [push_cast, ↓reduceIte, Nat.reduceEqDiff, Nat.reduceAdd, Nat.reduceMul, Nat.reduceSub, Nat.reduceLT, Nat.reduceLeDiff, reduceCtorEq, Nat.reduceMod, Int.reduceEq, Int.reduceLT, Int.reduceLE, Int.reduceToNat, dite_true, eq_true k1]
        refine VC.draw (.q 0 (.q 1 (.q 2 (.q 3 (.q 4 (.q 5 (.e 6 (.q 7 (.e 8 (.done)))))))))) mixed (by rfl) ?_
        simp only [push_cast, ↓reduceIte, Nat.reduceEqDiff, Nat.reduceAdd, Nat.reduceMul, Nat.reduceSub, Nat.reduceLT, Nat.reduceLeDiff, reduceCtorEq, Nat.reduceMod, Int.reduceEq, Int.reduceLT, Int.reduceLE, Int.reduceToNat, dite_true]
        refine Eff.lookup keyStr rfl ty67 rfl Tryd.underlying9 ty3 rfl rfl (.inl hcF) hcm.1 ?_
        simp only [push_cast, ↓reduceIte, Nat.reduceEqDiff, Nat.reduceAdd, Nat.reduceMul, Nat.reduceSub, Nat.reduceLT, Nat.reduceLeDiff, reduceCtorEq, Nat.reduceMod, Int.reduceEq, Int.reduceLT, Int.reduceLE, Int.reduceToNat, dite_true, hget, Bool.false_eq_true]
        refine VC.go 100 ?_
        simp only [push_cast, ↓reduceIte, Nat.reduceEqDiff, Nat.reduceAdd, Nat.reduceMul, Nat.reduceSub, Nat.reduceLT, Nat.reduceLeDiff, reduceCtorEq, Nat.reduceMod, Int.reduceEq, Int.reduceLT, Int.reduceLE, Int.reduceToNat, dite_true, e6]
        have hw := withP F13 _ _ (keepL l e.alts) (e.alts[k]).vars 1 hr16 (hva'.mono hF113) (by omega) (by have := sizeS_len (e.alts[k]).vars; omega)
        refine CallV.pure hw ?_
        intro r20 F14 hF14 hr20
        obtain ⟨mb20, rfl⟩ := hr20.val
        have hvl := sizeS_len (e.alts[k]).vars
        have e7 : IntKind.i64.wrap (((keepL l e.alts).length : Int) + 1 + ((e.alts[k]).vars.length : Int)) = (keepL l e.alts).length + 1 + (e.alts[k]).vars.length := w64 _ (by omega)
        simp only [push_cast, ↓reduceIte, Nat.reduceEqDiff, Nat.reduceAdd, Nat.reduceMul, Nat.reduceSub, Nat.reduceLT, Nat.reduceLeDiff, reduceCtorEq, Nat.reduceMod, Int.reduceEq, Int.reduceLT, Int.reduceLE, Int.reduceToNat, dite_true, e7]
        exact hG2 (F14, .map (some mb20)) _ ⟨hF14, by simpa [armIn, k1, blanks] using hr20⟩ (by simp [subk, Eng.look, armIn, k1]; omega) (by simp [k1]) rfl (subR_refl _)
      by_cases k2 : (e.alts[k]).kind = 2
      · simp only [push_cast, ↓reduceIte, Nat.reduceEqDiff, Nat.reduceAdd, Nat.reduceMul, Nat.reduceSub, Nat.reduceLT, Nat.reduceLeDiff, reduceCtorEq, Nat.reduceMod, Int.reduceEq, Int.reduceLT, Int.reduceLE, Int.reduceToNat, dite_true, k1, eq_true k2]
        exact hG2 (F13, .map (some mb16)) _ ⟨PH.le_refl _, by simpa [armIn, k1, k2] using plc_blank hr16⟩ (by simp [subk, Eng.look, armIn, k1, k2]) (by simp [k1, k2]) rfl (subR_refl _)
      by_cases k3 : (e.alts[k]).kind = 3
      · simp only [push_cast, ↓reduceIte, Nat.reduceEqDiff, Nat.reduceAdd, Nat.reduceMul, Nat.reduceSub, Nat.reduceLT, Nat.reduceLeDiff, reduceCtorEq, Nat.reduceMod, Int.reduceEq, Int.reduceLT, Int.reduceLE, Int.reduceToNat, dite_true, k1, k2, eq_true k3]
        intro b21 F14 hF14 hb21
        have hw := withP F14 _ (.slice (some ⟨b21, 0, none⟩) 1 1) (keepL l e.alts) [(e.alts[k]).name] 0 (hr16.mono hF14) (strs_blk (l := [(e.alts[k]).name]) hb21 one_max) (by omega) (by simp)
        refine CallV.pure hw ?_
        intro r20 F15 hF15 hr20
        obtain ⟨mb20, rfl⟩ := hr20.val
        simp only [push_cast, ↓reduceIte, Nat.reduceEqDiff, Nat.reduceAdd, Nat.reduceMul, Nat.reduceSub, Nat.reduceLT, Nat.reduceLeDiff, reduceCtorEq, Nat.reduceMod, Int.reduceEq, Int.reduceLT, Int.reduceLE, Int.reduceToNat, dite_true]
        exact hG2 (F15, .map (some mb20)) _ ⟨PH.le_trans hF14 hF15, by simpa [armIn, k1, k3, blanks] using hr20⟩ (by simp [subk, Eng.look, armIn, k1, k3]) (by simp [k1, k2]) rfl (subR_refl _)
      · simp only [push_cast, ↓reduceIte, Nat.reduceEqDiff, Nat.reduceAdd, Nat.reduceMul, Nat.reduceSub, Nat.reduceLT, Nat.reduceLeDiff, reduceCtorEq, Nat.reduceMod, Int.reduceEq, Int.reduceLT, Int.reduceLE, Int.reduceToNat, dite_true, k1, k2, k3]
        exact hG2 (F13, .map (some mb16)) _ ⟨PH.le_refl _, by simpa [armIn, k1, k3] using plc_blank hr16⟩ (by simp [subk, Eng.look, armIn, k1, k3]) (by simp [k1, k2]) rfl (subR_refl _)
    rintro ⟨F14, vm⟩ ⟨hF14, hvm⟩
    dsimp only at hF14 hvm ⊢
    obtain ⟨mbv, rfl⟩ := hvm.val
    obtain ⟨xl, hrl', hel⟩ := hrl
    have hxl := hel.len (fun _ _ h => h.len)
    have hal : t.arms.length ≤ e.alts.length := by rw [← ht]; have := layAlts_arms C (keepL l e.alts) (e.alts.take k) ⟨[], armsS s2 s.ins.length (keepL l e.alts)⟩; rw [this]; simp; omega
    have hac : e.alts.length ≤ sizeLs e.alts := sizeLs_count e.alts
    have hvl := sizeS_len (e.alts[k]).vars
    have harm : (armIn (keepL l e.alts) (e.alts[k]).kind (e.alts[k]).name (e.alts[k]).vars).length ≤ (keepL l e.alts).length + 1 + (e.alts[k]).vars.length := by unfold armIn; split <;> (try split) <;> simp <;> omega
    have okb : okX C (armIn (keepL l e.alts) (e.alts[k]).kind (e.alts[k]).name (e.alts[k]).vars) (e.alts[k]).body := by rw [okL_eq] at okl'; exact okl'
    have hF114 := PH.le_trans hF113 hF14
    refine VC.go 100 ?_
    simp only [push_cast, ↓reduceIte, Nat.reduceEqDiff, Nat.reduceAdd, Nat.reduceMul, Nat.reduceSub, Nat.reduceLT, Nat.reduceLeDiff, reduceCtorEq, Nat.reduceMod, Int.reduceEq, Int.reduceLT, Int.reduceLE, Int.reduceToNat, dite_true]
    intro b22 F15 hF15 hb22
    have hF115 := PH.le_trans hF114 hF15
    refine Eff.append rfl rfl rfl ty87 rfl ty138 rfl (by decide) rfl rfl (.refl _) hrl' (src_one hb22 rfl) (by simp [Value.oneCell']) (by simp [hxl]; omega) (by decide) fun v23 r23 hr23 => ?_
    simp only [push_cast, ↓reduceIte, Nat.reduceEqDiff, Nat.reduceAdd, Nat.reduceMul, Nat.reduceSub, Nat.reduceLT, Nat.reduceLeDiff, reduceCtorEq, Nat.reduceMod, Int.reduceEq, Int.reduceLT, Int.reduceLE, Int.reduceToNat, dite_true]
    have hS15 := hS11.mono hF115
    refine callS (Re := [r23]) rfl rfl (List.perm_append_comm (l₁ := [r23])) (hE (e.alts[k]).body (by omega) F15 sb i vc vg _ mt vi11 _ vq11 ri11 rn11 rq11 t.s (armIn (keepL l e.alts) (e.alts[k]).kind (e.alts[k]).name (e.alts[k]).vars) _ _ _ _ _ (wx2'.mono hF115) (hvm.mono hF15) (hC.mono (PH.le_trans hF011 hF115)) hS15 okb ⟨by omega, by omega, by omega, by omega⟩) fun v24 F16 vi16 vn16 vq16 ri16 rn16 rq16 hF16' hS16 _ => ?_
    simp only [push_cast, ↓reduceIte, Nat.reduceEqDiff, Nat.reduceAdd, Nat.reduceMul, Nat.reduceSub, Nat.reduceLT, Nat.reduceLeDiff, reduceCtorEq, Nat.reduceMod, Int.reduceEq, Int.reduceLT, Int.reduceLE, Int.reduceToNat, dite_true, e2]
    refine hG1 (k + 1, F16, v23, vi16, vn16, vq16, r23, ri16, rn16, rq16) _ ⟨by omega, PH.le_trans hF11 (PH.le_trans hF115 hF16'), ?_, ?_⟩ (by simp; omega) (by simp [subk, Eng.look]) ?_ rfl (subR_perm (List.perm_append_comm (l₁ := [ri16, rn16, rq16])))
    · dsimp only
      rw [hstep, layAlt_eq]
      exact ⟨_, hr23, each_snoc hel rfl⟩
    · dsimp only
      rw [hstep, layAlt_eq]
      exact hS16
    · dsimp only
      rw [hstep, layAlt_eq]
      simp
  rintro ⟨F12, vl, vi12, vn12, vq12, rl, ri12, rn12, rq12⟩ ⟨hF12, hrl, hS12⟩
  dsimp only at hF12 hrl hS12 ⊢
  have hon2 := (layAlts_on C (keepL l e.alts) e.alts ⟨[], armsS s2 s.ins.length (keepL l e.alts)⟩).ins
  dsimp only at hon2
  rw [hi3] at hon2
  refine VC.freezeR (.refl _) fun F13 hF13 hle => ?_
  have hsl : SlE F13 4 RArm vl _ := hrl.sle (by decide) (fun _ _ h => h.len) hle
  obtain ⟨pu, cu, rfl, _, _⟩ := hsl.val
  have hS13 := hS12.mono hF13
  obtain ⟨xs2, hrow2, hes2⟩ := hS13.ins
  have hxs2 := hes2.len (fun _ _ h => h.len)
  obtain ⟨pg2, mg2, cg2, rfl, m12, m22, m32⟩ := hrow2.has (by intro h0; rw [h0, List.length_nil] at hxs2; omega)
  have hmg2 : mg2 = (layAlts C (keepL l e.alts) e.alts ⟨[], armsS s2 s.ins.length (keepL l e.alts)⟩).s.ins.length := by rw [hxs2] at m12; omega
  subst hmg2
  refine VC.rowM (i := 7) (Rf := [ri12, rq12]) (List.Perm.swap _ _ _) hrow2 fun g2 csg2 hpg2 hcl2 hmc2 hcm2 hct2 => ?_
  subst hpg2
  have hlt' : s2.ins.length * 7 + 6 < csg2.length := by rw [hcl2]; omega
  have hlt2' : (s2.ins.length : Int) < ((layAlts C (keepL l e.alts) e.alts ⟨[], armsS s2 s.ins.length (keepL l e.alts)⟩).s.ins.length : Int) := by omega
  have hlt3' : (0 : Int) ≤ (s2.ins.length : Int) := by omega
  refine VC.go 1 ?_
  simp only [push_cast, ↓reduceIte, Nat.reduceEqDiff, Nat.reduceAdd, Nat.reduceMul, Nat.reduceSub, Nat.reduceLT, Nat.reduceLeDiff, reduceCtorEq, Nat.reduceMod, Int.reduceEq, Int.reduceLT, Int.reduceLE, Int.reduceToNat, dite_true, add_own, Nat.zero_add, hlt', hlt2', hlt3']
  refine VC.toR (m := ⟨7, g2, 89, csg2.set (s2.ins.length * 7 + 6) (.slice pu (layAlts C (keepL l e.alts) e.alts ⟨[], armsS s2 s.ins.length (keepL l e.alts)⟩).arms.length cu)⟩) (.refl _) [] (by simp [subv]) ?_
  refine VC.go 1 ?_
  simp only [push_cast, ↓reduceIte, Nat.reduceEqDiff, Nat.reduceAdd, Nat.reduceMul, Nat.reduceSub, Nat.reduceLT, Nat.reduceLeDiff, reduceCtorEq, Nat.reduceMod, Int.reduceEq, Int.reduceLT, Int.reduceLE, Int.reduceToNat, dite_true]
  have e10 : layCase C e l s = setArms (layAlts C (keepL l e.alts) e.alts ⟨[], armsS s2 s.ins.length (keepL l e.alts)⟩).s s2.ins.length (layAlts C (keepL l e.alts) e.alts ⟨[], armsS s2 s.ins.length (keepL l e.alts)⟩).arms := by unfold layCase; rw [hl2 e.kids hk0, ← hs2]
  rw [e10]
  refine RetOk.r (vs := []) rfl (R' := [_, ri12, _, rq12]) (fun _ w hs => Sat.permR (w := w) (RetR.own (i := 0) rfl _ _ hs) (.cons _ (List.Perm.swap _ _ _))) ⟨vi12, _, vq12, ri12, _, rq12, rfl, ⟨hS13.infos, ?_, hS13.queue, hS13.e1, hS13.e2, hS13.le⟩, trivial⟩
  exact RowE.set (by decide) (fun _ _ h => h.len) (by decide) (fun x c hc => by obtain ⟨vl, vk, vm, va, rfl, k1, k2, k3, k4⟩ := hc; exact ⟨vl, vk, vm, _, rfl, k1, k2, k3, hsl⟩) (by omega) hcl2 hmc2 hcm2 (by rw [hct2]; exact hes2) rfl
theorem exp_all (C : Env) (n : Nat) : ∀ e : Exp, e.size = n → GenE C e := by
  induction n using Nat.strongRecOn with
  | _ n ih =>
    intro e he
    exact exp_ok C e (fun h => let_ok C e h fun e' h' => ih _ (he ▸ h') e' rfl) (fun h => cases_ok C e h fun e' h' => ih _ (he ▸ h') e' rfl)
end Go.Proofs.YtoepmdbicdoieaaDoor.W
