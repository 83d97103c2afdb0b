/- gen: the code of a program is right. -/
import Derived.Test.YtoepmdbicdoieaaDoorZ6
namespace Go.Proofs.YtoepmdbicdoieaaDoor.Z
open Go Go.Eng Go.RowKit Go.Proofs Go.Proofs.YtoepmdbicdoieaaDoor.T Go.Proofs.YtoepmdbicdoieaaDoor.V Go.Proofs.YtoepmdbicdoieaaDoor.K Go.Proofs.YtoepmdbicdoieaaDoor.U Go.Proofs.YtoepmdbicdoieaaDoor.N
open Go.Proofs.YtoepmdbicdoieaaDoor.W (Right i64v ptr Ints RowE RMk RIns RInf RArm RNum RFrm src_one each_snoc Fits CompQ RCode nil_code nil_ints sle_one)
set_option linter.unusedSimpArgs false
set_option linter.unusedVariables false
set_option maxRecDepth 100000
set_option maxHeartbeats 4000000
theorem runQ_one {C : Env} {i : Nat} {s t t' : Sc} (h : RunQ C i s t) (h' : RunQ C i s t') : t = t' := by
  induction h with
  | stop hn =>
    cases h' with
    | stop _ => rfl
    | step f d h1 h2 h3 h4 => exact absurd ⟨(List.getElem?_eq_some_iff.1 h2).1, h1⟩ hn
  | step f d h1 h2 h3 h4 ih =>
    cases h' with
    | stop hn => exact absurd ⟨(List.getElem?_eq_some_iff.1 h2).1, h1⟩ hn
    | step f' d' k1 k2 k3 k4 =>
      rw [h2] at k2
      rw [h3] at k3
      cases k2
      cases k3
      exact ih k4
theorem compiles_one {ds : List Dat} {bs : List Bind} {c c' : Cd} {a a' e e' : Int} (h : Compiles ds bs c a e) (h' : Compiles ds bs c' a' e') : c = c' ∧ a = a' ∧ e = e' := by
  unfold Compiles at h h'
  split at h
  · rename_i he
    rw [if_pos he] at h'
    obtain ⟨s, h1, rfl, h2⟩ := h
    obtain ⟨s', k1, rfl, k2⟩ := h'
    obtain rfl := runQ_one h1 k1
    split at h2
    · rename_i hb
      rw [if_pos hb] at k2
      exact ⟨h2.1.trans k2.1.symm, rfl, h2.2.trans k2.2.symm⟩
    · rename_i hb
      rw [if_neg hb] at k2
      exact ⟨h2.1.trans k2.1.symm, rfl, h2.2.trans k2.2.symm⟩
  · rename_i he
    rw [if_neg he] at h'
    exact ⟨h.1.trans h'.1.symm, h.2.1.trans h'.2.1.symm, h.2.2.trans h'.2.2.symm⟩
def wkX : Exp := .mk 4 0 ⟨#[]⟩ 5 [] [] [] []
def wkB : Bind := .mk (bs [109, 97, 105, 110]) 0 [] wkX
abbrev nilV : Value := .slice none 0 0
def wkS : Sc := stepQ (env [] [wkB]) 0 ([], wkX) [] (begins [wkB])
theorem wk_check : (checkC [] [wkB]).e = 0 := by decide +kernel
theorem wk_run : RunQ (env [] [wkB]) 0 (begins [wkB]) wkS :=
  .step ([], wkX) [] rfl rfl rfl (.stop fun h => by have := h.1; revert this; decide)
theorem wk_facts : wkS.big = false ∧ wkS.ins.length = 2 ∧ wkS.infos.length = 1 := by decide
theorem wk_ins : ∃ i0 i1, wkS.ins = [i0, i1] ∧ i0.makes = [⟨2, 0, 5, []⟩] := ⟨_, _, rfl, rfl⟩
theorem wk_at (F : PH) : ExpAt F wkX nilV nilV nilV nilV := ⟨⟨none, 0, rfl, Nat.le_refl _, Nat.zero_le _, rfl, fun h => absurd h (by simp [wkX, Exp.atoms])⟩, nil_sle _ _ _, nil_sle _ _ _, nil_sle _ _ _⟩
theorem wkBr (F : PH) : RBind F wkB (.string (bs [109, 97, 105, 110]) :: .int .i64 0 :: nilV :: expCells wkX nilV nilV nilV nilV) := RBind_iff.2 ⟨nilV, _, rfl, nil_strs F, RExp_iff.2 ⟨_, _, _, _, rfl, wk_at F⟩⟩
theorem awake13 (F : PH) (hT : P.Table F) : PFn Tryd.prog 9 [] F (fun v _ => v = .bool true) := by
  refine Fn.intro (n := 43) (ts := [0]) Tryd.func9 rfl rfl rfl rfl (by simp) fun B hB => VC.go 100 ?_
  simp only [push_cast, ↓reduceIte, Nat.reduceEqDiff, Nat.reduceAdd, Nat.reduceMul, Nat.reduceSub, Nat.reduceLT, Nat.reduceLeDiff, reduceCtorEq, Nat.reduceMod, Int.reduceEq, Int.reduceLT, Int.reduceLE, Int.reduceToNat, dite_true]
  intro b8 F1 hF1 hb8
  refine CallV.pure (W.compile [] [wkB] F1 nilV (.slice (some ⟨b8, 0, none⟩) 1 1) (nil_sle _ _ _) (sle_one hb8 rfl (wkBr F1)) (hT.mono hF1) (by decide) (by decide) N.right_right) ?_
  rintro _ F2 hF2 ⟨c, at_, e, vc, vg, vi, vn, rfl, hc, hcomp⟩
  have hcode : c = codeOf [] [wkB] wkS ∧ at_ = 0 ∧ e = 0 := by
    refine compiles_one hcomp ?_
    unfold Compiles
    rw [if_pos wk_check]
    exact ⟨wkS, wk_run, rfl, by rw [if_neg (by rw [wk_facts.1]; decide)]; exact ⟨rfl, rfl⟩⟩
  obtain ⟨rfl, rfl, rfl⟩ := hcode
  obtain ⟨i0, i1, hins, hmk⟩ := wk_ins
  have h1 := hc.cons
  have h2 := hc.globals
  have h3 := hc.infos
  have h4 := hc.ins
  obtain ⟨p1, c1, rfl, _, _⟩ := h1.val
  obtain ⟨p2, c2, rfl, _, _⟩ := h2.val
  obtain ⟨p3, c3, rfl, _, _⟩ := h3.val
  have h4' := h4
  obtain ⟨p4, c4, rfl, _, _⟩ := h4.val
  have el3 : (codeOf [] [wkB] wkS).infos.length = 1 := wk_facts.2.2
  have el4 : (codeOf [] [wkB] wkS).ins.length = 2 := wk_facts.2.1
  obtain ⟨q, _, cs, eq, _, _, kl, kr⟩ := h4'.elem (by decide) (i := 0) (a := i0) (by show wkS.ins[0]? = _; rw [hins]; rfl) (fun _ _ h => h.len)
  cases eq
  obtain ⟨vl, vk, vm, va, rfl, _, _, hm, _⟩ := kr
  rw [hmk] at hm
  obtain ⟨q2, _, cs2, eq, _, _, kl2, kr2⟩ := hm.elem (by decide) (i := 0) (a := ⟨2, 0, 5, []⟩) rfl (fun _ _ h => h.len)
  subst eq
  obtain ⟨vf, rfl, _⟩ := kr2
  rw [Nat.zero_mul, add_zero'] at kl kl2
  have k5 := cell_at kl (o := 5) rfl
  have k2 := cell_at kl2 (o := 2) rfl
  simp only [push_cast, ↓reduceIte, Nat.reduceEqDiff, Nat.reduceAdd, Nat.reduceMul, Nat.reduceSub, Nat.reduceLT, Nat.reduceLeDiff, reduceCtorEq, Nat.reduceMod, Int.reduceEq, Int.reduceLT, Int.reduceLE, Int.reduceToNat, dite_true, el3, el4, Nat.zero_mul, add_zero', k5, k2, Int.reduceAdd]
  intro b
  exact RetOk.p rfl rfl
theorem compiles_cases {ds : List Dat} {bs : List Bind} {c : Cd} {a e : Int} (h : Compiles ds bs c a e) :
    (¬ e = 0 ∧ c = ⟨[], [], [], []⟩) ∨ (e = 0 ∧ CodeOK c ∧ c.cons.length = ds.length ∧ c.globals = globs bs 0 ∧ ∀ (j : Nat) (b : Bind), bs[j]? = some b → ∃ v, c.infos[j]? = some v ∧ v.arity = b.args.length ∧ v.free = 0) := by
  unfold Compiles at h
  split at h
  · rename_i he
    obtain ⟨s, h1, _, h2⟩ := h
    split at h2
    · exact .inl ⟨by rw [h2.2]; decide, h2.1⟩
    · rename_i hb
      obtain ⟨rfl, h3⟩ := h2
      obtain ⟨g1, g2⟩ := code_right he h1 (by simpa using hb)
      exact .inr ⟨h3, g1, by simp [codeOf], rfl, g2⟩
  · rename_i he
    exact .inl ⟨by rw [h.2.2]; exact he, h.1⟩
theorem law_right (ds : List Dat) (bs : List Bind) (F : PH) (vd vb : Value) (hd : Dats F vd ds) (hbs : SlE F 11 (RBind F) vb bs) (hT : P.Table F) (hs : sizeBs bs ≤ 4000000) (hdl : ds.length ≤ 10000000) :
    PFn Tryd.prog 4 [.agg #[vd, vb]] F (fun v _ => v = .bool true) := by
  have hd' := hd
  have hbs' := hbs
  obtain ⟨pd, cd, rfl, hd1, hd2⟩ := hd.val
  obtain ⟨pb, cb, rfl, hb1, hb2⟩ := hbs.val
  refine Fn.intro (n := 118) (ts := [2]) Tryd.func4 rfl rfl rfl rfl (by simp) fun B hB => VC.go 4 ?_
  simp only [push_cast, ↓reduceIte, Nat.reduceEqDiff, Nat.reduceAdd, Nat.reduceMul, Nat.reduceSub, Nat.reduceLT, Nat.reduceLeDiff, reduceCtorEq, Nat.reduceMod, Int.reduceEq, Int.reduceLT, Int.reduceLE, Int.reduceToNat, dite_true]
  intro b1
  refine CallV.pure (W.compile ds bs F _ _ hd' hbs' hT hs hdl N.right_right) ?_
  rintro _ F1 hF1 ⟨c, at_, e, vc, vg, vi, vn, rfl, hc, hcomp⟩
  have hc' := hc
  obtain ⟨p1, q1, rfl, l1, m1⟩ := hc.cons.val
  obtain ⟨p2, q2, rfl, l2, m2⟩ := hc.globals.val
  obtain ⟨p3, q3, rfl, l3, m3⟩ := hc.infos.val
  obtain ⟨p4, q4, rfl, l4, m4⟩ := hc.ins.val
  simp only [push_cast, ↓reduceIte, Nat.reduceEqDiff, Nat.reduceAdd, Nat.reduceMul, Nat.reduceSub, Nat.reduceLT, Nat.reduceLeDiff, reduceCtorEq, Nat.reduceMod, Int.reduceEq, Int.reduceLT, Int.reduceLE, Int.reduceToNat, dite_true]
  intro b3
  refine VC.go 100 ?_
  simp only [push_cast, ↓reduceIte, Nat.reduceEqDiff, Nat.reduceAdd, Nat.reduceMul, Nat.reduceSub, Nat.reduceLT, Nat.reduceLeDiff, reduceCtorEq, Nat.reduceMod, Int.reduceEq, Int.reduceLT, Int.reduceLE, Int.reduceToNat, dite_true]
  refine CallV.pure (awake13 F1 (hT.mono hF1)) ?_
  rintro _ F2 hF2 rfl
  have hF02 := PH.le_trans hF1 hF2
  rcases compiles_cases hcomp with ⟨he, hce⟩ | ⟨he, hK, hcl, hcg, htop⟩
  · have z1 : c.cons.length = 0 := by rw [hce]; rfl
    have z2 : c.globals.length = 0 := by rw [hce]; rfl
    have z3 : c.infos.length = 0 := by rw [hce]; rfl
    have z4 : c.ins.length = 0 := by rw [hce]; rfl
    have w0 : IntKind.i64.wrap (0 + 0) = 0 := by decide
    have w1 : IntKind.i64.wrap 0 = 0 := by decide
    simp only [push_cast, ↓reduceIte, Nat.reduceEqDiff, Nat.reduceAdd, Nat.reduceMul, Nat.reduceSub, Nat.reduceLT, Nat.reduceLeDiff, reduceCtorEq, Nat.reduceMod, Int.reduceEq, Int.reduceLT, Int.reduceLE, Int.reduceToNat, dite_true, he, ne_eq, not_false_eq_true, decide_true]
    refine CallV.pure (awake13 F2 (hT.mono hF02)) ?_
    rintro _ F3 hF3 rfl
    simp only [push_cast, ↓reduceIte, Nat.reduceEqDiff, Nat.reduceAdd, Nat.reduceMul, Nat.reduceSub, Nat.reduceLT, Nat.reduceLeDiff, reduceCtorEq, Nat.reduceMod, Int.reduceEq, Int.reduceLT, Int.reduceLE, Int.reduceToNat, dite_true, z1, z2, z3, z4, w0, w1, Int.ofNat_zero]
    exact RetOk.p rfl rfl
  have hgl : c.globals.length = bs.length := by rw [hcg, W.globs_len]
  simp only [push_cast, ↓reduceIte, Nat.reduceEqDiff, Nat.reduceAdd, Nat.reduceMul, Nat.reduceSub, Nat.reduceLT, Nat.reduceLeDiff, reduceCtorEq, Nat.reduceMod, Int.reduceEq, Int.reduceLT, Int.reduceLE, Int.reduceToNat, dite_true, he]
  refine CallV.pure (check12 F2 c _ _ _ _ (code_mono hF2 hc') hK) ?_
  rintro _ F3 hF3 rfl
  have hF03 := PH.le_trans hF02 hF3
  have hF13 := PH.le_trans hF2 hF3
  simp only [push_cast, ↓reduceIte, Nat.reduceEqDiff, Nat.reduceAdd, Nat.reduceMul, Nat.reduceSub, Nat.reduceLT, Nat.reduceLeDiff, reduceCtorEq, Nat.reduceMod, Int.reduceEq, Int.reduceLT, Int.reduceLE, Int.reduceToNat, dite_true, hcl, hgl, ne_eq, not_true_eq_false, decide_false]
  refine VC.loopW (ι := Nat) (fun i => [(8, .v (i64v i)), (1, .o 0 b1 0), (3, .o 1 b3 0)]) (fun _ => [⟨0, b1, 25, [.slice pd ds.length cd, .slice pb bs.length cb]⟩, ⟨1, b3, 31, [.slice p1 ds.length q1, .slice p2 bs.length q2, .slice p3 c.infos.length q3, .slice p4 c.ins.length q4]⟩]) (fun _ => F3) (fun _ => []) (fun i => i ≤ bs.length) (fun i => bs.length - i) 0 (Nat.zero_le _) (by simp [subk, Eng.look]) (List.Sublist.refl _) rfl (subR_refl _) ?_
  intro i hi G1 hG1
  refine VC.go 100 ?_
  by_cases h : i < bs.length
  case neg =>
    have h' : ¬ (i : Int) < (bs.length : Int) := by omega
    simp only [push_cast, ↓reduceIte, Nat.reduceEqDiff, Nat.reduceAdd, Nat.reduceMul, Nat.reduceSub, Nat.reduceLT, Nat.reduceLeDiff, reduceCtorEq, Nat.reduceMod, Int.reduceEq, Int.reduceLT, Int.reduceLE, Int.reduceToNat, dite_true, h']
    exact RetOk.p rfl rfl
  have h' : (i : Int) < (bs.length : Int) := by omega
  have h0 : (0 : Int) ≤ (i : Int) := by omega
  have e2 : IntKind.i64.wrap ((i : Int) + 1) = ((i + 1 : Nat) : Int) := wadd i h (Nat.le_trans hb1 hb2)
  have hgi : i < c.globals.length := by omega
  have hgat := List.getElem?_eq_getElem hgi
  obtain ⟨b, hbat, hgv⟩ := globs_at bs 0 i _ (by rw [← hcg]; exact hgat)
  rw [hgv] at hgat
  obtain ⟨v, v1, v2, v3⟩ := htop i b hbat
  have hvi := (List.getElem?_eq_some_iff.1 v1).1
  have hvi' : (i : Int) < (c.infos.length : Int) := by omega
  obtain ⟨qg, _, csg, eq, _, _, klg, krg⟩ := (hc'.globals.mono (R' := RNum) hF13 (fun _ _ _ h => h)).elem (by decide) hgat (fun _ _ h => h.len)
  rw [hgl] at eq
  cases eq
  unfold RNum at krg
  subst krg
  obtain ⟨qv, _, csv, eq, _, _, klv, krv⟩ := (hc'.infos.mono (R' := RInf) hF13 (fun _ _ _ h => h)).elem (by decide) v1 (fun _ _ h => h.len)
  cases eq
  unfold RInf at krv
  subst krv
  obtain ⟨qb, _, csb, eq, _, _, klb, krb⟩ := (hbs'.mono (R' := RBind F3) hF03 (fun _ _ _ h => h.mono hF03)).elem (by decide) hbat (fun _ _ h => h.len)
  cases eq
  obtain ⟨va, ce, rfl, hva, _⟩ := RBind_iff.1 krb
  obtain ⟨pa, ca, rfl, _, _, _⟩ := hva
  have g0 := cell_at klg (o := 0) rfl
  have g1 := cell_at klg (o := 1) rfl
  have k0 := cell_at klb (o := 0) rfl
  have k2 := cell_at klb (o := 2) rfl
  rw [Nat.zero_add] at g1
  rw [add_zero'] at g0 k0
  simp only [push_cast, ↓reduceIte, Nat.reduceEqDiff, Nat.reduceAdd, Nat.reduceMul, Nat.reduceSub, Nat.reduceLT, Nat.reduceLeDiff, reduceCtorEq, Nat.reduceMod, Int.reduceEq, Int.reduceLT, Int.reduceLE, Int.reduceToNat, dite_true, h']
  refine VC.draw (.q 0 (.q 1 (.q 2 (.q 3 (.q 4 (.q 5 (.q 6 (.q 7 (.q 8 (.q 9 (.e 10 (.e 11 (.done))))))))))))) mixed (by rfl) ?_
  simp only [push_cast, ↓reduceIte, Nat.reduceEqDiff, Nat.reduceAdd, Nat.reduceMul, Nat.reduceSub, Nat.reduceLT, Nat.reduceLeDiff, reduceCtorEq, Nat.reduceMod, Int.reduceEq, Int.reduceLT, Int.reduceLE, Int.reduceToNat, dite_true, h', h0, hvi', g1, klv]
  intro b9
  refine VC.go 100 ?_
  simp only [push_cast, ↓reduceIte, Nat.reduceEqDiff, Nat.reduceAdd, Nat.reduceMul, Nat.reduceSub, Nat.reduceLT, Nat.reduceLeDiff, reduceCtorEq, Nat.reduceMod, Int.reduceEq, Int.reduceLT, Int.reduceLE, Int.reduceToNat, dite_true]
  refine VC.draw (.q 0 (.q 1 (.q 2 (.q 3 (.q 4 (.q 5 (.q 6 (.q 7 (.q 8 (.q 9 (.q 10 (.q 11 (.q 12 (.q 13 (.q 14 (.q 15 (.q 16 (.q 17 (.q 18 (.q 19 (.q 20 (.q 21 (.q 22 (.q 23 (.q 24 (.q 25 (.q 26 (.q 27 (.q 28 (.q 29 (.q 30 (.done)))))))))))))))))))))))))))))))) mixed (by rfl) ?_
  simp only [push_cast, ↓reduceIte, Nat.reduceEqDiff, Nat.reduceAdd, Nat.reduceMul, Nat.reduceSub, Nat.reduceLT, Nat.reduceLeDiff, reduceCtorEq, Nat.reduceMod, Int.reduceEq, Int.reduceLT, Int.reduceLE, Int.reduceToNat, dite_true, h', h0, g0, k0, k2, add_zero', v2, v3, ne_eq, not_true_eq_false, decide_false]
  refine VC.go 100 ?_
  simp only [push_cast, ↓reduceIte, Nat.reduceEqDiff, Nat.reduceAdd, Nat.reduceMul, Nat.reduceSub, Nat.reduceLT, Nat.reduceLeDiff, reduceCtorEq, Nat.reduceMod, Int.reduceEq, Int.reduceLT, Int.reduceLE, Int.reduceToNat, dite_true, e2]
  exact hG1 (i + 1) _ (by omega) (by omega) (by simp [subk, Eng.look]) (List.sublist_append_left [_, _] [_]) rfl (subR_refl _)
end Go.Proofs.YtoepmdbicdoieaaDoor.Z
