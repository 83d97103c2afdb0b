/- gen: names play no part. (Written by gen/a5.py.) -/
import Derived.Test.YtoepmdbicdoieaaDoorA4
import Derived.Test.YtoepmdbicdoieaaDoorJ10
namespace Go.Proofs.YtoepmdbicdoieaaDoor.M
open Go Go.Eng Go.RowKit Go.Proofs Go.Proofs.YtoepmdbicdoieaaDoor.T Go.Proofs.YtoepmdbicdoieaaDoor.V Go.Proofs.YtoepmdbicdoieaaDoor.K Go.Proofs.YtoepmdbicdoieaaDoor.U
open Go.Proofs.YtoepmdbicdoieaaDoor.J (compiles_one runQ_one same12)
open Go.Proofs.YtoepmdbicdoieaaDoor.W (i64v ptr Ints RowE RMk RIns RInf RArm RNum RFrm src_one Fits CompQ RCode Right nil_code nil_ints sle_one)
set_option linter.unusedSimpArgs false
set_option linter.unusedVariables false
set_option maxRecDepth 100000
set_option maxHeartbeats 4000000
def wkX : Exp := .mk 4 0 ⟨#[]⟩ 5 [] [] [] []
def wkB : Bind := .mk (bs [109, 97, 105, 110]) 0 [] wkX
abbrev nilV : Value := .slice none 0 0
def wkS : Sc := stepQ (env [] [wkB]) 0 ([], wkX) [] (begins [wkB])
theorem wk_check : (checkC [] [wkB]).e = 0 := by decide +kernel
theorem wk_run : RunQ (env [] [wkB]) 0 (begins [wkB]) wkS :=
  .step ([], wkX) [] rfl rfl rfl (.stop fun h => by have := h.1; revert this; decide)
theorem wk_facts : wkS.big = false ∧ wkS.ins.length = 2 ∧ wkS.infos.length = 1 := by decide
theorem wk_ins : ∃ i0 i1, wkS.ins = [i0, i1] ∧ i0.makes = [⟨2, 0, 5, []⟩] := ⟨_, _, rfl, rfl⟩
theorem wk_at (F : PH) : ExpAt F wkX nilV nilV nilV nilV := ⟨⟨none, 0, rfl, Nat.le_refl _, Nat.zero_le _, rfl, fun h => absurd h (by simp [wkX, Exp.atoms])⟩, nil_sle _ _ _, nil_sle _ _ _, nil_sle _ _ _⟩
theorem wkBr (F : PH) : RBind F wkB (.string (bs [109, 97, 105, 110]) :: .int .i64 0 :: nilV :: expCells wkX nilV nilV nilV nilV) := RBind_iff.2 ⟨nilV, _, rfl, nil_strs F, RExp_iff.2 ⟨_, _, _, _, rfl, wk_at F⟩⟩
theorem awake13 (F : PH) (hT : P.Table F) : PFn Tryd.prog 9 [] F (fun v _ => v = .bool true) := by
  refine Fn.intro (n := 43) (ts := [0]) Tryd.func9 rfl rfl rfl rfl (by simp) fun B hB => VC.go 100 ?_
  simp only [push_cast, ↓reduceIte, Nat.reduceEqDiff, Nat.reduceAdd, Nat.reduceMul, Nat.reduceSub, Nat.reduceLT, Nat.reduceLeDiff, reduceCtorEq, Nat.reduceMod, Int.reduceEq, Int.reduceLT, Int.reduceLE, Int.reduceToNat, dite_true]
  intro b8 F1 hF1 hb8
  refine CallV.pure (W.compile [] [wkB] F1 nilV (.slice (some ⟨b8, 0, none⟩) 1 1) (nil_sle _ _ _) (sle_one hb8 rfl (wkBr F1)) (hT.mono hF1) (by decide) (by decide) N.right_right) ?_
  rintro _ F2 hF2 ⟨c, at_, e, vc, vg, vi, vn, rfl, hc, hcomp⟩
  have hcode : c = codeOf [] [wkB] wkS ∧ at_ = 0 ∧ e = 0 := by
    refine compiles_one hcomp ?_
    unfold Compiles
    rw [if_pos wk_check]
    exact ⟨wkS, wk_run, rfl, by rw [if_neg (by rw [wk_facts.1]; decide)]; exact ⟨rfl, rfl⟩⟩
  obtain ⟨rfl, rfl, rfl⟩ := hcode
  obtain ⟨i0, i1, hins, hmk⟩ := wk_ins
  have h1 := hc.cons
  have h2 := hc.globals
  have h3 := hc.infos
  have h4 := hc.ins
  obtain ⟨p1, c1, rfl, _, _⟩ := h1.val
  obtain ⟨p2, c2, rfl, _, _⟩ := h2.val
  obtain ⟨p3, c3, rfl, _, _⟩ := h3.val
  have h4' := h4
  obtain ⟨p4, c4, rfl, _, _⟩ := h4.val
  have el3 : (codeOf [] [wkB] wkS).infos.length = 1 := wk_facts.2.2
  have el4 : (codeOf [] [wkB] wkS).ins.length = 2 := wk_facts.2.1
  obtain ⟨q, _, cs, eq, _, _, kl, kr⟩ := h4'.elem (by decide) (i := 0) (a := i0) (by show wkS.ins[0]? = _; rw [hins]; rfl) (fun _ _ h => h.len)
  cases eq
  obtain ⟨vl, vk, vm, va, rfl, _, _, hm, _⟩ := kr
  rw [hmk] at hm
  obtain ⟨q2, _, cs2, eq, _, _, kl2, kr2⟩ := hm.elem (by decide) (i := 0) (a := ⟨2, 0, 5, []⟩) rfl (fun _ _ h => h.len)
  subst eq
  obtain ⟨vf, rfl, _⟩ := kr2
  rw [Nat.zero_mul, add_zero'] at kl kl2
  have k5 := cell_at kl (o := 5) rfl
  have k2 := cell_at kl2 (o := 2) rfl
  simp only [push_cast, ↓reduceIte, Nat.reduceEqDiff, Nat.reduceAdd, Nat.reduceMul, Nat.reduceSub, Nat.reduceLT, Nat.reduceLeDiff, reduceCtorEq, Nat.reduceMod, Int.reduceEq, Int.reduceLT, Int.reduceLE, Int.reduceToNat, dite_true, el3, el4, Nat.zero_mul, add_zero', k5, k2, Int.reduceAdd]
  intro b
  exact RetOk.p rfl rfl
theorem globs_mem : ∀ (bs : List Bind) (k : Nat) (g : ByteArray × Int), g ∈ globs bs k → ∃ b ∈ bs, g.1 = b.name
  | [], k, g, h => nomatch h
  | b :: l, k, g, h => by
    rcases List.mem_cons.1 h with rfl | h
    · exact ⟨b, List.mem_cons_self, rfl⟩
    · obtain ⟨b', h1, h2⟩ := globs_mem l (k + 1) g h
      exact ⟨b', List.mem_cons_of_mem _ h1, h2⟩
theorem compiles_globs {ds : List Dat} {bs : List Bind} {c : Cd} {a e : Int} (h : Compiles ds bs c a e) : ∀ g ∈ c.globals, ∃ b ∈ bs, g.1 = b.name := by
  unfold Compiles at h
  split at h
  · obtain ⟨s, h1, h2, h3⟩ := h
    split at h3
    · rw [h3.1]; exact fun _ h => nomatch h
    · rw [h3.1]; exact fun g h => globs_mem bs 0 g h
  · rw [h.1]; exact fun _ h => nomatch h
theorem law_names13 (ds : List Dat) (bs : List Bind) (F : PH) (vd vb : Value) (hd : Dats F vd ds) (hbs : SlE F 11 (RBind F) vb bs) (hT : P.Table F) (hs : sizeBs bs ≤ 2000000) (hdl : ds.length ≤ 10000000) :
    PFn Tryd.prog 5 [.agg #[vd, vb]] F (fun v _ => v = .bool true) := by
  have hd' := hd
  have hbs' := hbs
  have hst := sizeBs_turn bs
  obtain ⟨pd, cd, rfl, hd1, hd2⟩ := hd.val
  obtain ⟨pb, cb, rfl, hb1, hb2⟩ := hbs.val
  refine Fn.intro (n := 100) (ts := [2]) Tryd.func5 rfl rfl rfl rfl (by simp) fun B hB => VC.go 5 ?_
  simp only [push_cast, ↓reduceIte, Nat.reduceEqDiff, Nat.reduceAdd, Nat.reduceMul, Nat.reduceSub, Nat.reduceLT, Nat.reduceLeDiff, reduceCtorEq, Nat.reduceMod, Int.reduceEq, Int.reduceLT, Int.reduceLE, Int.reduceToNat, dite_true]
  intro b1
  refine CallV.pure (W.compile ds bs F _ _ hd' hbs' hT (by omega) hdl N.right_right) ?_
  rintro _ F1 hF1 ⟨c, at_, e, vc, vg, vi, vn, rfl, hc, hcomp⟩
  have hc' := hc
  obtain ⟨p1, q1, rfl, l1, m1⟩ := hc.cons.val
  obtain ⟨p2, q2, rfl, l2, m2⟩ := hc.globals.val
  obtain ⟨p3, q3, rfl, l3, m3⟩ := hc.infos.val
  obtain ⟨p4, q4, rfl, l4, m4⟩ := hc.ins.val
  simp only [push_cast, ↓reduceIte, Nat.reduceEqDiff, Nat.reduceAdd, Nat.reduceMul, Nat.reduceSub, Nat.reduceLT, Nat.reduceLeDiff, reduceCtorEq, Nat.reduceMod, Int.reduceEq, Int.reduceLT, Int.reduceLE, Int.reduceToNat, dite_true]
  intro b3
  refine VC.drawT (fun S' => ∃ (b6 : Nat) (F3 : PH) (c' : Cd) (at' e' : Int) (r1 : Option Addr) (s1 : Nat) (r2 : Option Addr) (s2 : Nat) (r3 : Option Addr) (s3 : Nat) (r4 : Option Addr) (s4 : Nat), subk S'.L [(1, .o 0 b1 0), (3, .o 1 b3 0), (6, .o 2 b6 0), (4, .v (i64v at_)), (5, .v (i64v e)), (7, .v (i64v at')), (8, .v (i64v e'))] ∧ S'.M = [⟨0, b1, 25, [.slice pd ds.length cd, .slice pb bs.length cb]⟩, ⟨1, b3, 31, [.slice p1 c.cons.length q1, .slice p2 c.globals.length q2, .slice p3 c.infos.length q3, .slice p4 c.ins.length q4]⟩, ⟨2, b6, 31, [.slice r1 c'.cons.length s1, .slice r2 c'.globals.length s2, .slice r3 c'.infos.length s3, .slice r4 c'.ins.length s4]⟩] ∧ S'.F = F3 ∧ S'.R.Perm [] ∧ S'.nx = 3 ∧ F1.le F3 ∧ RCode F3 c' (.slice r1 c'.cons.length s1) (.slice r2 c'.globals.length s2) (.slice r3 c'.infos.length s3) (.slice r4 c'.ins.length s4) ∧ Compiles ds (turnBs bs) c' at' e')
    (.q 0 (.q 1 (.q 2 (.q 3 (.e2 4 (.e2 5 (.e2 6 (.q 7 (.q 8 (.q 9 (.q 10 (.e 11 (.es 12 [9, 10] (.q 13 (.q 14 (.done))))))))) 11 (.e 6 (.q 7 (.q 8 (.q 9 (.q 10 (.es 12 [9, 10] (.q 13 (.q 14 (.done)))))))))) 11 (.e 5 (.e 6 (.q 7 (.q 8 (.q 9 (.q 10 (.es 12 [9, 10] (.q 13 (.q 14 (.done))))))))))) 11 (.e 4 (.e 5 (.e 6 (.q 7 (.q 8 (.q 9 (.q 10 (.es 12 [9, 10] (.q 13 (.q 14 (.done)))))))))))))))) mixed (by rfl) ?_ ?_
  · simp only [push_cast, ↓reduceIte, Nat.reduceEqDiff, Nat.reduceAdd, Nat.reduceMul, Nat.reduceSub, Nat.reduceLT, Nat.reduceLeDiff, reduceCtorEq, Nat.reduceMod, Int.reduceEq, Int.reduceLT, Int.reduceLE, Int.reduceToNat, dite_true]
    refine ⟨?_, fun b6 => ?_⟩
    · refine CallV.pure (binds bs (fun x hx => exp_all _ _ rfl) F1 _ (hbs'.mono hF1 (fun _ _ _ h => h.mono hF1)) (by omega)) ?_
      intro v2 F2 hF2 hsl
      have hsl' := hsl
      obtain ⟨p5, c5, rfl, _, _⟩ := hsl.val
      simp only [push_cast, ↓reduceIte, Nat.reduceEqDiff, Nat.reduceAdd, Nat.reduceMul, Nat.reduceSub, Nat.reduceLT, Nat.reduceLeDiff, reduceCtorEq, Nat.reduceMod, Int.reduceEq, Int.reduceLT, Int.reduceLE, Int.reduceToNat, dite_true]
      refine ⟨⟨?_, fun b6 => ?_⟩, fun b6 => ?_⟩
      · refine CallV.pure (W.compile ds (turnBs bs) F2 _ _ (hd'.mono' (PH.le_trans hF1 hF2)) hsl' (hT.mono (PH.le_trans hF1 hF2)) (by omega) hdl N.right_right) ?_
        rintro _ F3 hF3 ⟨c', at', e', vc', vg', vi', vn', rfl, hc1, hcomp'⟩
        have hc1' := hc1
        obtain ⟨r1, s1, rfl, _, _⟩ := hc1.cons.val
        obtain ⟨r2, s2, rfl, _, _⟩ := hc1.globals.val
        obtain ⟨r3, s3, rfl, _, _⟩ := hc1.infos.val
        obtain ⟨r4, s4, rfl, _, _⟩ := hc1.ins.val
        simp only [push_cast, ↓reduceIte, Nat.reduceEqDiff, Nat.reduceAdd, Nat.reduceMul, Nat.reduceSub, Nat.reduceLT, Nat.reduceLeDiff, reduceCtorEq, Nat.reduceMod, Int.reduceEq, Int.reduceLT, Int.reduceLE, Int.reduceToNat, dite_true]
        intro b6
        exact ⟨b6, F3, c', at', e', r1, s1, r2, s2, r3, s3, r4, s4, by simp [subk, Eng.look], rfl, rfl, .refl _, PH.le_trans hF2 hF3, hc1', hcomp'⟩
      · refine CallV.pure (W.compile ds (turnBs bs) F2 _ _ (hd'.mono' (PH.le_trans hF1 hF2)) hsl' (hT.mono (PH.le_trans hF1 hF2)) (by omega) hdl N.right_right) ?_
        rintro _ F3 hF3 ⟨c', at', e', vc', vg', vi', vn', rfl, hc1, hcomp'⟩
        have hc1' := hc1
        obtain ⟨r1, s1, rfl, _, _⟩ := hc1.cons.val
        obtain ⟨r2, s2, rfl, _, _⟩ := hc1.globals.val
        obtain ⟨r3, s3, rfl, _, _⟩ := hc1.infos.val
        obtain ⟨r4, s4, rfl, _, _⟩ := hc1.ins.val
        simp only [push_cast, ↓reduceIte, Nat.reduceEqDiff, Nat.reduceAdd, Nat.reduceMul, Nat.reduceSub, Nat.reduceLT, Nat.reduceLeDiff, reduceCtorEq, Nat.reduceMod, Int.reduceEq, Int.reduceLT, Int.reduceLE, Int.reduceToNat, dite_true]
        exact ⟨b6, F3, c', at', e', r1, s1, r2, s2, r3, s3, r4, s4, by simp [subk, Eng.look], rfl, rfl, .refl _, PH.le_trans hF2 hF3, hc1', hcomp'⟩
      · refine CallV.pure (W.compile ds (turnBs bs) F2 _ _ (hd'.mono' (PH.le_trans hF1 hF2)) hsl' (hT.mono (PH.le_trans hF1 hF2)) (by omega) hdl N.right_right) ?_
        rintro _ F3 hF3 ⟨c', at', e', vc', vg', vi', vn', rfl, hc1, hcomp'⟩
        have hc1' := hc1
        obtain ⟨r1, s1, rfl, _, _⟩ := hc1.cons.val
        obtain ⟨r2, s2, rfl, _, _⟩ := hc1.globals.val
        obtain ⟨r3, s3, rfl, _, _⟩ := hc1.infos.val
        obtain ⟨r4, s4, rfl, _, _⟩ := hc1.ins.val
        simp only [push_cast, ↓reduceIte, Nat.reduceEqDiff, Nat.reduceAdd, Nat.reduceMul, Nat.reduceSub, Nat.reduceLT, Nat.reduceLeDiff, reduceCtorEq, Nat.reduceMod, Int.reduceEq, Int.reduceLT, Int.reduceLE, Int.reduceToNat, dite_true]
        exact ⟨b6, F3, c', at', e', r1, s1, r2, s2, r3, s3, r4, s4, by simp [subk, Eng.look], rfl, rfl, .refl _, PH.le_trans hF2 hF3, hc1', hcomp'⟩
    · refine CallV.pure (binds bs (fun x hx => exp_all _ _ rfl) F1 _ (hbs'.mono hF1 (fun _ _ _ h => h.mono hF1)) (by omega)) ?_
      intro v2 F2 hF2 hsl
      have hsl' := hsl
      obtain ⟨p5, c5, rfl, _, _⟩ := hsl.val
      simp only [push_cast, ↓reduceIte, Nat.reduceEqDiff, Nat.reduceAdd, Nat.reduceMul, Nat.reduceSub, Nat.reduceLT, Nat.reduceLeDiff, reduceCtorEq, Nat.reduceMod, Int.reduceEq, Int.reduceLT, Int.reduceLE, Int.reduceToNat, dite_true]
      refine CallV.pure (W.compile ds (turnBs bs) F2 _ _ (hd'.mono' (PH.le_trans hF1 hF2)) hsl' (hT.mono (PH.le_trans hF1 hF2)) (by omega) hdl N.right_right) ?_
      rintro _ F3 hF3 ⟨c', at', e', vc', vg', vi', vn', rfl, hc1, hcomp'⟩
      have hc1' := hc1
      obtain ⟨r1, s1, rfl, _, _⟩ := hc1.cons.val
      obtain ⟨r2, s2, rfl, _, _⟩ := hc1.globals.val
      obtain ⟨r3, s3, rfl, _, _⟩ := hc1.infos.val
      obtain ⟨r4, s4, rfl, _, _⟩ := hc1.ins.val
      simp only [push_cast, ↓reduceIte, Nat.reduceEqDiff, Nat.reduceAdd, Nat.reduceMul, Nat.reduceSub, Nat.reduceLT, Nat.reduceLeDiff, reduceCtorEq, Nat.reduceMod, Int.reduceEq, Int.reduceLT, Int.reduceLE, Int.reduceToNat, dite_true]
      exact ⟨b6, F3, c', at', e', r1, s1, r2, s2, r3, s3, r4, s4, by simp [subk, Eng.look], rfl, rfl, .refl _, PH.le_trans hF2 hF3, hc1', hcomp'⟩
  rintro S' ⟨b6, F3, c', at', e', r1, s1, r2, s2, r3, s3, r4, s4, d1, d2, d3, d4, d5, hF13, hcc, hcomp'⟩
  refine W.VC.fromT _ _ F3 [] d1 (by rw [d2]; exact List.Sublist.refl _) d3 d4 ?_
  rw [d5]
  obtain ⟨rfl, rfl, rfl⟩ := compiles_one (compiles_turn hcomp) hcomp'
  have hcc' : RCode F3 ⟨c.cons, c.globals.map turnA, c.infos, c.ins⟩ (.slice r1 c.cons.length s1) (.slice r2 c.globals.length s2) (.slice r3 c.infos.length s3) (.slice r4 c.ins.length s4) := by
    have := hcc
    simpa only [List.length_map] using this
  simp only [List.length_map]
  refine VC.go 5 ?_
  simp only [push_cast, ↓reduceIte, Nat.reduceEqDiff, Nat.reduceAdd, Nat.reduceMul, Nat.reduceSub, Nat.reduceLT, Nat.reduceLeDiff, reduceCtorEq, Nat.reduceMod, Int.reduceEq, Int.reduceLT, Int.reduceLE, Int.reduceToNat, dite_true]
  refine CallV.pure (awake13 F3 (hT.mono (PH.le_trans hF1 hF13))) ?_
  rintro _ F4 hF4 rfl
  have hF04 := PH.le_trans hF1 (PH.le_trans hF13 hF4)
  simp only [push_cast, ↓reduceIte, Nat.reduceEqDiff, Nat.reduceAdd, Nat.reduceMul, Nat.reduceSub, Nat.reduceLT, Nat.reduceLeDiff, reduceCtorEq, Nat.reduceMod, Int.reduceEq, Int.reduceLT, Int.reduceLE, Int.reduceToNat, dite_true, ne_eq, not_true_eq_false, decide_false]
  refine CallV.pure (has bs F4 _ (hbs'.mono hF04 (fun _ _ _ h => h.mono hF04)) (by omega)) ?_
  rintro _ F5 hF5 rfl
  have hF35 := PH.le_trans hF4 hF5
  have hF15 := PH.le_trans hF13 hF35
  simp only [push_cast, ↓reduceIte, Nat.reduceEqDiff, Nat.reduceAdd, Nat.reduceMul, Nat.reduceSub, Nat.reduceLT, Nat.reduceLeDiff, reduceCtorEq, Nat.reduceMod, Int.reduceEq, Int.reduceLT, Int.reduceLE, Int.reduceToNat, dite_true]
  refine VC.seq (VC.cutW (ι := PH) (fun _ => [(1, .o 0 b1 0), (3, .o 1 b3 0), (6, .o 2 b6 0)]) (fun _ => [⟨0, b1, 25, [.slice pd ds.length cd, .slice pb bs.length cb]⟩, ⟨1, b3, 31, [.slice p1 c.cons.length q1, .slice p2 c.globals.length q2, .slice p3 c.infos.length q3, .slice p4 c.ins.length q4]⟩, ⟨2, b6, 31, [.slice r1 c.cons.length s1, .slice r2 c.globals.length s2, .slice r3 c.infos.length s3, .slice r4 c.ins.length s4]⟩]) (fun j => j) (fun _ => []) (fun j => F5.le j) (fun G hG => ?_) ?_)
  · refine VC.go 100 ?_
    simp only [push_cast, ↓reduceIte, Nat.reduceEqDiff, Nat.reduceAdd, Nat.reduceMul, Nat.reduceSub, Nat.reduceLT, Nat.reduceLeDiff, reduceCtorEq, Nat.reduceMod, Int.reduceEq, Int.reduceLT, Int.reduceLE, Int.reduceToNat, dite_true]
    refine VC.loopW (ι := Nat × PH) (fun j => [(9, .v (i64v j.1)), (1, .o 0 b1 0), (3, .o 1 b3 0), (6, .o 2 b6 0)]) (fun _ => [⟨0, b1, 25, [.slice pd ds.length cd, .slice pb bs.length cb]⟩, ⟨1, b3, 31, [.slice p1 c.cons.length q1, .slice p2 c.globals.length q2, .slice p3 c.infos.length q3, .slice p4 c.ins.length q4]⟩, ⟨2, b6, 31, [.slice r1 c.cons.length s1, .slice r2 c.globals.length s2, .slice r3 c.infos.length s3, .slice r4 c.ins.length s4]⟩]) (fun j => j.2) (fun _ => []) (fun j => j.1 ≤ c.globals.length ∧ F5.le j.2) (fun j => c.globals.length - j.1) (0, F5) ⟨Nat.zero_le _, PH.le_refl _⟩ (by simp [subk, Eng.look]) (List.Sublist.refl _) rfl (subR_refl _) ?_
    rintro ⟨i, F6⟩ ⟨hi, hF6⟩ G1 hG1
    dsimp only at hi hF6 hG1 ⊢
    refine VC.go 100 ?_
    by_cases h : i < c.globals.length
    case neg =>
      have h' : ¬ (i : Int) < (c.globals.length : Int) := by omega
      simp only [push_cast, ↓reduceIte, Nat.reduceEqDiff, Nat.reduceAdd, Nat.reduceMul, Nat.reduceSub, Nat.reduceLT, Nat.reduceLeDiff, reduceCtorEq, Nat.reduceMod, Int.reduceEq, Int.reduceLT, Int.reduceLE, Int.reduceToNat, dite_true, h']
      exact hG F6 _ hF6 (by simp [subk, Eng.look]) (List.Sublist.refl _) rfl (subR_refl _)
    have h' : (i : Int) < (c.globals.length : Int) := by omega
    have h0 : (0 : Int) ≤ (i : Int) := by omega
    have e2 : IntKind.i64.wrap ((i : Int) + 1) = ((i + 1 : Nat) : Int) := wadd i h (Nat.le_trans l2 m2)
    have hat := List.getElem?_eq_getElem h
    obtain ⟨bd, hbm, hbn⟩ := compiles_globs hcomp _ (List.getElem_mem h)
    have hsz := V.sizeBs_mem hbm
    have hsz2 := V.bsize_eq bd
    obtain ⟨qa, _, csa, eq, _, _, kla, kra⟩ := (hc'.globals.mono (R' := RNum) (PH.le_trans hF15 hF6) (fun _ _ _ h => h)).elem (by decide) hat (fun _ _ h => h.len)
    cases eq
    unfold RNum at kra
    subst kra
    have hat2 : (c.globals.map turnA)[i]? = some (turnA c.globals[i]) := by rw [List.getElem?_map, hat]; rfl
    obtain ⟨qb, _, csb, eq, _, _, klb, krb⟩ := (hcc'.globals.mono (R' := RNum) (PH.le_trans hF35 hF6) (fun _ _ _ h => h)).elem (by decide) hat2 (fun _ _ h => h.len)
    rw [List.length_map] at eq
    cases eq
    unfold RNum at krb
    subst krb
    have k0 := cell_at kla (o := 0) rfl
    have k1 := cell_at kla (o := 1) rfl
    have j0 := cell_at klb (o := 0) rfl
    have j1 := cell_at klb (o := 1) rfl
    simp only [push_cast, ↓reduceIte, Nat.reduceEqDiff, Nat.reduceAdd, Nat.reduceMul, Nat.reduceSub, Nat.reduceLT, Nat.reduceLeDiff, reduceCtorEq, Nat.reduceMod, Int.reduceEq, Int.reduceLT, Int.reduceLE, Int.reduceToNat, dite_true, h']
    refine VC.draw (.q 0 (.q 1 (.q 2 (.q 3 (.q 4 (.q 5 (.q 7 (.q 8 (.q 9 (.q 10 (.q 11 (.q 12 (.e 6 (.q 13 (.q 14 (.q 15 (.q 16 (.q 17 (.q 18 (.q 19 (.q 20 (.q 21 (.q 22 (.q 23 (.q 24 (.q 25 (.q 26 (.q 27 (.q 28 (.done)))))))))))))))))))))))))))))) mixed (by rfl) ?_
    simp only [push_cast, ↓reduceIte, Nat.reduceEqDiff, Nat.reduceAdd, Nat.reduceMul, Nat.reduceSub, Nat.reduceLT, Nat.reduceLeDiff, reduceCtorEq, Nat.reduceMod, Int.reduceEq, Int.reduceLT, Int.reduceLE, Int.reduceToNat, dite_true, h', h0, k0, j0]
    refine CallV.pure (turned F6 (c.globals[i]).1 (by rw [hbn]; omega)) ?_
    rintro _ F7 hF7 rfl
    have k1' := PH.le.cell hF7 k1
    have j1' := PH.le.cell hF7 j1
    simp only [push_cast, ↓reduceIte, Nat.reduceEqDiff, Nat.reduceAdd, Nat.reduceMul, Nat.reduceSub, Nat.reduceLT, Nat.reduceLeDiff, reduceCtorEq, Nat.reduceMod, Int.reduceEq, Int.reduceLT, Int.reduceLE, Int.reduceToNat, dite_true, h', h0, k1', j1', ne_eq, not_true_eq_false, decide_false]
    refine VC.go 100 ?_
    simp only [push_cast, ↓reduceIte, Nat.reduceEqDiff, Nat.reduceAdd, Nat.reduceMul, Nat.reduceSub, Nat.reduceLT, Nat.reduceLeDiff, reduceCtorEq, Nat.reduceMod, Int.reduceEq, Int.reduceLT, Int.reduceLE, Int.reduceToNat, dite_true, e2]
    exact hG1 (i + 1, F7) _ ⟨by omega, PH.le_trans hF6 hF7⟩ (by simp; omega) (by simp [subk, Eng.look]) (List.Sublist.refl _) rfl (subR_refl _)
  intro F6 hF6
  have hF16 := PH.le_trans hF15 hF6
  have hF36 := PH.le_trans hF35 hF6
  refine VC.go 100 ?_
  simp only [push_cast, ↓reduceIte, Nat.reduceEqDiff, Nat.reduceAdd, Nat.reduceMul, Nat.reduceSub, Nat.reduceLT, Nat.reduceLeDiff, reduceCtorEq, Nat.reduceMod, Int.reduceEq, Int.reduceLT, Int.reduceLE, Int.reduceToNat, dite_true]
  have z1 : RCode F6 ⟨c.cons, [], c.infos, c.ins⟩ (.slice p1 c.cons.length q1) (.slice none 0 0) (.slice p3 c.infos.length q3) (.slice p4 c.ins.length q4) := ⟨hc'.cons.mono hF16 fun _ _ _ h => h, nil_sle _ _ _, hc'.infos.mono hF16 fun _ _ _ h => h, hc'.ins.mono hF16 fun _ _ _ h => h.mono hF16⟩
  have z2 : RCode F6 ⟨c.cons, [], c.infos, c.ins⟩ (.slice r1 c.cons.length s1) (.slice none 0 0) (.slice r3 c.infos.length s3) (.slice r4 c.ins.length s4) := ⟨hcc'.cons.mono hF36 fun _ _ _ h => h, nil_sle _ _ _, hcc'.infos.mono hF36 fun _ _ _ h => h, hcc'.ins.mono hF36 fun _ _ _ h => h.mono hF36⟩
  refine CallV.pure (same12 F6 _ _ _ _ _ _ _ _ _ z1 z2) ?_
  rintro _ F7 hF7 rfl
  simp only [push_cast, ↓reduceIte, Nat.reduceEqDiff, Nat.reduceAdd, Nat.reduceMul, Nat.reduceSub, Nat.reduceLT, Nat.reduceLeDiff, reduceCtorEq, Nat.reduceMod, Int.reduceEq, Int.reduceLT, Int.reduceLE, Int.reduceToNat, dite_true]
  exact RetOk.p rfl rfl
end Go.Proofs.YtoepmdbicdoieaaDoor.M
