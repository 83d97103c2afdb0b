/- 'middenlaw13.GenTexts': a text's code is its program's, whatever blanks there are: the law. -/
import Derived.Test.YtoepmdbicdoieaaDoorR4
import Derived.Test.YtoepmdbicdoieaaDoorR7
import Derived.Test.YtoepmdbicdoieaaDoorR8
import Derived.Test.YtoepmdbicdoieaaDoorW12
import Derived.Test.YtoepmdbicdoieaaDoorN4
namespace Go.Proofs.YtoepmdbicdoieaaDoor.X
open Go Go.Eng Go.RowKit Go.Proofs Go.Proofs.YtoepmdbicdoieaaDoor.T Go.Proofs.YtoepmdbicdoieaaDoor.V Go.Proofs.YtoepmdbicdoieaaDoor.K Go.Proofs.YtoepmdbicdoieaaDoor.U
open Go.Proofs.YtoepmdbicdoieaaDoor.J (compiles_one same12)
open Go.Proofs.YtoepmdbicdoieaaDoor.W (i64v ptr RowE RMk RIns RInf RArm RNum CompQ RCode Right sle_one)
set_option linter.unusedSimpArgs false
set_option linter.unusedVariables false
set_option maxRecDepth 100000
set_option maxHeartbeats 4000000
def wkX : Exp := .mk 4 0 ⟨#[]⟩ 5 [] [] [] []
def wkB : Bind := .mk (bs [109, 97, 105, 110]) 0 [] wkX
abbrev nilV : Value := .slice none 0 0
def wkS : Sc := stepQ (env [] [wkB]) 0 ([], wkX) [] (begins [wkB])
theorem wk_check : (checkC [] [wkB]).e = 0 := by decide +kernel
theorem wk_run : RunQ (env [] [wkB]) 0 (begins [wkB]) wkS :=
  .step ([], wkX) [] rfl rfl rfl (.stop fun h => by have := h.1; revert this; decide)
theorem wk_facts : wkS.big = false ∧ wkS.ins.length = 2 ∧ wkS.infos.length = 1 := by decide
theorem wk_ins : ∃ i0 i1, wkS.ins = [i0, i1] ∧ i0.makes = [⟨2, 0, 5, []⟩] := ⟨_, _, rfl, rfl⟩
theorem wk_at (F : PH) : ExpAt F wkX nilV nilV nilV nilV := ⟨⟨none, 0, rfl, Nat.le_refl _, Nat.zero_le _, rfl, fun h => absurd h (by simp [wkX, Exp.atoms])⟩, nil_sle _ _ _, nil_sle _ _ _, nil_sle _ _ _⟩
theorem wkBr (F : PH) : RBind F wkB (.string (bs [109, 97, 105, 110]) :: .int .i64 0 :: nilV :: expCells wkX nilV nilV nilV nilV) := RBind_iff.2 ⟨nilV, _, rfl, nil_strs F, RExp_iff.2 ⟨_, _, _, _, rfl, wk_at F⟩⟩
theorem awake13 (F : PH) (hT : P.Table F) : PFn Tryd.prog 9 [] F (fun v _ => v = .bool true) := by
  refine Fn.intro (n := 43) (ts := [0]) Tryd.func9 rfl rfl rfl rfl (by simp) fun B hB => VC.go 100 ?_
  simp only [push_cast, ↓reduceIte, Nat.reduceEqDiff, Nat.reduceAdd, Nat.reduceMul, Nat.reduceSub, Nat.reduceLT, Nat.reduceLeDiff, reduceCtorEq, Nat.reduceMod, Int.reduceEq, Int.reduceLT, Int.reduceLE, Int.reduceToNat, dite_true]
  intro b8 F1 hF1 hb8
  refine CallV.pure (W.compile [] [wkB] F1 nilV (.slice (some ⟨b8, 0, none⟩) 1 1) (nil_sle _ _ _) (sle_one hb8 rfl (wkBr F1)) (hT.mono hF1) (by decide) (by decide) N.right_right) ?_
  rintro _ F2 hF2 ⟨c, at_, e, vc, vg, vi, vn, rfl, hc, hcomp⟩
  have hcode : c = codeOf [] [wkB] wkS ∧ at_ = 0 ∧ e = 0 := by
    refine compiles_one hcomp ?_
    unfold Compiles
    rw [if_pos wk_check]
    exact ⟨wkS, wk_run, rfl, by rw [if_neg (by rw [wk_facts.1]; decide)]; exact ⟨rfl, rfl⟩⟩
  obtain ⟨rfl, rfl, rfl⟩ := hcode
  obtain ⟨i0, i1, hins, hmk⟩ := wk_ins
  have h1 := hc.cons
  have h2 := hc.globals
  have h3 := hc.infos
  have h4 := hc.ins
  obtain ⟨p1, c1, rfl, _, _⟩ := h1.val
  obtain ⟨p2, c2, rfl, _, _⟩ := h2.val
  obtain ⟨p3, c3, rfl, _, _⟩ := h3.val
  have h4' := h4
  obtain ⟨p4, c4, rfl, _, _⟩ := h4.val
  have el3 : (codeOf [] [wkB] wkS).infos.length = 1 := wk_facts.2.2
  have el4 : (codeOf [] [wkB] wkS).ins.length = 2 := wk_facts.2.1
  obtain ⟨q, _, cs, eq, _, _, kl, kr⟩ := h4'.elem (by decide) (i := 0) (a := i0) (by show wkS.ins[0]? = _; rw [hins]; rfl) (fun _ _ h => h.len)
  cases eq
  obtain ⟨vl, vk, vm, va, rfl, _, _, hm, _⟩ := kr
  rw [hmk] at hm
  obtain ⟨q2, _, cs2, eq, _, _, kl2, kr2⟩ := hm.elem (by decide) (i := 0) (a := ⟨2, 0, 5, []⟩) rfl (fun _ _ h => h.len)
  subst eq
  obtain ⟨vf, rfl, _⟩ := kr2
  rw [Nat.zero_mul, add_zero'] at kl kl2
  have k5 := cell_at kl (o := 5) rfl
  have k2 := cell_at kl2 (o := 2) rfl
  simp only [push_cast, ↓reduceIte, Nat.reduceEqDiff, Nat.reduceAdd, Nat.reduceMul, Nat.reduceSub, Nat.reduceLT, Nat.reduceLeDiff, reduceCtorEq, Nat.reduceMod, Int.reduceEq, Int.reduceLT, Int.reduceLE, Int.reduceToNat, dite_true, el3, el4, Nat.zero_mul, add_zero', k5, k2, Int.reduceAdd]
  intro b
  exact RetOk.p rfl rfl
theorem datas_go {l : List Tok} {e : Int} {r s : Rd} {ds : List Dat} (h : DatasR l e r ds s) : r.at_ ≤ l.length → r.at_ + ds.length ≤ s.at_ ∧ s.at_ ≤ l.length := by
  induction h with
  | done _ => intro hr; exact ⟨by simp, hr⟩
  | @more r ds s h _ ih =>
    intro hr
    obtain ⟨g1, g2, _⟩ := go_on (isR_k h)
    have g3 := (go_kind (e := e) (k := 2) (by decide) g1.lt).1
    have g4 := (go_kind (e := e) (k := 4) (by decide) g3.lt).1
    have g5 := go_want (e := e) (s := ⟨#[59]⟩) g4.lt
    obtain ⟨k1, k2⟩ := ih g5.lt
    have := g3.le; have := g4.le; have := g5.le
    refine ⟨?_, k2⟩
    rw [List.length_cons]
    omega
theorem parse_few {s : ByteArray} {ds : List Dat} {bs : List Bind} {a e : Int} (h : ParseR s ds bs a e) (hl : (scanAll s).1.length ≤ 16384) : ds.length ≤ 16384 ∧ (¬ e = 0 → bs = []) := by
  unfold ParseR at h
  split at h
  · obtain ⟨ds', r1, bs', r2, h1, _, h3⟩ := h
    have := datas_go h1 (Nat.zero_le _)
    split at h3
    · obtain ⟨rfl, rfl, _⟩ := h3; exact ⟨Nat.zero_le _, fun _ => rfl⟩
    · obtain ⟨rfl, rfl, _, rfl⟩ := h3; exact ⟨by omega, fun h => absurd rfl h⟩
  · obtain ⟨rfl, rfl, _⟩ := h; exact ⟨Nat.zero_le _, fun _ => rfl⟩
theorem scanE_few (s : ByteArray) : ∀ n a l, n = s.size - a → (scanE s a l).1.length ≤ l.length + (s.size - a)
  | n, a, l, hn => by
    rw [scanE_eq]
    by_cases h : a < s.size
    · rw [if_pos h]
      by_cases he : (oneP s a).2.2 = 0
      · rw [if_neg (show ¬ ¬ (oneP s a).2.2 = 0 from fun k => k he)]
        split
        · exact Nat.zero_le _
        · have h1 := next_lt h he
          have h2 := scanE_few s (s.size - skipE s (oneP s a).2.1.toNat) _ (l ++ [(oneP s a).1]) rfl
          rw [List.length_append, List.length_singleton] at h2
          omega
      · rw [if_pos he]; exact Nat.zero_le _
    · rw [if_neg h]; exact Nat.le_add_right _ _
  termination_by n a l => s.size - a
theorem scan_few (s : ByteArray) : (scanAll s).1.length ≤ 16384 := by
  unfold scanAll
  split
  · exact Nat.zero_le _
  · have := scanE_few s _ (skipE s 0) [] rfl
    rw [List.length_nil] at this
    omega
theorem law_texts (s : ByteArray) (F : PH) (hT : P.Table F) : PFn Tryd.prog 6 [.string s] F (fun v _ => v = .bool true) := by
  refine Fn.intro (n := 72) (ts := [2]) Tryd.func6 rfl rfl rfl rfl (by simp) fun B hB => VC.go 100 ?_
  simp only [push_cast, ↓reduceIte, Nat.reduceEqDiff, Nat.reduceAdd, Nat.reduceMul, Nat.reduceSub, Nat.reduceLT, Nat.reduceLeDiff, reduceCtorEq, Nat.reduceMod, Int.reduceEq, Int.reduceLT, Int.reduceLE, Int.reduceToNat, dite_true]
  refine CallV.pure (parse s F) ?_
  rintro _ F1 hF1 ⟨vd, vb, a, e, ds, bl, rfl, hd, hb, hsz, hp⟩
  have hd' := hd
  have hb' := hb
  obtain ⟨pd, cd, rfl, _, _⟩ := hd.val
  obtain ⟨pb, cb, rfl, _, _⟩ := hb.val
  simp only [push_cast, ↓reduceIte, Nat.reduceEqDiff, Nat.reduceAdd, Nat.reduceMul, Nat.reduceSub, Nat.reduceLT, Nat.reduceLeDiff, reduceCtorEq, Nat.reduceMod, Int.reduceEq, Int.reduceLT, Int.reduceLE, Int.reduceToNat, dite_true]
  intro b3
  by_cases he : e = 0
  case neg =>
    simp only [push_cast, ↓reduceIte, Nat.reduceEqDiff, Nat.reduceAdd, Nat.reduceMul, Nat.reduceSub, Nat.reduceLT, Nat.reduceLeDiff, reduceCtorEq, Nat.reduceMod, Int.reduceEq, Int.reduceLT, Int.reduceLE, Int.reduceToNat, dite_true, he]
    refine CallV.pure (awake13 F1 (hT.mono hF1)) ?_
    rintro _ F2 hF2 rfl
    simp only [push_cast, ↓reduceIte, Nat.reduceEqDiff, Nat.reduceAdd, Nat.reduceMul, Nat.reduceSub, Nat.reduceLT, Nat.reduceLeDiff, reduceCtorEq, Nat.reduceMod, Int.reduceEq, Int.reduceLT, Int.reduceLE, Int.reduceToNat, dite_true]
    exact RetOk.p rfl rfl
  simp only [push_cast, ↓reduceIte, Nat.reduceEqDiff, Nat.reduceAdd, Nat.reduceMul, Nat.reduceSub, Nat.reduceLT, Nat.reduceLeDiff, reduceCtorEq, Nat.reduceMod, Int.reduceEq, Int.reduceLT, Int.reduceLE, Int.reduceToNat, dite_true, eq_true he]
  refine CallV.pure (scan s F1) ?_
  rintro _ F2 hF2 ⟨sl, rfl, htok, hfew, hshort⟩
  have htok' := htok
  obtain ⟨pt, ct, rfl, _, _⟩ := htok.val
  simp only [push_cast, ↓reduceIte, Nat.reduceEqDiff, Nat.reduceAdd, Nat.reduceMul, Nat.reduceSub, Nat.reduceLT, Nat.reduceLeDiff, reduceCtorEq, Nat.reduceMod, Int.reduceEq, Int.reduceLT, Int.reduceLE, Int.reduceToNat, dite_true]
  refine CallV.pure (join _ (fun x hx => ⟨scan_ok s x hx, hshort x hx⟩) F2 _ htok') ?_
  rintro _ F3 hF3 ⟨t, f, rfl, hj⟩
  simp only [push_cast, ↓reduceIte, Nat.reduceEqDiff, Nat.reduceAdd, Nat.reduceMul, Nat.reduceSub, Nat.reduceLT, Nat.reduceLeDiff, reduceCtorEq, Nat.reduceMod, Int.reduceEq, Int.reduceLT, Int.reduceLE, Int.reduceToNat, dite_true]
  by_cases hf : f = 0
  case neg =>
    simp only [push_cast, ↓reduceIte, Nat.reduceEqDiff, Nat.reduceAdd, Nat.reduceMul, Nat.reduceSub, Nat.reduceLT, Nat.reduceLeDiff, reduceCtorEq, Nat.reduceMod, Int.reduceEq, Int.reduceLT, Int.reduceLE, Int.reduceToNat, dite_true, hf]
    refine CallV.pure (awake13 F3 (hT.mono (PH.le_trans hF1 (PH.le_trans hF2 hF3)))) ?_
    rintro _ F4 hF4 rfl
    simp only [push_cast, ↓reduceIte, Nat.reduceEqDiff, Nat.reduceAdd, Nat.reduceMul, Nat.reduceSub, Nat.reduceLT, Nat.reduceLeDiff, reduceCtorEq, Nat.reduceMod, Int.reduceEq, Int.reduceLT, Int.reduceLE, Int.reduceToNat, dite_true]
    exact RetOk.p rfl rfl
  obtain ⟨rfl, ht1, ht2⟩ := hj hf
  simp only [push_cast, ↓reduceIte, Nat.reduceEqDiff, Nat.reduceAdd, Nat.reduceMul, Nat.reduceSub, Nat.reduceLT, Nat.reduceLeDiff, reduceCtorEq, Nat.reduceMod, Int.reduceEq, Int.reduceLT, Int.reduceLE, Int.reduceToNat, dite_true, eq_true hf]
  refine CallV.pure (parse _ F3) ?_
  rintro _ F4 hF4 ⟨vd', vb', a', e', ds', bl', rfl, kd, kb, ksz, kp⟩
  have kd' := kd
  have kb' := kb
  obtain ⟨pd', cd', rfl, _, _⟩ := kd.val
  obtain ⟨pb', cb', rfl, _, _⟩ := kb.val
  simp only [push_cast, ↓reduceIte, Nat.reduceEqDiff, Nat.reduceAdd, Nat.reduceMul, Nat.reduceSub, Nat.reduceLT, Nat.reduceLeDiff, reduceCtorEq, Nat.reduceMod, Int.reduceEq, Int.reduceLT, Int.reduceLE, Int.reduceToNat, dite_true]
  intro b11
  have hF14 := PH.le_trans hF2 (PH.le_trans hF3 hF4)
  have hscan : (scanAll s).2.2 = 0 := by
    unfold ParseR at hp
    split at hp
    · assumption
    · exact (hp.2.2.2).symm.trans he
  obtain ⟨hback1, hback2⟩ := scan_back (fun x hx => ⟨scan_ok s x hx, hshort x hx, ht2 x hx⟩) ht1
  obtain ⟨hed, heb⟩ := parse_sim hscan hback1 hback2.symm hp kp
  have f1 := parse_few hp (scan_few _)
  have f2 := parse_few kp (scan_few _)
  have s1 : sizeBs bl ≤ 4000000 := by have := hsz he; omega
  have s2 : sizeBs bl' ≤ 4000000 := by
    by_cases h : e' = 0
    · have := ksz h; omega
    · rw [f2.2 h]; exact Nat.zero_le _
  refine CallV.pure (W.compile ds bl F4 _ _ (hd'.mono' hF14) (hb'.mono hF14 fun _ _ _ h => h.mono hF14) (hT.mono (PH.le_trans hF1 hF14)) s1 (by omega) N.right_right) ?_
  rintro _ F5 hF5 ⟨c, at_, g, vc, vg, vi, vn, rfl, hc, hcomp⟩
  have hc' := hc
  obtain ⟨p1, c1, rfl, _, _⟩ := hc.cons.val
  obtain ⟨p2, c2, rfl, _, _⟩ := hc.globals.val
  obtain ⟨p3, c3, rfl, _, _⟩ := hc.infos.val
  obtain ⟨p4, c4, rfl, _, _⟩ := hc.ins.val
  simp only [push_cast, ↓reduceIte, Nat.reduceEqDiff, Nat.reduceAdd, Nat.reduceMul, Nat.reduceSub, Nat.reduceLT, Nat.reduceLeDiff, reduceCtorEq, Nat.reduceMod, Int.reduceEq, Int.reduceLT, Int.reduceLE, Int.reduceToNat, dite_true]
  intro b14
  refine CallV.pure (W.compile ds' bl' F5 _ _ (kd'.mono' hF5) (kb'.mono hF5 fun _ _ _ h => h.mono hF5) (hT.mono (PH.le_trans hF1 (PH.le_trans hF14 hF5))) s2 (by omega) N.right_right) ?_
  rintro _ F6 hF6 ⟨c', at', g', vc', vg', vi', vn', rfl, kc, hcomp'⟩
  have kc' := kc
  obtain ⟨rfl, rfl⟩ := compiles_sim hcomp hcomp' hed heb
  obtain ⟨q1, d1, rfl, _, _⟩ := kc.cons.val
  obtain ⟨q2, d2, rfl, _, _⟩ := kc.globals.val
  obtain ⟨q3, d3, rfl, _, _⟩ := kc.infos.val
  obtain ⟨q4, d4, rfl, _, _⟩ := kc.ins.val
  simp only [push_cast, ↓reduceIte, Nat.reduceEqDiff, Nat.reduceAdd, Nat.reduceMul, Nat.reduceSub, Nat.reduceLT, Nat.reduceLeDiff, reduceCtorEq, Nat.reduceMod, Int.reduceEq, Int.reduceLT, Int.reduceLE, Int.reduceToNat, dite_true]
  intro b17
  refine CallV.pure (awake13 F6 (hT.mono (PH.le_trans hF1 (PH.le_trans hF14 (PH.le_trans hF5 hF6))))) ?_
  rintro _ F7 hF7 rfl
  simp only [push_cast, ↓reduceIte, Nat.reduceEqDiff, Nat.reduceAdd, Nat.reduceMul, Nat.reduceSub, Nat.reduceLT, Nat.reduceLeDiff, reduceCtorEq, Nat.reduceMod, Int.reduceEq, Int.reduceLT, Int.reduceLE, Int.reduceToNat, dite_true]
  refine CallV.pure (same12 F7 c _ _ _ _ _ _ _ _ (hc'.mono (PH.le_trans hF6 hF7)) (kc'.mono hF7)) ?_
  rintro _ F8 hF8 rfl
  simp only [push_cast, ↓reduceIte, Nat.reduceEqDiff, Nat.reduceAdd, Nat.reduceMul, Nat.reduceSub, Nat.reduceLT, Nat.reduceLeDiff, reduceCtorEq, Nat.reduceMod, Int.reduceEq, Int.reduceLT, Int.reduceLE, Int.reduceToNat, dite_true]
  exact RetOk.p rfl rfl
end Go.Proofs.YtoepmdbicdoieaaDoor.X
