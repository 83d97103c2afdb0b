/- gen: a form that waits. -/
import Derived.Test.YtoepmdbicdoieaaDoorW4
namespace Go.Proofs.YtoepmdbicdoieaaDoor.W
open Go Go.Eng Go.Proofs Go.Proofs.YtoepmdbicdoieaaDoor.T Go.Proofs.YtoepmdbicdoieaaDoor.K Go.Proofs.YtoepmdbicdoieaaDoor.U
set_option linter.unusedSimpArgs false
set_option linter.unusedVariables false
set_option maxRecDepth 100000
set_option maxHeartbeats 4000000
def QRowE {α : Type} (r : PH) (e : TypeId) (sz : Nat) (R : α → List Value → Prop) (v : Value) (l : List α) : Prop := ∃ xs, QRow r e sz v xs ∧ Each R l xs
theorem QRowE.mono {α : Type} {r : PH} {e : TypeId} {sz : Nat} {R R' : α → List Value → Prop} {v : Value} {l : List α} (h : QRowE r e sz R v l) (hR : ∀ a ∈ l, ∀ c, R a c → R' a c) : QRowE r e sz R' v l :=
  let ⟨xs, h1, h2⟩ := h; ⟨xs, h1, h2.mono hR⟩
/-- A form in memory. -/
def RFrm (F : PH) (f : Frm) (cs : List Value) : Prop := ∃ v c, cs = v :: c ∧ Strs F v f.1 ∧ RExp F f.2 c
theorem RFrm.mono {F G : PH} (hl : F.le G) {f : Frm} {cs : List Value} (h : RFrm F f cs) : RFrm G f cs := let ⟨v, c, h1, h2, h3⟩ := h; ⟨v, c, h1, h2.mono hl, h3.mono hl⟩
theorem RFrm.len {F : PH} {f : Frm} {cs : List Value} (h : RFrm F f cs) : cs.length = 9 := by obtain ⟨v, c, rfl, _, h⟩ := h; simp [h.len]
abbrev Waits := Nat × Frm × List ByteArray
/-- A form that waits: its closure. -/
def RQ (F : PH) (sb : Nat) (x : Waits) (cs : List Value) : Prop := ∃ bs bn bf bd bk fc vd kd,
  cs = [.func (.func 41) #[] #[ptr bs, ptr bn, ptr bf, ptr bd, ptr bk]] ∧ F bs = some (.cells #[ptr sb] 66 (0, 0)) ∧ F bn = some (.cells #[i64v x.1] 3 (0, 0)) ∧
  F bf = some (.cells fc.toArray 51 (0, 0)) ∧ RFrm F x.2.1 fc ∧ F bd = some (.cells #[vd] 44 (0, 0)) ∧ Strs F vd x.2.2 ∧ F bk = some (.cells #[i64v kd, i64v x.2.1.1.length, i64v x.2.2.length, i64v 0] 41 (0, 0))
theorem RQ.mono {F G : PH} (hl : F.le G) {sb : Nat} {x : Waits} {cs : List Value} (h : RQ F sb x cs) : RQ G sb x cs :=
  let ⟨bs, bn, bf, bd, bk, fc, vd, kd, h1, h2, h3, h4, h5, h6, h7, h8⟩ := h; ⟨bs, bn, bf, bd, bk, fc, vd, kd, h1, hl _ _ h2, hl _ _ h3, hl _ _ h4, h5.mono hl, hl _ _ h6, h7.mono hl, hl _ _ h8⟩
theorem RQ.len {F : PH} {sb : Nat} {x : Waits} {cs : List Value} (h : RQ F sb x cs) : cs.length = 1 := by obtain ⟨_, _, _, _, _, _, _, _, rfl, _⟩ := h; rfl
theorem QRowE.val {α : Type} {R : α → List Value → Prop} {r : PH} {t : TypeId} {sz : Nat} {v : Value} {l : List α} (hpos : 0 < sz) (hsz : ∀ a c, R a c → c.length = sz) (hr : QRowE r t sz R v l) : ∃ p c, v = .slice p l.length c ∧ l.length ≤ c ∧ c ≤ maxLen := by
  obtain ⟨xs, h1, h2⟩ := hr
  obtain ⟨p, m, c, rfl, h3, h4, h5⟩ := h1.len
  have := h2.len hsz
  obtain rfl : m = l.length := Nat.eq_of_mul_eq_mul_right hpos (by rw [← h3, this])
  exact ⟨p, c, rfl, h4, h5⟩
theorem no_cell {F : PH} {b : Nat} (h : F b = none) (j : Nat) : F.cell ⟨b, j, none⟩ = none := cell_none h
theorem info (F : PH) (sb : Nat) (vc vg vi vn mc mt vq : Value) (big : Bool) (ri rq : PH) (li : List Inf) (lq : List Waits) (f : Frm) (need : List ByteArray) (fc : List Value) (vd : Value)
    (h1 : vc.oneCell' = true) (h2 : vg.oneCell' = true) (h3 : vn.oneCell' = true) (h4 : mc.oneCell' = true) (h5 : mt.oneCell' = true)
    (hf : RFrm F f fc) (hd : Strs F vd need) (hi : RowE ri 41 4 RInf vi li) (hq : QRowE rq 1 1 (RQ F sb) vq lq) (hb : li.length ≤ 100000000) (hb1 : lq.length ≤ 100000000) :
    Eng.Fn Tryd.prog 19 [ptr sb, .agg fc.toArray, vd] F [cell1 sb 70 (schC vc vg vi vn mc mt vq big), ri, rq]
      (fun v F' R' => v = i64v li.length ∧ ∃ vi' vq' ri' rq', R' = [cell1 sb 70 (schC vc vg vi' vn mc mt vq' (big || decide (255 < need.length))), ri', rq'] ∧
        RowE ri' 41 4 RInf vi' (li ++ [⟨if f.1.length = 0 then 6 else 3, f.1.length, need.length, 0⟩]) ∧ QRowE rq' 1 1 (RQ F' sb) vq' (lq ++ [(li.length, f, need)])) := by
  obtain ⟨pi, ci, rfl, hi1, hi2⟩ := hi.val (by decide) (fun _ _ h => h.len)
  obtain ⟨pq, cq, rfl, hq1, hq2⟩ := hq.val (by decide) (fun _ _ h => h.len)
  have hd' := hd
  have hf' := hf
  obtain ⟨pd, cd, rfl, hd1, hd2, hd3⟩ := hd
  obtain ⟨va, ec, rfl, hva, hec⟩ := hf
  obtain ⟨pv, cv, rfl, hv1, hv2, hv3⟩ := hva
  obtain ⟨wa, wb, we, wl, rfl, wx⟩ := RExp_iff.1 hec
  obtain ⟨pa, ca, pb, cb, pe, ce, pl, cl, rfl, rfl, rfl, rfl⟩ := wx.slices
  refine SFn.intro (n := 60) (ts := [6]) Tryd.func19 rfl rfl rfl rfl (by simp) fun B hB => VC.fnone (m := ⟨0, sb, _, _⟩) List.mem_cons_self fun hsb => ?_
  have hno := no_cell hsb
  refine VC.go 6 ?_
  simp only [push_cast, ↓reduceIte, Nat.reduceEqDiff, Nat.reduceAdd, Nat.reduceMul, Nat.reduceSub, Nat.reduceLT, Nat.reduceLeDiff, reduceCtorEq, Nat.reduceMod, Int.reduceEq, Int.reduceLT, Int.reduceLE, Int.reduceToNat, dite_true, hno, add_own]
  intro b b1 b2 b3 b4
  refine VC.seq (VC.cutW (ι := Unit) (fun _ => [(3, .o 1 b 0), (4, .o 2 b1 0), (5, .o 3 b2 0), (7, .o 4 b3 0), (8, .o 5 b4 0)]) (fun _ => [⟨0, sb, 70, schC vc vg (.slice pi li.length ci) vn mc mt (.slice pq lq.length cq) big⟩, ⟨1, b, 66, [ptr sb]⟩, ⟨2, b1, 51, (.slice pv f.1.length cv :: expCells f.2 (.slice pa f.2.atoms.length ca) (.slice pb f.2.binds.length cb) (.slice pe f.2.kids.length ce) (.slice pl f.2.alts.length cl))⟩, ⟨3, b2, 44, [.slice pd need.length cd]⟩, ⟨4, b3, 3, [i64v li.length]⟩, ⟨5, b4, 41, [i64v (if f.1.length = 0 then 6 else 3), i64v f.1.length, i64v need.length, i64v 0]⟩]) (fun _ => F) (fun _ => [ri, rq]) (fun _ => True) (fun G hG => ?_) fun _ _ => ?_)
  · refine VC.go 100 ?_
    by_cases h0 : f.1.length = 0
    · have h0' : ¬ (0 : Int) < (f.1.length : Int) := by omega
      simp only [push_cast, ↓reduceIte, Nat.reduceEqDiff, Nat.reduceAdd, Nat.reduceMul, Nat.reduceSub, Nat.reduceLT, Nat.reduceLeDiff, reduceCtorEq, Nat.reduceMod, Int.reduceEq, Int.reduceLT, Int.reduceLE, Int.reduceToNat, dite_true, h0']
      exact hG () _ trivial (by simp [subk, Eng.look]) (by simp [h0]) rfl (subR_refl _)
    · have h0' : (0 : Int) < (f.1.length : Int) := by omega
      simp only [push_cast, ↓reduceIte, Nat.reduceEqDiff, Nat.reduceAdd, Nat.reduceMul, Nat.reduceSub, Nat.reduceLT, Nat.reduceLeDiff, reduceCtorEq, Nat.reduceMod, Int.reduceEq, Int.reduceLT, Int.reduceLE, Int.reduceToNat, dite_true, h0']
      exact hG () _ trivial (by simp [subk, Eng.look]) (by simp [h0]) rfl (subR_refl _)
  refine VC.seq (VC.cutW (ι := Unit) (fun _ => [(3, .o 1 b 0), (4, .o 2 b1 0), (5, .o 3 b2 0), (7, .o 4 b3 0), (8, .o 5 b4 0)]) (fun _ => [⟨0, sb, 70, schC vc vg (.slice pi li.length ci) vn mc mt (.slice pq lq.length cq) (big || decide (255 < need.length))⟩, ⟨1, b, 66, [ptr sb]⟩, ⟨2, b1, 51, (.slice pv f.1.length cv :: expCells f.2 (.slice pa f.2.atoms.length ca) (.slice pb f.2.binds.length cb) (.slice pe f.2.kids.length ce) (.slice pl f.2.alts.length cl))⟩, ⟨3, b2, 44, [.slice pd need.length cd]⟩, ⟨4, b3, 3, [i64v li.length]⟩, ⟨5, b4, 41, [i64v (if f.1.length = 0 then 6 else 3), i64v f.1.length, i64v need.length, i64v 0]⟩]) (fun _ => F) (fun _ => [ri, rq]) (fun _ => True) (fun G hG => ?_) fun _ _ => ?_)
  · refine VC.draw (.q 0 (.q 1 (.q 2 (.q 3 (.q 4 (.q 5 (.q 6 (.q 7 (.q 8 (.q 9 (.q 10 (.q 11 (.es 12 [10] (.done)))))))))))))) mixed (by rfl) ?_
    cases big with
    | true =>
      simp only [push_cast, ↓reduceIte, Nat.reduceEqDiff, Nat.reduceAdd, Nat.reduceMul, Nat.reduceSub, Nat.reduceLT, Nat.reduceLeDiff, reduceCtorEq, Nat.reduceMod, Int.reduceEq, Int.reduceLT, Int.reduceLE, Int.reduceToNat, dite_true, hno, add_own]
      exact VC.done (hG () _ trivial (by simp [subk, Eng.look]) (by simp) rfl (subR_refl _))
    | false =>
      by_cases g : 255 < need.length
      · have g' : (255 : Int) < (need.length : Int) := by omega
        simp only [push_cast, ↓reduceIte, Nat.reduceEqDiff, Nat.reduceAdd, Nat.reduceMul, Nat.reduceSub, Nat.reduceLT, Nat.reduceLeDiff, reduceCtorEq, Nat.reduceMod, Int.reduceEq, Int.reduceLT, Int.reduceLE, Int.reduceToNat, dite_true, hno, add_own, g', Bool.false_eq_true]
        exact VC.done (hG () _ trivial (by simp [subk, Eng.look]) (by simp [g]) rfl (subR_refl _))
      · have g' : ¬ (255 : Int) < (need.length : Int) := by omega
        simp only [push_cast, ↓reduceIte, Nat.reduceEqDiff, Nat.reduceAdd, Nat.reduceMul, Nat.reduceSub, Nat.reduceLT, Nat.reduceLeDiff, reduceCtorEq, Nat.reduceMod, Int.reduceEq, Int.reduceLT, Int.reduceLE, Int.reduceToNat, dite_true, hno, add_own, g', Bool.false_eq_true]
        exact VC.done (hG () _ trivial (by simp [subk, Eng.look]) (by simp [g]) rfl (subR_refl _))
  obtain ⟨xi, hri, hei⟩ := hi
  have hxi := hei.len (fun _ _ h => h.len)
  refine VC.seq (VC.draw (.q 0 (.q 1 (.q 2 (.q 3 (.q 4 (.q 5 (.q 6 (.e 7 (.e 8 (.q 9 (.q 10 (.q 11 (.es 12 [9, 10] (.done)))))))))))))) mixed (by rfl) ?_)
  simp only [push_cast, ↓reduceIte, Nat.reduceEqDiff, Nat.reduceAdd, Nat.reduceMul, Nat.reduceSub, Nat.reduceLT, Nat.reduceLeDiff, reduceCtorEq, Nat.reduceMod, Int.reduceEq, Int.reduceLT, Int.reduceLE, Int.reduceToNat, dite_true, hno, add_own]
  intro b6 F6 hF6 hb6
  refine Eff.append rfl rfl rfl ty28 rfl ty41 rfl (by decide) rfl rfl (.refl _) hri (src_one hb6 rfl) (by simp [Value.oneCell']) (by simp [hxi]; omega) (by decide) fun v6 r6 hr6 => ?_
  obtain ⟨p6, m6, c6, rfl, k1, k2, k3⟩ := hr6.len
  simp only [push_cast, ↓reduceIte, Nat.reduceEqDiff, Nat.reduceAdd, Nat.reduceMul, Nat.reduceSub, Nat.reduceLT, Nat.reduceLeDiff, reduceCtorEq, Nat.reduceMod, Int.reduceEq, Int.reduceLT, Int.reduceLE, Int.reduceToNat, dite_true, hno, add_own]
  have hm6 : m6 = li.length + 1 := by
    rw [List.length_append, hxi] at k1
    simp at k1
    omega
  subst hm6
  refine VC.freeze (List.Perm.swap _ _ _) fun Fa hFa hba => ?_
  refine VC.freeze (List.Perm.swap _ _ _) fun Fb hFb hbb => ?_
  refine VC.freeze (List.Perm.swap _ _ _) fun Fc hFc hbc => ?_
  refine VC.freeze (List.Perm.swap _ _ _) fun Fd hFd hbd => ?_
  refine VC.freeze (List.Perm.swap _ _ _) fun Fe hFe hbe => ?_
  dsimp only at hFa hba hFb hbb hFc hbc hFd hbd hFe hbe
  refine VC.fnone List.mem_cons_self fun hsb2 => ?_
  have hno2 := no_cell hsb2
  dsimp only at hno2
  refine VC.reL [(3, .v (ptr b)), (4, .v (ptr b1)), (5, .v (ptr b2)), (7, .v (ptr b3)), (8, .v (ptr b4))] (by simp [subv, Eng.look, AV.val]) ?_
  have hle1 : Fa.le Fe := PH.le_trans hFb (PH.le_trans hFc (PH.le_trans hFd hFe))
  have hle2 : Fb.le Fe := PH.le_trans hFc (PH.le_trans hFd hFe)
  have hle3 : Fc.le Fe := PH.le_trans hFd hFe
  have g1 : Fe.cell ⟨b, 0, none⟩ = some (ptr sb) := by rw [cell_one (hle1 _ _ hba)]; rfl
  have g2 : Fe.cell ⟨b3, 0, none⟩ = some (i64v li.length) := by rw [cell_one (hFe _ _ hbd)]; rfl
  have hF : F.le Fe := PH.le_trans hF6 (PH.le_trans hFa hle1)
  refine VC.seq (VC.draw (.q 0 (.q 1 (.q 2 (.q 3 (.q 4 (.q 5 (.e 6 (.e 7 (.q 8 (.q 9 (.es 10 [8] (.done)))))))))))) mixed (by rfl) ?_)
  simp only [push_cast, ↓reduceIte, Nat.reduceEqDiff, Nat.reduceAdd, Nat.reduceMul, Nat.reduceSub, Nat.reduceLT, Nat.reduceLeDiff, reduceCtorEq, Nat.reduceMod, Int.reduceEq, Int.reduceLT, Int.reduceLE, Int.reduceToNat, dite_true, hno2, add_own, g1]
  intro b7 F7 hF7 hb7
  obtain ⟨xq, hrq, heq⟩ := hq
  have hxq := heq.len (fun _ _ h => h.len)
  refine Eff.appendQ rfl rfl rfl ty68 rfl ty1 rfl (by decide) rfl rfl (List.Perm.swap _ _ _) hrq (src_one hb7 rfl) (by simp [Value.oneCell']) (by decide) (by simp [hxq]; omega) (by decide) fun v7 r7 hr7 => ?_
  obtain ⟨p7, m7, c7, rfl, l1, l2, l3⟩ := hr7.len
  simp only [push_cast, ↓reduceIte, Nat.reduceEqDiff, Nat.reduceAdd, Nat.reduceMul, Nat.reduceSub, Nat.reduceLT, Nat.reduceLeDiff, reduceCtorEq, Nat.reduceMod, Int.reduceEq, Int.reduceLT, Int.reduceLE, Int.reduceToNat, dite_true, hno2, add_own]
  refine VC.go 100 ?_
  simp only [push_cast, ↓reduceIte, Nat.reduceEqDiff, Nat.reduceAdd, Nat.reduceMul, Nat.reduceSub, Nat.reduceLT, Nat.reduceLeDiff, reduceCtorEq, Nat.reduceMod, Int.reduceEq, Int.reduceLT, Int.reduceLE, Int.reduceToNat, dite_true, hF7.cell g2]
  refine RetOk.r (vs := [_]) rfl (R' := [_, r6, r7]) (fun _ w hs => (Sat.permR (w := w) (RetR.own (i := 0) rfl _ _ hs) (List.Perm.cons _ (List.Perm.swap _ _ _)))) ⟨rfl, _, _, r6, r7, rfl, ⟨_, hr6, each_snoc hei rfl⟩, ?_⟩
  refine ⟨_, hr7, each_snoc (heq.mono fun _ _ _ h => h.mono (PH.le_trans hF hF7)) ⟨b, b3, b1, b2, b4, (.slice pv f.1.length cv :: expCells f.2 (.slice pa f.2.atoms.length ca) (.slice pb f.2.binds.length cb) (.slice pe f.2.kids.length ce) (.slice pl f.2.alts.length cl)), .slice pd need.length cd, if f.1.length = 0 then 6 else 3, rfl, ?_, ?_, ?_, (hf'.mono (PH.le_trans hF hF7)), ?_, (hd'.mono (PH.le_trans hF hF7)), ?_⟩⟩
  · exact hF7 _ _ (hle1 _ _ hba)
  · exact hF7 _ _ (hFe _ _ hbd)
  · exact hF7 _ _ (hle2 _ _ hbb)
  · exact hF7 _ _ (hle3 _ _ hbc)
  · exact hF7 _ _ hbe
end Go.Proofs.YtoepmdbicdoieaaDoor.W
