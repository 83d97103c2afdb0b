/- The document's gen: a form's info; the scheme's state and its calls. -/
import Derived.Test.YtoepmdbicdoieaaDoorJ2
import Derived.Test.YtoepmdbicdoieaaDoorW12
namespace Go.Proofs.YtoepmdbicdoieaaDoor.J
open Go Go.Eng Go.Proofs Go.Proofs.YtoepmdbicdoieaaDoor.T Go.Proofs.YtoepmdbicdoieaaDoor.V Go.Proofs.YtoepmdbicdoieaaDoor.K Go.Proofs.YtoepmdbicdoieaaDoor.U
open Go.Proofs.YtoepmdbicdoieaaDoor.W (i64v ptr Ints RowE findL_append findL_snoc findL_has findL_lt findL_ge RMk RIns RInf RArm RNum RFrm src_one each_snoc nums_len nums_append atomsP_append atomsP_len nil_ints here_take here_len)
set_option linter.unusedSimpArgs false
set_option linter.unusedVariables false
set_option maxRecDepth 100000
set_option maxHeartbeats 4000000
/-- What a form needs, in memory. -/
def RNd (F : PH) (d : List ByteArray) (cs : List Value) : Prop := ∃ v, cs = [v] ∧ Strs F v d
theorem RNd.mono {F G : PH} (hl : F.le G) {d : List ByteArray} {cs : List Value} (h : RNd F d cs) : RNd G d cs := let ⟨v, h1, h2⟩ := h; ⟨v, h1, h2.mono hl⟩
theorem RNd.len {F : PH} {d : List ByteArray} {cs : List Value} (h : RNd F d cs) : cs.length = 1 := by obtain ⟨v, rfl, _⟩ := h; rfl
theorem info (F : PH) (sb : Nat) (vd vb vc vg vi vn vf vw : Value) (big : Bool) (ri rf rw : PH) (li : List Inf) (lf : List Frm) (lw : List (List ByteArray)) (f : Frm) (need : List ByteArray) (fc : List Value) (dv : Value)
    (k1 : vd.oneCell' = true) (k2 : vb.oneCell' = true) (h1 : vc.oneCell' = true) (h2 : vg.oneCell' = true) (h3 : vn.oneCell' = true)
    (hf : RFrm F f fc) (hd : Strs F dv need) (hi : RowE ri 41 4 RInf vi li) (hfs : RowE rf 51 9 (RFrm F) vf lf) (hws : RowE rw 44 1 (RNd F) vw lw) (hb : li.length ≤ 100000000) (hb1 : lf.length ≤ 100000000) (hb2 : lw.length ≤ 100000000) :
    Eng.Fn Tryd.prog 21 [ptr sb, .agg fc.toArray, dv] F [cell1 sb schT (cellsD vd vb vc vg vi vn vf vw big), ri, rf, rw]
      (fun v F' R' => v = i64v li.length ∧ ∃ vi' vf' vw' ri' rf' rw', R' = [cell1 sb schT (cellsD vd vb vc vg vi' vn vf' vw' (big || decide (255 < need.length))), ri', rf', rw'] ∧
        RowE ri' 41 4 RInf vi' (li ++ [⟨if f.1.length = 0 then 6 else 3, f.1.length, need.length, 0⟩]) ∧ RowE rf' 51 9 (RFrm F') vf' (lf ++ [f]) ∧ RowE rw' 44 1 (RNd F') vw' (lw ++ [need])) := by
  obtain ⟨pi, ci, rfl, hi1, hi2⟩ := hi.val (by decide) (fun _ _ h => h.len)
  obtain ⟨pf, cf, rfl, hf1, hf2⟩ := hfs.val (by decide) (fun _ _ h => h.len)
  obtain ⟨pw, cw, rfl, hw1, hw2⟩ := hws.val (by decide) (fun _ _ h => h.len)
  have hd' := hd
  have hf' := hf
  obtain ⟨pd, cd, rfl, hd1, hd2, hd3⟩ := hd
  obtain ⟨va, ec, rfl, hva, hec⟩ := hf
  obtain ⟨pv, cv, rfl, hv1, hv2, hv3⟩ := hva
  obtain ⟨wa, wb, we, wl, rfl, wx⟩ := RExp_iff.1 hec
  obtain ⟨pa, ca, pb, cb, pe, ce, pl, cl, rfl, rfl, rfl, rfl⟩ := wx.slices
  obtain ⟨xi, hri, hei⟩ := hi
  have hxi := hei.len (fun _ _ h => h.len)
  obtain ⟨xf, hrf, hef⟩ := hfs
  have hxf := hef.len (fun _ _ h => h.len)
  obtain ⟨xw, hrw, hew⟩ := hws
  have hxw := hew.len (fun _ _ h => h.len)
  refine SFn.intro (n := 64) (ts := [6]) Tryd.func21 rfl rfl rfl rfl (by simp) fun B hB => ?_
  refine VC.go 4 ?_
  simp only [push_cast, ↓reduceIte, Nat.reduceEqDiff, Nat.reduceAdd, Nat.reduceMul, Nat.reduceSub, Nat.reduceLT, Nat.reduceLeDiff, reduceCtorEq, Nat.reduceMod, Int.reduceEq, Int.reduceLT, Int.reduceLE, Int.reduceToNat, dite_true]
  intro b b2
  refine VC.seq (VC.cutW (ι := Unit) (fun _ => [(0, .o 0 sb 0), (2, .v (.slice pd need.length cd)), (4, .o 1 b 0), (7, .o 2 b2 0)]) (fun _ => [⟨0, sb, schT, cellsD vd vb vc vg (.slice pi li.length ci) vn (.slice pf lf.length cf) (.slice pw lw.length cw) big⟩, ⟨1, b, 51, .slice pv f.1.length cv :: expCells f.2 (.slice pa f.2.atoms.length ca) (.slice pb f.2.binds.length cb) (.slice pe f.2.kids.length ce) (.slice pl f.2.alts.length cl)⟩, ⟨2, b2, 41, [i64v (if f.1.length = 0 then 6 else 3), i64v f.1.length, i64v need.length, i64v 0]⟩]) (fun _ => F) (fun _ => [ri, rf, rw]) (fun _ => True) (fun G hG => ?_) fun _ _ => ?_)
  · refine VC.go 100 ?_
    by_cases h0 : f.1.length = 0
    · have h0' : ¬ (0 : Int) < (f.1.length : Int) := by omega
      simp only [push_cast, ↓reduceIte, Nat.reduceEqDiff, Nat.reduceAdd, Nat.reduceMul, Nat.reduceSub, Nat.reduceLT, Nat.reduceLeDiff, reduceCtorEq, Nat.reduceMod, Int.reduceEq, Int.reduceLT, Int.reduceLE, Int.reduceToNat, dite_true, h0']
      exact hG () _ trivial (by simp [subk, Eng.look]) (by simp [h0]) rfl (subR_refl _)
    · have h0' : (0 : Int) < (f.1.length : Int) := by omega
      simp only [push_cast, ↓reduceIte, Nat.reduceEqDiff, Nat.reduceAdd, Nat.reduceMul, Nat.reduceSub, Nat.reduceLT, Nat.reduceLeDiff, reduceCtorEq, Nat.reduceMod, Int.reduceEq, Int.reduceLT, Int.reduceLE, Int.reduceToNat, dite_true, h0']
      exact hG () _ trivial (by simp [subk, Eng.look]) (by simp [h0]) rfl (subR_refl _)
  refine VC.seq (VC.cutW (ι := Unit) (fun _ => [(0, .o 0 sb 0), (2, .v (.slice pd need.length cd)), (4, .o 1 b 0), (7, .o 2 b2 0)]) (fun _ => [⟨0, sb, schT, cellsD vd vb vc vg (.slice pi li.length ci) vn (.slice pf lf.length cf) (.slice pw lw.length cw) (big || decide (255 < need.length))⟩, ⟨1, b, 51, .slice pv f.1.length cv :: expCells f.2 (.slice pa f.2.atoms.length ca) (.slice pb f.2.binds.length cb) (.slice pe f.2.kids.length ce) (.slice pl f.2.alts.length cl)⟩, ⟨2, b2, 41, [i64v (if f.1.length = 0 then 6 else 3), i64v f.1.length, i64v need.length, i64v 0]⟩]) (fun _ => F) (fun _ => [ri, rf, rw]) (fun _ => True) (fun G hG => ?_) fun _ _ => ?_)
  · refine VC.go 100 ?_
    by_cases g : 255 < need.length
    · have g' : (255 : Int) < (need.length : Int) := by omega
      simp only [push_cast, ↓reduceIte, Nat.reduceEqDiff, Nat.reduceAdd, Nat.reduceMul, Nat.reduceSub, Nat.reduceLT, Nat.reduceLeDiff, reduceCtorEq, Nat.reduceMod, Int.reduceEq, Int.reduceLT, Int.reduceLE, Int.reduceToNat, dite_true, g']
      exact hG () _ trivial (by simp [subk, Eng.look]) (by simp [g]) rfl (subR_refl _)
    · have g' : ¬ (255 : Int) < (need.length : Int) := by omega
      simp only [push_cast, ↓reduceIte, Nat.reduceEqDiff, Nat.reduceAdd, Nat.reduceMul, Nat.reduceSub, Nat.reduceLT, Nat.reduceLeDiff, reduceCtorEq, Nat.reduceMod, Int.reduceEq, Int.reduceLT, Int.reduceLE, Int.reduceToNat, dite_true, g']
      exact hG () _ trivial (by simp [subk, Eng.look]) (by simp [g]) rfl (subR_refl _)
  refine VC.seq (VC.draw (.q 0 (.q 1 (.q 2 (.q 3 (.q 4 (.q 5 (.q 6 (.e 7 (.e 8 (.q 9 (.q 10 (.q 11 (.es 12 [9, 10] (.done)))))))))))))) mixed (by rfl) ?_)
  simp only [push_cast, ↓reduceIte, Nat.reduceEqDiff, Nat.reduceAdd, Nat.reduceMul, Nat.reduceSub, Nat.reduceLT, Nat.reduceLeDiff, reduceCtorEq, Nat.reduceMod, Int.reduceEq, Int.reduceLT, Int.reduceLE, Int.reduceToNat, dite_true]
  intro b6 F6 hF6 hb6
  refine Eff.append rfl rfl rfl ty28 rfl ty41 rfl (by decide) rfl rfl (.refl _) hri (src_one hb6 rfl) (by simp [Value.oneCell']) (by simp [hxi]; omega) (by decide) fun v6 r6 hr6 => ?_
  obtain ⟨p6, m6, c6, rfl, q1, q2, q3⟩ := hr6.len
  have hm6 : m6 = li.length + 1 := by
    rw [List.length_append, hxi] at q1
    simp at q1
    omega
  subst hm6
  simp only [push_cast, ↓reduceIte, Nat.reduceEqDiff, Nat.reduceAdd, Nat.reduceMul, Nat.reduceSub, Nat.reduceLT, Nat.reduceLeDiff, reduceCtorEq, Nat.reduceMod, Int.reduceEq, Int.reduceLT, Int.reduceLE, Int.reduceToNat, dite_true]
  refine VC.seq (VC.draw (.q 0 (.q 1 (.q 2 (.q 3 (.q 4 (.q 5 (.e 6 (.e 7 (.q 8 (.q 9 (.es 10 [8] (.done)))))))))))) mixed (by rfl) ?_)
  simp only [push_cast, ↓reduceIte, Nat.reduceEqDiff, Nat.reduceAdd, Nat.reduceMul, Nat.reduceSub, Nat.reduceLT, Nat.reduceLeDiff, reduceCtorEq, Nat.reduceMod, Int.reduceEq, Int.reduceLT, Int.reduceLE, Int.reduceToNat, dite_true, expCells]
  intro b7 F7 hF7 hb7
  refine Eff.append rfl rfl rfl ty77 rfl ty51 rfl (by decide) rfl rfl (.swap _ _ _) hrf (src_one hb7 rfl) (by simp [Value.oneCell']) (by simp [hxf]; omega) (by decide) fun v7 r7 hr7 => ?_
  obtain ⟨p7, m7, c7, rfl, _, _, _⟩ := hr7.len
  simp only [push_cast, ↓reduceIte, Nat.reduceEqDiff, Nat.reduceAdd, Nat.reduceMul, Nat.reduceSub, Nat.reduceLT, Nat.reduceLeDiff, reduceCtorEq, Nat.reduceMod, Int.reduceEq, Int.reduceLT, Int.reduceLE, Int.reduceToNat, dite_true]
  refine VC.go 3 ?_
  simp only [push_cast, ↓reduceIte, Nat.reduceEqDiff, Nat.reduceAdd, Nat.reduceMul, Nat.reduceSub, Nat.reduceLT, Nat.reduceLeDiff, reduceCtorEq, Nat.reduceMod, Int.reduceEq, Int.reduceLT, Int.reduceLE, Int.reduceToNat, dite_true]
  intro b8 F8 hF8 hb8
  refine Eff.append rfl rfl rfl ty78 rfl ty44 rfl (by decide) rfl rfl ((List.Perm.cons _ (.swap _ _ _)).trans (.swap _ _ _)) hrw (src_one hb8 rfl) (by simp [Value.oneCell']) (by simp [hxw]; omega) (by decide) fun v8 r8 hr8 => ?_
  obtain ⟨p8, m8, c8, rfl, _, _, _⟩ := hr8.len
  simp only [push_cast, ↓reduceIte, Nat.reduceEqDiff, Nat.reduceAdd, Nat.reduceMul, Nat.reduceSub, Nat.reduceLT, Nat.reduceLeDiff, reduceCtorEq, Nat.reduceMod, Int.reduceEq, Int.reduceLT, Int.reduceLE, Int.reduceToNat, dite_true]
  have e2 : IntKind.i64.wrap ((li.length : Int) + 1 - 1) = li.length := (w64 _ (by omega)).trans (by omega)
  refine VC.go 100 ?_
  simp only [push_cast, ↓reduceIte, Nat.reduceEqDiff, Nat.reduceAdd, Nat.reduceMul, Nat.reduceSub, Nat.reduceLT, Nat.reduceLeDiff, reduceCtorEq, Nat.reduceMod, Int.reduceEq, Int.reduceLT, Int.reduceLE, Int.reduceToNat, dite_true, e2]
  have hle : F.le F8 := PH.le_trans hF6 (PH.le_trans hF7 hF8)
  refine RetOk.r (vs := [_]) rfl (R' := [_, r6, r7, r8]) (fun _ w hs => (Sat.permR (w := w) (RetR.ownSub (i := 0) rfl (List.Sublist.refl _) _ _ hs) (List.Perm.cons _ (((List.Perm.cons _ (.swap _ _ _)).trans (.swap _ _ _)).trans ?_)))) ⟨rfl, _, _, _, r6, r7, r8, rfl, ⟨_, hr6, each_snoc hei rfl⟩, ⟨_, hr7, each_snoc (hef.mono fun _ _ _ h => h.mono hle) (hf'.mono hle)⟩, ⟨_, hr8, each_snoc (hew.mono fun _ _ _ h => h.mono hle) ⟨_, rfl, hd'.mono hle⟩⟩⟩
  exact .cons _ (.swap _ _ _)
/-- A scheme's slices, and the rows behind them. -/
structure Mem where
  vi : Value
  vn : Value
  vf : Value
  vw : Value
  ri : PH
  rn : PH
  rf : PH
  rw : PH
abbrev Mem.rows (m : Mem) : List PH := [m.ri, m.rn, m.rf, m.rw]
abbrev cellsM (vd vb vc vg : Value) (m : Mem) (big : Bool) : List Value := cellsD vd vb vc vg m.vi m.vn m.vf m.vw big
structure SchD (F : PH) (s : Sc) (m : Mem) : Prop where
  infos : RowE m.ri 41 4 RInf m.vi s.infos
  ins : RowE m.rn 89 7 (RIns F) m.vn s.ins
  forms : RowE m.rf 51 9 (RFrm F) m.vf s.forms
  needs : RowE m.rw 44 1 (RNd F) m.vw s.needs
  e1 : s.forms.length = s.infos.length
  e2 : s.needs.length = s.infos.length
theorem SchD.mono {F G : PH} (hl : F.le G) {s : Sc} {m : Mem} (h : SchD F s m) : SchD G s m :=
  ⟨h.infos, h.ins.mono fun _ _ _ h => h.mono hl, h.forms.mono fun _ _ _ h => h.mono hl, h.needs.mono fun _ _ _ h => h.mono hl, h.e1, h.e2⟩
theorem SchD.vi1 {F : PH} {s : Sc} {m : Mem} (h : SchD F s m) : m.vi.oneCell' = true := by obtain ⟨_, _, e, _⟩ := h.infos.val (by decide) (fun _ _ h => h.len); rw [e]; rfl
theorem SchD.vn1 {F : PH} {s : Sc} {m : Mem} (h : SchD F s m) : m.vn.oneCell' = true := by obtain ⟨_, _, e, _⟩ := h.ins.val (by decide) (fun _ _ h => h.len); rw [e]; rfl
theorem SchD.vf1 {F : PH} {s : Sc} {m : Mem} (h : SchD F s m) : m.vf.oneCell' = true := by obtain ⟨_, _, e, _⟩ := h.forms.val (by decide) (fun _ _ h => h.len); rw [e]; rfl
theorem SchD.vw1 {F : PH} {s : Sc} {m : Mem} (h : SchD F s m) : m.vw.oneCell' = true := by obtain ⟨_, _, e, _⟩ := h.needs.val (by decide) (fun _ _ h => h.len); rw [e]; rfl
theorem CtxD.vd1 {F : PH} {ds : List Dat} {bs : List Bind} {vd vb vc vg : Value} (h : CtxD F ds bs vd vb vc vg) : vd.oneCell' = true := by obtain ⟨_, _, e, _⟩ := h.dats.val; rw [e]; rfl
theorem CtxD.vb1 {F : PH} {ds : List Dat} {bs : List Bind} {vd vb vc vg : Value} (h : CtxD F ds bs vd vb vc vg) : vb.oneCell' = true := by obtain ⟨_, _, e, _⟩ := h.binds.val; rw [e]; rfl
/-- A call of a scheme's that comes from one state to another. -/
def SchQD (sb : Nat) (vd vb vc vg : Value) (s' : Sc) (res : Value → Prop) (v : Value) (F' : PH) (R' : List PH) : Prop := ∃ m' : Mem, R' = cell1 sb schT (cellsM vd vb vc vg m' s'.big) :: m'.rows ∧ SchD F' s' m' ∧ res v
def SchFnD (f : FuncId) (args : List Value) (F : PH) (sb : Nat) (vd vb vc vg : Value) (m : Mem) (s s' : Sc) (res : Value → Prop) : Prop :=
  Eng.Fn Tryd.prog f (ptr sb :: args) F (cell1 sb schT (cellsM vd vb vc vg m s.big) :: m.rows) (SchQD sb vd vb vc vg s' res)
section
variable {S : St} {κ : St → Prop} {d : Option Tmp} {sb : Nat} {vd vb vc vg : Value} {m : Mem} {s : Sc} {Re : List PH} {ds : List Dat} {bs : List Bind} {big : Bool}
theorem callS {f : FuncId} {args : List Value} {s' : Sc} {res : Value → Prop} (hbg : big = s.big) (hM : ownF S.M 0 = some ⟨0, sb, schT, cellsM vd vb vc vg m big⟩) (hp : S.R.Perm (m.rows ++ Re)) (hc : SchFnD f args S.F sb vd vb vc vg m s s' res)
    (next : ∀ v F' m', S.F.le F' → SchD F' s' m' → res v → κ ⟨setk S.L d (.v v), updM S.M 0 (cellsM vd vb vc vg m' s'.big), F', m'.rows ++ Re, S.nx⟩) : CallV Tryd.prog false f (ptr sb :: args) d κ S := by
  subst hbg
  refine CallV.ownP (i := 0) (Q' := fun v F' cs' R2 => ∃ m' : Mem, cs' = cellsM vd vb vc vg m' s'.big ∧ R2 = m'.rows ++ Re ∧ SchD F' s' m' ∧ res v) hM hp hc ?_ ?_
  · rintro v F' R' _ ⟨m', rfl, h1, h2⟩
    exact ⟨_, _, _, rfl, .refl _, m', rfl, rfl, h1, h2⟩
  · rintro v F' cs' R2 hF ⟨m', rfl, rfl, h1, h2⟩
    exact next v F' m' hF h1 h2
theorem callPut {x : Ins} {ic : List Value} (hbg : big = s.big) (hM : ownF S.M 0 = some ⟨0, sb, schT, cellsM vd vb vc vg m big⟩) (hp : S.R.Perm (m.rows ++ Re)) (hC : CtxD S.F ds bs vd vb vc vg) (hS : SchD S.F s m) (hx : RIns S.F x ic)
    (hb : s.ins.length ≤ 100000000) (hb1 : 0 ≤ x.b ∧ x.b ≤ 1000000000) (hb2 : x.makes.length ≤ 1000000000)
    (next : ∀ v F' m', S.F.le F' → SchD F' (putS s x) m' → κ ⟨setk S.L d (.v v), updM S.M 0 (cellsM vd vb vc vg m' (putS s x).big), F', m'.rows ++ Re, S.nx⟩) : CallV Tryd.prog false 47 [ptr sb, .agg ic.toArray] d κ S := by
  subst hbg
  refine CallV.ownP (i := 0) (R1 := [m.rn]) (Rf := [m.ri, m.rf, m.rw] ++ Re) (Q' := fun v F' cs' R2 => ∃ m' : Mem, cs' = cellsM vd vb vc vg m' (putS s x).big ∧ R2 = m'.rows ++ Re ∧ m'.vi = m.vi ∧ m'.vf = m.vf ∧ m'.vw = m.vw ∧ m'.ri = m.ri ∧ m'.rf = m.rf ∧ m'.rw = m.rw ∧ RowE m'.rn 89 7 (RIns F') m'.vn (s.ins ++ [x])) hM (hp.trans (.swap _ _ _)) (put S.F sb vd vb vc vg m.vi m.vn m.vf m.vw s.big m.rn s.ins x ic hC.vd1 hC.vb1 hC.c1 hC.g1 hS.vi1 hS.vf1 hS.vw1 hx hS.ins hb hb1 hb2) ?_ ?_
  · rintro v F' R' _ ⟨vn', rn', rfl, h1⟩
    exact ⟨_, _, _, rfl, List.Perm.swap _ _ _, ⟨m.vi, vn', m.vf, m.vw, m.ri, rn', m.rf, m.rw⟩, rfl, rfl, rfl, rfl, rfl, rfl, rfl, rfl, h1⟩
  · rintro v F' cs' R2 hF ⟨m', rfl, rfl, h1, h2, h3, h4, h5, h6, h7⟩
    have hS' := hS.mono hF
    exact next v F' m' hF ⟨by rw [h4, h1]; exact hS'.infos, h7, by rw [h5, h2]; exact hS'.forms, by rw [h6, h3]; exact hS'.needs, hS'.e1, hS'.e2⟩
theorem callInfo {f : Frm} {need : List ByteArray} {fc : List Value} {dv : Value} (hbg : big = s.big) (hM : ownF S.M 0 = some ⟨0, sb, schT, cellsM vd vb vc vg m big⟩) (hp : S.R.Perm (m.rows ++ Re)) (k1 : vd.oneCell' = true) (k2 : vb.oneCell' = true) (h1 : vc.oneCell' = true) (h2 : vg.oneCell' = true) (hS : SchD S.F s m) (hf : RFrm S.F f fc) (hd : Strs S.F dv need)
    (hb : s.infos.length ≤ 100000000)
    (next : ∀ F' m', S.F.le F' → SchD F' (infoS s f need) m' → κ ⟨setk S.L d (.v (i64v s.infos.length)), updM S.M 0 (cellsM vd vb vc vg m' (infoS s f need).big), F', m'.rows ++ Re, S.nx⟩) : CallV Tryd.prog false 21 [ptr sb, .agg fc.toArray, dv] d κ S := by
  subst hbg
  refine CallV.ownP (i := 0) (R1 := [m.ri, m.rf, m.rw]) (Rf := [m.rn] ++ Re) (Q' := fun v F' cs' R2 => v = i64v s.infos.length ∧ ∃ m' : Mem, cs' = cellsM vd vb vc vg m' (infoS s f need).big ∧ R2 = m'.rows ++ Re ∧ m'.vn = m.vn ∧ m'.rn = m.rn ∧ RowE m'.ri 41 4 RInf m'.vi (s.infos ++ [⟨if f.1.length = 0 then 6 else 3, f.1.length, need.length, 0⟩]) ∧ RowE m'.rf 51 9 (RFrm F') m'.vf (s.forms ++ [f]) ∧ RowE m'.rw 44 1 (RNd F') m'.vw (s.needs ++ [need])) hM (hp.trans (.cons _ ((List.Perm.swap _ _ _).trans (.cons _ (.swap _ _ _))))) (info S.F sb vd vb vc vg m.vi m.vn m.vf m.vw s.big m.ri m.rf m.rw s.infos s.forms s.needs f need fc dv k1 k2 h1 h2 hS.vn1 hf hd hS.infos hS.forms hS.needs hb (by rw [hS.e1]; exact hb) (by rw [hS.e2]; exact hb)) ?_ ?_
  · rintro v F' R' _ ⟨rfl, vi', vf', vw', ri', rf', rw', rfl, g1, g2, g3⟩
    exact ⟨_, _, _, rfl, .cons _ ((List.Perm.cons _ (.swap _ _ _)).trans (.swap _ _ _)), rfl, ⟨vi', m.vn, vf', vw', ri', m.rn, rf', rw'⟩, rfl, rfl, rfl, rfl, g1, g2, g3⟩
  · rintro v F' cs' R2 hF ⟨rfl, m', rfl, rfl, g1, g2, g3, g4, g5⟩
    have hS' := hS.mono hF
    exact next F' m' hF ⟨g3, by rw [g2, g1]; exact hS'.ins, g4, g5, by simp [infoS, hS.e1], by simp [infoS, hS.e2]⟩
theorem callNums {st : Bool} {lv : Value} {ats : List (ByteArray × Int)} (hn : Sl S.F 2 lv ats.length (atomVals ats)) (hb : ats.length ≤ 100000000)
    (next : ∀ r F' r', S.F.le F' → RowE r' 85 4 (RMk F') r (nums ats) → κ ⟨setk S.L d (.v r), S.M, F', r' :: S.R, S.nx⟩) : CallV Tryd.prog st 48 [lv] d κ S :=
  CallV.gen (R1 := []) (.refl _) (numbers S.F lv ats hn hb) fun v F' R' hF ⟨r', e, h1⟩ => by subst e; exact next v F' r' hF h1
theorem callNumsF {st : Bool} {lv : Value} {ats : List (ByteArray × Int)} (hn : Sl S.F 2 lv ats.length (atomVals ats)) (hb : ats.length ≤ 100000000)
    (next : ∀ r F', S.F.le F' → SlE F' 4 (RMk F') r (nums ats) → κ ⟨setk S.L d (.v r), S.M, F', S.R, S.nx⟩) : CallV Tryd.prog st 48 [lv] d κ S :=
  CallV.pure (Eng.Fn.mono (Eng.Fn.frozen (Q' := fun r F' R' => R' = [] ∧ SlE F' 4 (RMk F') r (nums ats)) (numbers S.F lv ats hn hb) fun r F' R' ⟨r', e, hr⟩ => ⟨r', [], by rw [e], fun F'' k1 k2 => ⟨rfl, (hr.mono (R' := RMk F'') fun _ _ _ h => h.mono k1).sle (by decide) (fun _ _ h => h.len) k2⟩⟩) fun _ _ _ _ h => h) fun v F' hF h => next v F' hF h
end
end Go.Proofs.YtoepmdbicdoieaaDoor.J
