/- The document's gen: lists of places, numbers, instructions. -/
import Derived.Test.YtoepmdbicdoieaaDoorJ1
namespace Go.Proofs.YtoepmdbicdoieaaDoor.J
open Go Go.Eng Go.Proofs Go.Proofs.YtoepmdbicdoieaaDoor.T Go.Proofs.YtoepmdbicdoieaaDoor.V Go.Proofs.YtoepmdbicdoieaaDoor.K Go.Proofs.YtoepmdbicdoieaaDoor.U
open Go.Proofs.YtoepmdbicdoieaaDoor.W (i64v ptr Ints RowE findL_append findL_snoc findL_has findL_lt findL_ge RMk RIns RInf RArm src_one each_snoc nums_len nums_append atomsP_append atomsP_len nil_ints here_take here_len)
set_option linter.unusedSimpArgs false
set_option linter.unusedVariables false
set_option maxRecDepth 100000
set_option maxHeartbeats 4000000
theorem lookRow {f : FuncId} {args : List Value} {F : PH} {sb : Nat} {cs : List Value} {l : List Int} (h : Eng.Fn Tryd.prog f (ptr sb :: args) F [cell1 sb schT cs] (fun r F' R' => ∃ r', R' = [cell1 sb schT cs, r'] ∧ Row r' 3 1 r (l.map i64v))) :
    LookFn f args F sb cs (fun r F' => Ints F' r l) :=
  Eng.Fn.frozen h fun r F' R' ⟨r', e, hr⟩ => ⟨r', [cell1 sb schT cs], by rw [e]; exact List.Perm.swap _ _ _, fun F'' k1 k2 => ⟨rfl, by
    obtain ⟨m, h1, h2⟩ := hr.sl k2
    obtain rfl : m = l.length := by simpa using h1.symm
    exact h2⟩⟩
theorem places (F : PH) (ds : List Dat) (bs : List Bind) (sb : Nat) (vd vb vc vg vi vn vf vw : Value) (big : Bool) (lv nv : Value) (l names : List ByteArray) (hl : Strs F lv l) (hn : Strs F nv names) (hb : SlE F 11 (RBind F) vb bs) (hbn : bs.length ≤ 100000000) (hnl : names.length ≤ 100000000) :
    LookFn 98 [lv, nv] F sb (cellsD vd vb vc vg vi vn vf vw big) (fun v F' => Ints F' v (names.map (place (env ds bs) l))) := by
  obtain ⟨pn, cn, rfl, hn1, hn2, hn3⟩ := hn
  refine lookRow ?_
  refine SFn.intro (n := 26) (ts := [6]) Tryd.func98 rfl rfl rfl rfl (by simp) fun B hB => VC.emp ?_
  refine VC.go 100 ?_
  simp only [push_cast, ↓reduceIte, Nat.reduceEqDiff, Nat.reduceAdd, Nat.reduceMul, Nat.reduceSub, Nat.reduceLT, Nat.reduceLeDiff, reduceCtorEq, Nat.reduceMod, Int.reduceEq, Int.reduceLT, Int.reduceLE, Int.reduceToNat, dite_true]
  refine VC.loopR (ι := Nat × Value × PH × PH) (fun i => [(8, .v (i64v i.1)), (7, .v i.2.1), (0, .o 0 sb 0), (1, .v lv), (2, .v (.slice pn names.length cn))]) (fun i => i.2.2.1) (fun i => i.2.2.2) [] (fun i => i.1 ≤ names.length ∧ F.le i.2.2.1 ∧ Row i.2.2.2 3 1 i.2.1 (((names.take i.1).map (place (env ds bs) l)).map i64v)) (fun i => names.length - i.1) (0, .slice none 0 0, F, PH.emp) ⟨Nat.zero_le _, PH.le_refl _, Row.nil _ _⟩ (by simp [subk, Eng.look]) rfl rfl ?_
  rintro ⟨k, u, F1, r⟩ ⟨hk, hF1, hrow⟩ G hG
  dsimp only at hk hF1 hrow hG ⊢
  refine VC.go 100 ?_
  by_cases h : k < names.length
  case neg =>
    have h' : ¬ (k : Int) < (names.length : Int) := by omega
    simp only [push_cast, ↓reduceIte, Nat.reduceEqDiff, Nat.reduceAdd, Nat.reduceMul, Nat.reduceSub, Nat.reduceLT, Nat.reduceLeDiff, reduceCtorEq, Nat.reduceMod, Int.reduceEq, Int.reduceLT, Int.reduceLE, Int.reduceToNat, dite_true, h']
    rw [List.take_of_length_le (by omega)] at hrow
    exact RetOk.r (vs := [_]) rfl (RetR.own (i := 0) rfl) ⟨r, rfl, hrow⟩
  have h' : (k : Int) < (names.length : Int) := by omega
  have h0 : (0 : Int) ≤ (k : Int) := by omega
  obtain ⟨q, rfl, hq⟩ := (hn3.mono hF1).elem1 (i := k) (v := .string names[k]) (by simp [h])
  have e2 : IntKind.i64.wrap ((k : Int) + 1) = ((k + 1 : Nat) : Int) := wadd k h (Nat.le_trans hn1 hn2)
  simp only [push_cast, ↓reduceIte, Nat.reduceEqDiff, Nat.reduceAdd, Nat.reduceMul, Nat.reduceSub, Nat.reduceLT, Nat.reduceLeDiff, reduceCtorEq, Nat.reduceMod, Int.reduceEq, Int.reduceLT, Int.reduceLE, Int.reduceToNat, dite_true, h', h0, hq]
  refine callLook rfl (placeD F1 ds bs sb _ _ _ _ _ _ _ _ _ lv l names[k] (hl.mono hF1) (hb.mono hF1 fun _ _ _ h => h.mono hF1) hbn) fun v2 F2 hF2 e => ?_
  subst e
  simp only [push_cast, ↓reduceIte, Nat.reduceEqDiff, Nat.reduceAdd, Nat.reduceMul, Nat.reduceSub, Nat.reduceLT, Nat.reduceLeDiff, reduceCtorEq, Nat.reduceMod, Int.reduceEq, Int.reduceLT, Int.reduceLE, Int.reduceToNat, dite_true]
  intro b2 F3 hF3 hb3
  refine Eff.append (ys := [i64v (place (env ds bs) l names[k])]) rfl rfl rfl ty83 rfl ty3 rfl (by decide) rfl rfl (List.Perm.refl _) hrow (Src.blk hb3 rfl) (by simp [Value.oneCell']) (by simp; omega) (by decide) ?_
  intro v' r' hrow'
  simp only [push_cast, ↓reduceIte, Nat.reduceEqDiff, Nat.reduceAdd, Nat.reduceMul, Nat.reduceSub, Nat.reduceLT, Nat.reduceLeDiff, reduceCtorEq, Nat.reduceMod, Int.reduceEq, Int.reduceLT, Int.reduceLE, Int.reduceToNat, dite_true, e2]
  refine hG (k + 1, v', F3, r') _ ⟨by omega, PH.le_trans (PH.le_trans hF1 hF2) hF3, ?_⟩ (by simp; omega) (by simp [subk, Eng.look]) (List.Sublist.refl _) rfl rfl
  dsimp only
  rw [List.take_succ_eq_append_getElem h, List.map_append, List.map_append]
  exact hrow'
theorem atoms (F : PH) (ds : List Dat) (bs : List Bind) (sb : Nat) (vd vb vc vg vi vn vf vw : Value) (big : Bool) (lv av : Value) (l : List ByteArray) (ats : List (ByteArray × Int)) (frm : Nat) (hl : Strs F lv l) (hn : Sl F 2 av ats.length (atomVals ats)) (hb : SlE F 11 (RBind F) vb bs) (hbn : bs.length ≤ 100000000) (hnl : ats.length ≤ 100000000) (hf : frm ≤ 1000000000) :
    LookFn 50 [lv, av, i64v frm] F sb (cellsD vd vb vc vg vi vn vf vw big) (fun v F' => Ints F' v (atomsP (env ds bs) l ats frm)) := by
  obtain ⟨pn, cn, rfl, hn1, hn2, hn3⟩ := hn
  refine lookRow ?_
  refine SFn.intro (n := 41) (ts := [8]) Tryd.func50 rfl rfl rfl rfl (by simp) fun B hB => VC.emp ?_
  refine VC.go 100 ?_
  simp only [push_cast, ↓reduceIte, Nat.reduceEqDiff, Nat.reduceAdd, Nat.reduceMul, Nat.reduceSub, Nat.reduceLT, Nat.reduceLeDiff, reduceCtorEq, Nat.reduceMod, Int.reduceEq, Int.reduceLT, Int.reduceLE, Int.reduceToNat, dite_true]
  refine VC.loopR (ι := Nat × Value × PH × PH) (fun i => [(10, .v (i64v i.1)), (9, .v i.2.1), (0, .o 0 sb 0), (1, .v lv), (2, .v (.slice pn ats.length cn)), (3, .v (i64v ((frm + (nums (ats.take i.1)).length : Nat) : Int)))]) (fun i => i.2.2.1) (fun i => i.2.2.2) [] (fun i => i.1 ≤ ats.length ∧ F.le i.2.2.1 ∧ Row i.2.2.2 3 1 i.2.1 ((atomsP (env ds bs) l (ats.take i.1) frm).map i64v)) (fun i => ats.length - i.1) (0, .slice none 0 0, F, PH.emp) ⟨Nat.zero_le _, PH.le_refl _, Row.nil _ _⟩ (by simp [subk, Eng.look, nums]) rfl rfl ?_
  rintro ⟨k, u, F1, r⟩ ⟨hk, hF1, hrow⟩ G hG
  dsimp only at hk hF1 hrow hG ⊢
  refine VC.go 100 ?_
  by_cases h : k < ats.length
  case neg =>
    have h' : ¬ (k : Int) < (ats.length : Int) := by omega
    simp only [push_cast, ↓reduceIte, Nat.reduceEqDiff, Nat.reduceAdd, Nat.reduceMul, Nat.reduceSub, Nat.reduceLT, Nat.reduceLeDiff, reduceCtorEq, Nat.reduceMod, Int.reduceEq, Int.reduceLT, Int.reduceLE, Int.reduceToNat, dite_true, h']
    rw [List.take_of_length_le (by omega)] at hrow
    exact RetOk.r (vs := [_]) rfl (RetR.own (i := 0) rfl) ⟨r, rfl, hrow⟩
  have h' : (k : Int) < (ats.length : Int) := by omega
  have h0 : (0 : Int) ≤ (k : Int) := by omega
  obtain ⟨a, rfl, ha⟩ := (hn3.mono hF1).elem h (by decide)
  rw [atomVals_at ats k h] at ha
  have ha0 := cell_at ha (o := 0) rfl
  have e2 : IntKind.i64.wrap ((k : Int) + 1) = ((k + 1 : Nat) : Int) := wadd k h (Nat.le_trans hn1 hn2)
  have hnl := nums_len (ats.take k)
  have hnl2 : (ats.take k).length ≤ k := List.length_take_le _ _
  have hlen := atomsP_len (env ds bs) l (ats.take k) frm
  have ht : atomsP (env ds bs) l (ats.take (k + 1)) frm = atomsP (env ds bs) l (ats.take k) frm ++ atomsP (env ds bs) l [ats[k]] (frm + (nums (ats.take k)).length) := by rw [List.take_succ_eq_append_getElem h, atomsP_append]
  have hn1 : nums (ats.take (k + 1)) = nums (ats.take k) ++ nums [ats[k]] := by rw [List.take_succ_eq_append_getElem h, nums_append]
  by_cases hs : (ats[k]).1 = ⟨#[]⟩
  · have e3 : IntKind.i64.wrap ((frm : Int) + ((nums (ats.take k)).length : Int) + 1) = frm + (nums (ats.take k)).length + 1 := w64 _ (by omega)
    rw [hs] at ha0
    simp only [push_cast, ↓reduceIte, Nat.reduceEqDiff, Nat.reduceAdd, Nat.reduceMul, Nat.reduceSub, Nat.reduceLT, Nat.reduceLeDiff, reduceCtorEq, Nat.reduceMod, Int.reduceEq, Int.reduceLT, Int.reduceLE, Int.reduceToNat, dite_true, h', h0, ha0]
    intro b2 F3 hF3 hb3
    refine Eff.append rfl rfl rfl ty83 rfl ty3 rfl (by decide) rfl rfl (List.Perm.refl _) hrow (Src.blk hb3 rfl) (by simp [Value.oneCell']) (by simp [hlen]; omega) (by decide) ?_
    intro v' r' hrow'
    simp only [push_cast, ↓reduceIte, Nat.reduceEqDiff, Nat.reduceAdd, Nat.reduceMul, Nat.reduceSub, Nat.reduceLT, Nat.reduceLeDiff, reduceCtorEq, Nat.reduceMod, Int.reduceEq, Int.reduceLT, Int.reduceLE, Int.reduceToNat, dite_true, e2, e3]
    refine hG (k + 1, v', F3, r') _ ⟨by omega, PH.le_trans hF1 hF3, ?_⟩ (by simp; omega) ?_ (List.Sublist.refl _) rfl rfl
    · dsimp only
      rw [ht, show atomsP (env ds bs) l [ats[k]] (frm + (nums (ats.take k)).length) = [(frm : Int) + (nums (ats.take k)).length] by simp [atomsP, hs], List.map_append]
      simpa using hrow'
    · dsimp only
      rw [hn1, show nums [ats[k]] = [⟨2, 0, (ats[k]).2, []⟩] by simp [nums, hs], List.length_append]
      simp [subk, Eng.look, Int.add_assoc]
  · simp only [push_cast, ↓reduceIte, Nat.reduceEqDiff, Nat.reduceAdd, Nat.reduceMul, Nat.reduceSub, Nat.reduceLT, Nat.reduceLeDiff, reduceCtorEq, Nat.reduceMod, Int.reduceEq, Int.reduceLT, Int.reduceLE, Int.reduceToNat, dite_true, h', h0, ha0, hs]
    refine callLook rfl (placeD F1 ds bs sb _ _ _ _ _ _ _ _ _ lv l (ats[k]).1 (hl.mono hF1) (hb.mono hF1 fun _ _ _ h => h.mono hF1) hbn) fun v2 F2 hF2 e => ?_
    subst e
    simp only [push_cast, ↓reduceIte, Nat.reduceEqDiff, Nat.reduceAdd, Nat.reduceMul, Nat.reduceSub, Nat.reduceLT, Nat.reduceLeDiff, reduceCtorEq, Nat.reduceMod, Int.reduceEq, Int.reduceLT, Int.reduceLE, Int.reduceToNat, dite_true]
    intro b2 F3 hF3 hb3
    refine Eff.append (ys := [i64v (place (env ds bs) l (ats[k]).1)]) rfl rfl rfl ty83 rfl ty3 rfl (by decide) rfl rfl (List.Perm.refl _) hrow (Src.blk hb3 rfl) (by simp [Value.oneCell']) (by simp [hlen]; omega) (by decide) ?_
    intro v' r' hrow'
    simp only [push_cast, ↓reduceIte, Nat.reduceEqDiff, Nat.reduceAdd, Nat.reduceMul, Nat.reduceSub, Nat.reduceLT, Nat.reduceLeDiff, reduceCtorEq, Nat.reduceMod, Int.reduceEq, Int.reduceLT, Int.reduceLE, Int.reduceToNat, dite_true, e2]
    refine hG (k + 1, v', F3, r') _ ⟨by omega, PH.le_trans (PH.le_trans hF1 hF2) hF3, ?_⟩ (by simp; omega) ?_ (List.Sublist.refl _) rfl rfl
    · dsimp only
      rw [ht, show atomsP (env ds bs) l [ats[k]] (frm + (nums (ats.take k)).length) = [place (env ds bs) l (ats[k]).1] by simp [atomsP, hs], List.map_append]
      exact hrow'
    · dsimp only
      rw [hn1, show nums [ats[k]] = [] by simp [nums, hs], List.append_nil]
      simp [subk, Eng.look]
theorem numbers (F : PH) (lv : Value) (l : List (ByteArray × Int)) (hl : Sl F 2 lv l.length (atomVals l)) (hb : l.length ≤ 100000000) :
    Eng.Fn Tryd.prog 48 [lv] F [] (fun r F' R' => ∃ r', R' = [r'] ∧ RowE r' 85 4 (RMk F') r (nums l)) := by
  obtain ⟨pl, cl, rfl, hl1, hl2, hl3⟩ := hl
  refine Fn.intro (n := 27) (ts := [2]) Tryd.func48 rfl rfl rfl rfl (by simp) fun B hB => VC.emp ?_
  refine VC.go 100 ?_
  simp only [push_cast, ↓reduceIte, Nat.reduceEqDiff, Nat.reduceAdd, Nat.reduceMul, Nat.reduceSub, Nat.reduceLT, Nat.reduceLeDiff, reduceCtorEq, Nat.reduceMod, Int.reduceEq, Int.reduceLT, Int.reduceLE, Int.reduceToNat, dite_true]
  refine VC.loopR (ι := Nat × Value × PH × PH) (fun i => [(4, .v (i64v i.1)), (0, .v (.slice pl l.length cl)), (3, .v i.2.1)]) (fun i => i.2.2.1) (fun i => i.2.2.2) [] (fun i => i.1 ≤ l.length ∧ F.le i.2.2.1 ∧ RowE i.2.2.2 85 4 (RMk i.2.2.1) i.2.1 (nums (l.take i.1))) (fun i => l.length - i.1) (0, .slice none 0 0, F, PH.emp) ⟨Nat.zero_le _, PH.le_refl _, RowE.nil _ _ _⟩ (by simp [subk, Eng.look]) rfl rfl ?_
  rintro ⟨k, u, F1, r⟩ ⟨hk', hF1, hrow⟩ G hG
  dsimp only at hk' hF1 hrow hG ⊢
  refine VC.go 100 ?_
  by_cases h : k < l.length
  case neg =>
    have h' : ¬ (k : Int) < (l.length : Int) := by omega
    simp only [push_cast, ↓reduceIte, Nat.reduceEqDiff, Nat.reduceAdd, Nat.reduceMul, Nat.reduceSub, Nat.reduceLT, Nat.reduceLeDiff, reduceCtorEq, Nat.reduceMod, Int.reduceEq, Int.reduceLT, Int.reduceLE, Int.reduceToNat, dite_true, h']
    rw [List.take_of_length_le (by omega)] at hrow
    exact RetOk.r (vs := [_]) rfl (RetR.refl _) ⟨r, rfl, hrow⟩
  have h' : (k : Int) < (l.length : Int) := by omega
  have h0 : (0 : Int) ≤ (k : Int) := by omega
  obtain ⟨a, rfl, ha⟩ := (hl3.mono hF1).elem h (by decide)
  rw [atomVals_at l k h] at ha
  have ha0 := cell_at ha (o := 0) rfl
  have ha1 := cell_at ha (o := 1) rfl
  have e2 : IntKind.i64.wrap ((k : Int) + 1) = ((k + 1 : Nat) : Int) := wadd k h (Nat.le_trans hl1 hl2)
  have ht : nums (l.take (k + 1)) = nums (l.take k) ++ nums [l[k]] := by rw [List.take_succ_eq_append_getElem h, nums_append]
  by_cases hs : (l[k]).1 = ⟨#[]⟩
  · rw [hs] at ha0
    simp only [push_cast, ↓reduceIte, Nat.reduceEqDiff, Nat.reduceAdd, Nat.reduceMul, Nat.reduceSub, Nat.reduceLT, Nat.reduceLeDiff, reduceCtorEq, Nat.reduceMod, Int.reduceEq, Int.reduceLT, Int.reduceLE, Int.reduceToNat, dite_true, h', h0, ha0, ha1]
    intro b2 F3 hF3 hb3
    obtain ⟨xs, hr, he⟩ := hrow
    have hxs := he.len (fun _ _ h => h.len)
    have hnl := nums_len (l.take k)
    refine Eff.append rfl rfl rfl ty86 rfl ty85 rfl (by decide) rfl rfl (List.Perm.refl _) hr (src_one hb3 rfl) (by simp [Value.oneCell']) (by simp [hxs] at hnl ⊢; omega) (by decide) ?_
    intro v' r' hrow'
    simp only [push_cast, ↓reduceIte, Nat.reduceEqDiff, Nat.reduceAdd, Nat.reduceMul, Nat.reduceSub, Nat.reduceLT, Nat.reduceLeDiff, reduceCtorEq, Nat.reduceMod, Int.reduceEq, Int.reduceLT, Int.reduceLE, Int.reduceToNat, dite_true, e2]
    refine hG (k + 1, v', F3, r') _ ⟨by omega, PH.le_trans hF1 hF3, ?_⟩ (by simp; omega) (by simp [subk, Eng.look]) (List.nil_sublist _) rfl rfl
    dsimp only
    rw [ht, show nums [l[k]] = [⟨2, 0, (l[k]).2, []⟩] by simp [nums, hs]]
    exact ⟨_, hrow', each_snoc (he.mono fun _ _ _ h => h.mono hF3) ⟨_, rfl, nil_ints _⟩⟩
  · simp only [push_cast, ↓reduceIte, Nat.reduceEqDiff, Nat.reduceAdd, Nat.reduceMul, Nat.reduceSub, Nat.reduceLT, Nat.reduceLeDiff, reduceCtorEq, Nat.reduceMod, Int.reduceEq, Int.reduceLT, Int.reduceLE, Int.reduceToNat, dite_true, h', h0, ha0, hs, e2]
    refine hG (k + 1, u, F1, r) _ ⟨by omega, hF1, ?_⟩ (by simp; omega) (by simp [subk, Eng.look]) (List.nil_sublist _) rfl rfl
    dsimp only
    rw [ht]
    simpa [nums, hs] using hrow
theorem own (F : PH) (a : Alt) (cs : List Value) (h : RAlt F a cs) : PFn Tryd.prog 100 [.agg cs.toArray] F (fun v F' => Strs F' v (ownA a.kind a.name a.vars)) := by
  obtain ⟨vv, c, rfl, hv, hc⟩ := RAlt_iff.1 h
  obtain ⟨wa, wb, we, wl, rfl, wx⟩ := RExp_iff.1 hc
  obtain ⟨pa, ca, pb, cb, pe, ce, pl, cl, rfl, rfl, rfl, rfl⟩ := wx.slices
  have hv' := hv
  obtain ⟨pv, cv, rfl, _, _, _⟩ := hv
  refine Fn.intro (n := 14) (ts := [2]) Tryd.func100 rfl rfl rfl rfl (by simp) fun B hB => VC.go 100 ?_
  unfold ownA
  by_cases g1 : a.kind = 1
  · simp only [push_cast, ↓reduceIte, Nat.reduceEqDiff, Nat.reduceAdd, Nat.reduceMul, Nat.reduceSub, Nat.reduceLT, Nat.reduceLeDiff, reduceCtorEq, Nat.reduceMod, Int.reduceEq, Int.reduceLT, Int.reduceLE, Int.reduceToNat, dite_true, expCells, eq_true g1]
    intro b
    simp only [push_cast, ↓reduceIte, Nat.reduceEqDiff, Nat.reduceAdd, Nat.reduceMul, Nat.reduceSub, Nat.reduceLT, Nat.reduceLeDiff, reduceCtorEq, Nat.reduceMod, Int.reduceEq, Int.reduceLT, Int.reduceLE, Int.reduceToNat, dite_true, g1]
    exact RetOk.p rfl hv'
  by_cases g3 : a.kind = 3
  · simp only [push_cast, ↓reduceIte, Nat.reduceEqDiff, Nat.reduceAdd, Nat.reduceMul, Nat.reduceSub, Nat.reduceLT, Nat.reduceLeDiff, reduceCtorEq, Nat.reduceMod, Int.reduceEq, Int.reduceLT, Int.reduceLE, Int.reduceToNat, dite_true, expCells, g1, eq_true g3]
    intro b
    simp only [push_cast, ↓reduceIte, Nat.reduceEqDiff, Nat.reduceAdd, Nat.reduceMul, Nat.reduceSub, Nat.reduceLT, Nat.reduceLeDiff, reduceCtorEq, Nat.reduceMod, Int.reduceEq, Int.reduceLT, Int.reduceLE, Int.reduceToNat, dite_true, g3]
    intro b2 F2 hF2 hb2
    exact RetOk.p rfl ⟨_, _, rfl, Nat.le_refl _, by decide, Src.blk hb2 rfl⟩
  · simp only [push_cast, ↓reduceIte, Nat.reduceEqDiff, Nat.reduceAdd, Nat.reduceMul, Nat.reduceSub, Nat.reduceLT, Nat.reduceLeDiff, reduceCtorEq, Nat.reduceMod, Int.reduceEq, Int.reduceLT, Int.reduceLE, Int.reduceToNat, dite_true, expCells, g1, g3]
    intro b
    exact RetOk.p rfl (nil_strs _)
/-- An instruction that is put. -/
theorem put (F : PH) (sb : Nat) (vd vb vc vg vi vn vf vw : Value) (big : Bool) (rn : PH) (l : List Ins) (x : Ins) (ic : List Value)
    (k1 : vd.oneCell' = true) (k2 : vb.oneCell' = true) (h1 : vc.oneCell' = true) (h2 : vg.oneCell' = true) (h3 : vi.oneCell' = true) (h4 : vf.oneCell' = true) (h5 : vw.oneCell' = true)
    (hx : RIns F x ic) (hr : RowE rn 89 7 (RIns F) vn l) (hb : l.length ≤ 100000000) (hb1 : 0 ≤ x.b ∧ x.b ≤ 1000000000) (hb2 : x.makes.length ≤ 1000000000) :
    Eng.Fn Tryd.prog 47 [ptr sb, .agg ic.toArray] F [cell1 sb schT (cellsD vd vb vc vg vi vn vf vw big), rn]
      (fun v F' R' => ∃ vn' rn', R' = [cell1 sb schT (cellsD vd vb vc vg vi vn' vf vw (big || decide (1000 < x.b + x.makes.length))), rn'] ∧ RowE rn' 89 7 (RIns F') vn' (l ++ [x])) := by
  obtain ⟨p, c, rfl, hm1, hm2⟩ := hr.val (by decide) (fun _ _ h => h.len)
  have hx' := hx
  obtain ⟨vl, vk, vm, va, rfl, hi1, hi2, hi3, hi4⟩ := hx
  obtain ⟨xm, ⟨pm, cm, rfl, hc1, hc2, hc3⟩, he⟩ := hi3
  obtain ⟨pl, cl, rfl, _, _, _⟩ := hi1
  obtain ⟨pk, ck, rfl, _, _, _⟩ := hi2
  obtain ⟨xa, ⟨pa, ca, rfl, _, _, _⟩, _⟩ := hi4
  obtain ⟨xs, hrow, hes⟩ := hr
  have hxs := hes.len (fun _ _ h => h.len)
  have e1 : IntKind.i64.wrap (x.b + (x.makes.length : Int)) = x.b + x.makes.length := w64 _ (by omega)
  refine SFn.intro (n := 26) (ts := []) Tryd.func47 rfl rfl rfl rfl (by simp) fun B hB => VC.go 2 ?_
  simp only [push_cast, ↓reduceIte, Nat.reduceEqDiff, Nat.reduceAdd, Nat.reduceMul, Nat.reduceSub, Nat.reduceLT, Nat.reduceLeDiff, reduceCtorEq, Nat.reduceMod, Int.reduceEq, Int.reduceLT, Int.reduceLE, Int.reduceToNat, dite_true]
  intro b
  refine VC.seq (VC.cutW (ι := Unit) (fun _ => [(0, .o 0 sb 0), (3, .o 1 b 0)]) (fun _ => [⟨0, sb, schT, cellsD vd vb vc vg vi (.slice p l.length c) vf vw (big || decide (1000 < x.b + x.makes.length))⟩, ⟨1, b, 89, [i64v x.op, i64v x.a, i64v x.b, .slice pl x.list.length cl, .slice pk x.keep.length ck, .slice pm x.makes.length cm, .slice pa x.arms.length ca]⟩]) (fun _ => F) (fun _ => [rn]) (fun _ => True) (fun G hG => ?_) fun _ _ => ?_)
  · refine VC.go 100 ?_
    by_cases g2 : 1000 < x.b + (x.makes.length : Int)
    · simp only [push_cast, ↓reduceIte, Nat.reduceEqDiff, Nat.reduceAdd, Nat.reduceMul, Nat.reduceSub, Nat.reduceLT, Nat.reduceLeDiff, reduceCtorEq, Nat.reduceMod, Int.reduceEq, Int.reduceLT, Int.reduceLE, Int.reduceToNat, dite_true, e1, g2]
      exact hG () _ trivial (by simp [subk, Eng.look]) (by simp [g2]) rfl (subR_refl _)
    · simp only [push_cast, ↓reduceIte, Nat.reduceEqDiff, Nat.reduceAdd, Nat.reduceMul, Nat.reduceSub, Nat.reduceLT, Nat.reduceLeDiff, reduceCtorEq, Nat.reduceMod, Int.reduceEq, Int.reduceLT, Int.reduceLE, Int.reduceToNat, dite_true, e1, g2]
      exact hG () _ trivial (by simp [subk, Eng.look]) (by simp [g2]) rfl (subR_refl _)
  refine VC.draw (.q 0 (.q 1 (.q 2 (.q 3 (.q 4 (.q 5 (.q 6 (.e 7 (.e 8 (.q 9 (.q 10 (.q 11 (.es 12 [9, 10] (.done)))))))))))))) mixed (by rfl) ?_
  simp only [push_cast, ↓reduceIte, Nat.reduceEqDiff, Nat.reduceAdd, Nat.reduceMul, Nat.reduceSub, Nat.reduceLT, Nat.reduceLeDiff, reduceCtorEq, Nat.reduceMod, Int.reduceEq, Int.reduceLT, Int.reduceLE, Int.reduceToNat, dite_true]
  intro b2 F2 hF2 hb2'
  refine Eff.append (t := 29) (e := 89) rfl rfl rfl ty29 rfl ty89 rfl (by decide) rfl rfl (.refl _) hrow (src_one hb2' rfl) (by simp [Value.oneCell']) (by simp [hxs]; omega) (by decide) fun v2 r2 hr2 => ?_
  obtain ⟨p2, m2, c2, rfl, q1, q2, q3⟩ := hr2.len
  simp only [push_cast, ↓reduceIte, Nat.reduceEqDiff, Nat.reduceAdd, Nat.reduceMul, Nat.reduceSub, Nat.reduceLT, Nat.reduceLeDiff, reduceCtorEq, Nat.reduceMod, Int.reduceEq, Int.reduceLT, Int.reduceLE, Int.reduceToNat, dite_true, hb2']
  refine VC.go 100 ?_
  simp only [push_cast, ↓reduceIte, Nat.reduceEqDiff, Nat.reduceAdd, Nat.reduceMul, Nat.reduceSub, Nat.reduceLT, Nat.reduceLeDiff, reduceCtorEq, Nat.reduceMod, Int.reduceEq, Int.reduceLT, Int.reduceLE, Int.reduceToNat, dite_true]
  refine RetOk.r (vs := []) rfl (RetR.ownSub (i := 0) rfl (List.Sublist.refl _)) ⟨_, _, rfl, ?_⟩
  exact ⟨_, hr2, each_snoc (hes.mono fun _ _ _ h => h.mono hF2) (hx'.mono hF2)⟩
end Go.Proofs.YtoepmdbicdoieaaDoor.J
