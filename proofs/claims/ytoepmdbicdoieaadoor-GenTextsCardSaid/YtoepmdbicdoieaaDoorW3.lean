/- gen: the places of names, the numbers and the places of atoms. -/
import Derived.Test.YtoepmdbicdoieaaDoorW2
namespace Go.Proofs.YtoepmdbicdoieaaDoor.W
open Go Go.Eng Go.Proofs Go.Proofs.YtoepmdbicdoieaaDoor.T Go.Proofs.YtoepmdbicdoieaaDoor.K Go.Proofs.YtoepmdbicdoieaaDoor.U
set_option linter.unusedSimpArgs false
set_option linter.unusedVariables false
set_option maxRecDepth 100000
set_option maxHeartbeats 4000000
/-- What a scheme's calls that only look know: where names stand. -/
structure Looks (F : PH) (C : Env) (mt v : Value) (l : List ByteArray) : Prop where
  tops : PlcM F mt (fo C.tops)
  locs : Plc F v l
  few : C.tops.length ≤ 1000000000
theorem Looks.mono {F G : PH} (hl : F.le G) {C : Env} {mt v : Value} {l : List ByteArray} (h : Looks F C mt v l) : Looks G C mt v l := ⟨h.tops.mono hl, h.locs.mono hl, h.few⟩


theorem all (F : PH) (C : Env) (sb : Nat) (vc vg vi vn mc mt vq : Value) (big : Bool) (lv v : Value) (names l : List ByteArray) (hn : Strs F lv names) (hL : Looks F C mt v l) (hk : ∀ s ∈ names, Known C l s) (hb : names.length ≤ 100000000) :
    Eng.Fn Tryd.prog 114 [ptr sb, lv, v] F [cell1 sb 70 (schC vc vg vi vn mc mt vq big)] (fun r F' R' => ∃ r', R' = [cell1 sb 70 (schC vc vg vi vn mc mt vq big), r'] ∧ Row r' 3 1 r ((names.map (place C l)).map i64v)) := by
  obtain ⟨pl, cl, rfl, hl1, hl2, hl3⟩ := hn
  obtain ⟨mb, rfl⟩ := hL.locs.val
  refine SFn.intro (n := 25) (ts := [6]) Tryd.func114 rfl rfl rfl rfl (by simp) fun B hB => VC.emp ?_
  refine VC.go 100 ?_
  simp only [push_cast, ↓reduceIte, Nat.reduceEqDiff, Nat.reduceAdd, Nat.reduceMul, Nat.reduceSub, Nat.reduceLT, Nat.reduceLeDiff, reduceCtorEq, Nat.reduceMod, Int.reduceEq, Int.reduceLT, Int.reduceLE, Int.reduceToNat, dite_true]
  refine VC.loopR (ι := Nat × Value × PH × PH) (fun i => [(12, .v (i64v i.1)), (11, .v (i64v names.length)), (10, .v (.slice pl names.length cl)), (7, .v i.2.1), (2, .v (.map (some mb))), (0, .o 0 sb 0)]) (fun i => i.2.2.1) (fun i => i.2.2.2) [] (fun i => i.1 ≤ names.length ∧ F.le i.2.2.1 ∧ Row i.2.2.2 3 1 i.2.1 (((names.take i.1).map (place C l)).map i64v)) (fun i => names.length - i.1) (0, .slice none 0 0, F, PH.emp) ⟨Nat.zero_le _, PH.le_refl _, Row.nil _ _⟩ (by simp [subk, Eng.look]) rfl rfl ?_
  rintro ⟨k, u, F1, r⟩ ⟨hk', hF1, hrow⟩ G hG
  dsimp only at hk' hF1 hrow hG ⊢
  refine VC.go 100 ?_
  by_cases h : k < names.length
  case neg =>
    have h' : ¬ (k : Int) < (names.length : Int) := by omega
    simp only [push_cast, ↓reduceIte, Nat.reduceEqDiff, Nat.reduceAdd, Nat.reduceMul, Nat.reduceSub, Nat.reduceLT, Nat.reduceLeDiff, reduceCtorEq, Nat.reduceMod, Int.reduceEq, Int.reduceLT, Int.reduceLE, Int.reduceToNat, dite_true, h']
    rw [List.take_of_length_le (by omega)] at hrow
    exact RetOk.r (vs := [_]) rfl (RetR.own (i := 0) rfl) ⟨r, rfl, hrow⟩
  have h' : (k : Int) < (names.length : Int) := by omega
  have h0 : (0 : Int) ≤ (k : Int) := by omega
  obtain ⟨a, rfl, ha⟩ := (hl3.mono hF1).elem1 (i := k) (v := .string names[k]) (by simp [h])
  have e2 : IntKind.i64.wrap ((k : Int) + 1) = ((k + 1 : Nat) : Int) := wadd k h (Nat.le_trans hl1 hl2)
  have hkn := hk names[k] (List.getElem_mem h)
  have hL1 := hL.mono hF1
  simp only [push_cast, ↓reduceIte, Nat.reduceEqDiff, Nat.reduceAdd, Nat.reduceMul, Nat.reduceSub, Nat.reduceLT, Nat.reduceLeDiff, reduceCtorEq, Nat.reduceMod, Int.reduceEq, Int.reduceLT, Int.reduceLE, Int.reduceToNat, dite_true, h', h0, ha]
  refine CallV.own (i := 0) rfl (placeF F1 C sb vc vg vi vn mc mt vq big _ l _ hL1.locs hL1.tops hkn.1 hkn.2 hL.few) ?_
  rintro _ F2 _ hF2 ⟨rfl, rfl⟩
  simp only [push_cast, ↓reduceIte, Nat.reduceEqDiff, Nat.reduceAdd, Nat.reduceMul, Nat.reduceSub, Nat.reduceLT, Nat.reduceLeDiff, reduceCtorEq, Nat.reduceMod, Int.reduceEq, Int.reduceLT, Int.reduceLE, Int.reduceToNat, dite_true]
  intro b2 F3 hF3 hb3
  refine Eff.append (ys := [i64v (place C l names[k])]) rfl rfl rfl ty83 rfl ty3 rfl (by decide) rfl rfl (List.Perm.refl _) hrow (Src.blk hb3 rfl) (by simp [Value.oneCell']) (by simp; omega) (by decide) ?_
  intro v' r' hrow'
  simp only [push_cast, ↓reduceIte, Nat.reduceEqDiff, Nat.reduceAdd, Nat.reduceMul, Nat.reduceSub, Nat.reduceLT, Nat.reduceLeDiff, reduceCtorEq, Nat.reduceMod, Int.reduceEq, Int.reduceLT, Int.reduceLE, Int.reduceToNat, dite_true, e2]
  exact hG (k + 1, v', F3, r') _ ⟨by omega, PH.le_trans (PH.le_trans hF1 hF2) hF3, by rw [List.take_succ_eq_append_getElem h, List.map_append, List.map_append]; exact hrow'⟩ (by simp; omega) (by simp [subk, Eng.look]) (List.Sublist.refl _) rfl rfl
theorem nums_append (a b : List (ByteArray × Int)) : nums (a ++ b) = nums a ++ nums b := by
  induction a with
  | nil => rfl
  | cons x a ih => simp only [List.cons_append, nums, ih]; split <;> simp
theorem nums_len (a : List (ByteArray × Int)) : (nums a).length ≤ a.length := by
  induction a with
  | nil => simp [nums]
  | cons x a ih => simp only [nums]; split <;> simp <;> omega
theorem atomsP_append (C : Env) (l : List ByteArray) (a b : List (ByteArray × Int)) (k : Int) : atomsP C l (a ++ b) k = atomsP C l a k ++ atomsP C l b (k + (nums a).length) := by
  induction a generalizing k with
  | nil => simp [atomsP, nums]
  | cons x a ih =>
    simp only [List.cons_append, atomsP, nums]
    split
    · rw [ih, List.length_cons, List.cons_append, show k + 1 + ((nums a).length : Int) = k + (((nums a).length + 1 : Nat) : Int) by omega]
    · rw [ih, List.cons_append]
theorem atomsP_len (C : Env) (l : List ByteArray) (a : List (ByteArray × Int)) (k : Int) : (atomsP C l a k).length = a.length := by
  induction a generalizing k with
  | nil => rfl
  | cons x a ih => simp only [atomsP]; split <;> simp [ih]
theorem nil_ints (F : PH) : Ints F (.slice none 0 0) [] := ⟨none, 0, rfl, Nat.le_refl _, Nat.zero_le _, rfl, fun h => absurd h (by simp)⟩
theorem numbers (F : PH) (lv : Value) (l : List (ByteArray × Int)) (hl : Sl F 2 lv l.length (atomVals l)) (hb : l.length ≤ 100000000) :
    Eng.Fn Tryd.prog 82 [lv] F [] (fun r F' R' => ∃ r', R' = [r'] ∧ RowE r' 85 4 (RMk F') r (nums l)) := by
  obtain ⟨pl, cl, rfl, hl1, hl2, hl3⟩ := hl
  refine Fn.intro (n := 23) (ts := [2]) Tryd.func82 rfl rfl rfl rfl (by simp) fun B hB => VC.emp ?_
  refine VC.go 100 ?_
  simp only [push_cast, ↓reduceIte, Nat.reduceEqDiff, Nat.reduceAdd, Nat.reduceMul, Nat.reduceSub, Nat.reduceLT, Nat.reduceLeDiff, reduceCtorEq, Nat.reduceMod, Int.reduceEq, Int.reduceLT, Int.reduceLE, Int.reduceToNat, dite_true]
  refine VC.loopR (ι := Nat × Value × PH × PH) (fun i => [(8, .v (i64v i.1)), (7, .v (i64v l.length)), (6, .v (.slice pl l.length cl)), (3, .v i.2.1)]) (fun i => i.2.2.1) (fun i => i.2.2.2) [] (fun i => i.1 ≤ l.length ∧ F.le i.2.2.1 ∧ RowE i.2.2.2 85 4 (RMk i.2.2.1) i.2.1 (nums (l.take i.1))) (fun i => l.length - i.1) (0, .slice none 0 0, F, PH.emp) ⟨Nat.zero_le _, PH.le_refl _, RowE.nil _ _ _⟩ (by simp [subk, Eng.look]) rfl rfl ?_
  rintro ⟨k, u, F1, r⟩ ⟨hk', hF1, hrow⟩ G hG
  dsimp only at hk' hF1 hrow hG ⊢
  refine VC.go 100 ?_
  by_cases h : k < l.length
  case neg =>
    have h' : ¬ (k : Int) < (l.length : Int) := by omega
    simp only [push_cast, ↓reduceIte, Nat.reduceEqDiff, Nat.reduceAdd, Nat.reduceMul, Nat.reduceSub, Nat.reduceLT, Nat.reduceLeDiff, reduceCtorEq, Nat.reduceMod, Int.reduceEq, Int.reduceLT, Int.reduceLE, Int.reduceToNat, dite_true, h']
    rw [List.take_of_length_le (by omega)] at hrow
    exact RetOk.r (vs := [_]) rfl (RetR.refl _) ⟨r, rfl, hrow⟩
  have h' : (k : Int) < (l.length : Int) := by omega
  have h0 : (0 : Int) ≤ (k : Int) := by omega
  obtain ⟨a, rfl, ha⟩ := (hl3.mono hF1).elem h (by decide)
  rw [atomVals_at l k h] at ha
  have e2 : IntKind.i64.wrap ((k : Int) + 1) = ((k + 1 : Nat) : Int) := wadd k h (Nat.le_trans hl1 hl2)
  have ht : nums (l.take (k + 1)) = nums (l.take k) ++ nums [l[k]] := by rw [List.take_succ_eq_append_getElem h, nums_append]
  simp only [push_cast, ↓reduceIte, Nat.reduceEqDiff, Nat.reduceAdd, Nat.reduceMul, Nat.reduceSub, Nat.reduceLT, Nat.reduceLeDiff, reduceCtorEq, Nat.reduceMod, Int.reduceEq, Int.reduceLT, Int.reduceLE, Int.reduceToNat, dite_true, h', h0, ha]
  intro b
  by_cases hs : (l[k]).1 = ⟨#[]⟩
  · simp only [push_cast, ↓reduceIte, Nat.reduceEqDiff, Nat.reduceAdd, Nat.reduceMul, Nat.reduceSub, Nat.reduceLT, Nat.reduceLeDiff, reduceCtorEq, Nat.reduceMod, Int.reduceEq, Int.reduceLT, Int.reduceLE, Int.reduceToNat, dite_true, hs]
    intro b2 F3 hF3 hb3
    obtain ⟨xs, hr, he⟩ := hrow
    have hxs := he.len (fun _ _ h => h.len)
    have hnl := nums_len (l.take k)
    refine Eff.append rfl rfl rfl ty86 rfl ty85 rfl (by decide) rfl rfl (List.Perm.refl _) hr (src_one hb3 rfl) (by simp [Value.oneCell']) (by simp [hxs] at hnl ⊢; omega) (by decide) ?_
    intro v' r' hrow'
    simp only [push_cast, ↓reduceIte, Nat.reduceEqDiff, Nat.reduceAdd, Nat.reduceMul, Nat.reduceSub, Nat.reduceLT, Nat.reduceLeDiff, reduceCtorEq, Nat.reduceMod, Int.reduceEq, Int.reduceLT, Int.reduceLE, Int.reduceToNat, dite_true, e2]
    refine hG (k + 1, v', F3, r') _ ⟨by omega, PH.le_trans hF1 hF3, ?_⟩ (by simp; omega) (by simp [subk, Eng.look]) (List.nil_sublist _) rfl rfl
    dsimp only
    rw [ht, show nums [l[k]] = [⟨2, 0, (l[k]).2, []⟩] by simp [nums, hs]]
    exact ⟨_, hrow', each_snoc (he.mono fun _ _ _ h => h.mono hF3) ⟨_, rfl, nil_ints _⟩⟩
  · simp only [push_cast, ↓reduceIte, Nat.reduceEqDiff, Nat.reduceAdd, Nat.reduceMul, Nat.reduceSub, Nat.reduceLT, Nat.reduceLeDiff, reduceCtorEq, Nat.reduceMod, Int.reduceEq, Int.reduceLT, Int.reduceLE, Int.reduceToNat, dite_true, hs, e2]
    refine hG (k + 1, u, F1, r) _ ⟨by omega, hF1, ?_⟩ (by simp; omega) (by simp [subk, Eng.look]) (List.nil_sublist _) rfl rfl
    dsimp only
    rw [ht]
    simpa [nums, hs] using hrow
theorem atoms (F : PH) (C : Env) (sb : Nat) (vc vg vi vn mc mt vq : Value) (big : Bool) (lv v : Value) (ats : List (ByteArray × Int)) (frm : Nat) (l : List ByteArray) (hn : Sl F 2 lv ats.length (atomVals ats)) (hL : Looks F C mt v l) (hk : ∀ a ∈ ats, ¬ a.1 = ⟨#[]⟩ → Known C l a.1) (hb : ats.length ≤ 100000000) (hf : frm ≤ 1000000000) :
    Eng.Fn Tryd.prog 83 [ptr sb, lv, v, i64v frm] F [cell1 sb 70 (schC vc vg vi vn mc mt vq big)] (fun r F' R' => ∃ r', R' = [cell1 sb 70 (schC vc vg vi vn mc mt vq big), r'] ∧ Row r' 3 1 r ((atomsP C l ats frm).map i64v)) := by
  obtain ⟨pl, cl, rfl, hl1, hl2, hl3⟩ := hn
  obtain ⟨mb, rfl⟩ := hL.locs.val
  refine SFn.intro (n := 37) (ts := [8]) Tryd.func83 rfl rfl rfl rfl (by simp) fun B hB => VC.emp ?_
  refine VC.go 100 ?_
  simp only [push_cast, ↓reduceIte, Nat.reduceEqDiff, Nat.reduceAdd, Nat.reduceMul, Nat.reduceSub, Nat.reduceLT, Nat.reduceLeDiff, reduceCtorEq, Nat.reduceMod, Int.reduceEq, Int.reduceLT, Int.reduceLE, Int.reduceToNat, dite_true]
  refine VC.loopR (ι := Nat × Value × PH × PH) (fun i => [(14, .v (i64v i.1)), (13, .v (i64v ats.length)), (12, .v (.slice pl ats.length cl)), (9, .v i.2.1), (3, .v (i64v ((frm + (nums (ats.take i.1)).length : Nat) : Int))), (2, .v (.map (some mb))), (0, .o 0 sb 0)]) (fun i => i.2.2.1) (fun i => i.2.2.2) [] (fun i => i.1 ≤ ats.length ∧ F.le i.2.2.1 ∧ Row i.2.2.2 3 1 i.2.1 ((atomsP C l (ats.take i.1) frm).map i64v)) (fun i => ats.length - i.1) (0, .slice none 0 0, F, PH.emp) ⟨Nat.zero_le _, PH.le_refl _, Row.nil _ _⟩ (by simp [subk, Eng.look, nums]) rfl rfl ?_
  rintro ⟨k, u, F1, r⟩ ⟨hk', hF1, hrow⟩ G hG
  dsimp only at hk' hF1 hrow hG ⊢
  refine VC.go 100 ?_
  by_cases h : k < ats.length
  case neg =>
    have h' : ¬ (k : Int) < (ats.length : Int) := by omega
    simp only [push_cast, ↓reduceIte, Nat.reduceEqDiff, Nat.reduceAdd, Nat.reduceMul, Nat.reduceSub, Nat.reduceLT, Nat.reduceLeDiff, reduceCtorEq, Nat.reduceMod, Int.reduceEq, Int.reduceLT, Int.reduceLE, Int.reduceToNat, dite_true, h']
    rw [List.take_of_length_le (by omega)] at hrow
    exact RetOk.r (vs := [_]) rfl (RetR.own (i := 0) rfl) ⟨r, rfl, hrow⟩
  have h' : (k : Int) < (ats.length : Int) := by omega
  have h0 : (0 : Int) ≤ (k : Int) := by omega
  obtain ⟨a, rfl, ha⟩ := (hl3.mono hF1).elem h (by decide)
  rw [atomVals_at ats k h] at ha
  have e2 : IntKind.i64.wrap ((k : Int) + 1) = ((k + 1 : Nat) : Int) := wadd k h (Nat.le_trans hl1 hl2)
  have hnl := nums_len (ats.take k)
  have hnl2 : (ats.take k).length ≤ k := List.length_take_le _ _
  have hlen := atomsP_len C l (ats.take k) frm
  have hL1 := hL.mono hF1
  have ht : atomsP C l (ats.take (k + 1)) frm = atomsP C l (ats.take k) frm ++ atomsP C l [ats[k]] (frm + (nums (ats.take k)).length) := by rw [List.take_succ_eq_append_getElem h, atomsP_append]
  have hn1 : nums (ats.take (k + 1)) = nums (ats.take k) ++ nums [ats[k]] := by rw [List.take_succ_eq_append_getElem h, nums_append]
  simp only [push_cast, ↓reduceIte, Nat.reduceEqDiff, Nat.reduceAdd, Nat.reduceMul, Nat.reduceSub, Nat.reduceLT, Nat.reduceLeDiff, reduceCtorEq, Nat.reduceMod, Int.reduceEq, Int.reduceLT, Int.reduceLE, Int.reduceToNat, dite_true, h', h0, ha]
  intro b
  by_cases hs : (ats[k]).1 = ⟨#[]⟩
  · have e3 : IntKind.i64.wrap ((frm : Int) + ((nums (ats.take k)).length : Int) + 1) = frm + (nums (ats.take k)).length + 1 := w64 _ (by omega)
    simp only [push_cast, ↓reduceIte, Nat.reduceEqDiff, Nat.reduceAdd, Nat.reduceMul, Nat.reduceSub, Nat.reduceLT, Nat.reduceLeDiff, reduceCtorEq, Nat.reduceMod, Int.reduceEq, Int.reduceLT, Int.reduceLE, Int.reduceToNat, dite_true, hs]
    intro b2 F3 hF3 hb3
    refine Eff.append rfl rfl rfl ty83 rfl ty3 rfl (by decide) rfl rfl (List.Perm.refl _) hrow (Src.blk hb3 rfl) (by simp [Value.oneCell']) (by simp [hlen]; omega) (by decide) ?_
    intro v' r' hrow'
    simp only [push_cast, ↓reduceIte, Nat.reduceEqDiff, Nat.reduceAdd, Nat.reduceMul, Nat.reduceSub, Nat.reduceLT, Nat.reduceLeDiff, reduceCtorEq, Nat.reduceMod, Int.reduceEq, Int.reduceLT, Int.reduceLE, Int.reduceToNat, dite_true, e2, e3]
    refine hG (k + 1, v', F3, r') _ ⟨by omega, PH.le_trans hF1 hF3, ?_⟩ (by simp; omega) ?_ (by simp) rfl rfl
    · dsimp only
      rw [ht, show atomsP C l [ats[k]] (frm + (nums (ats.take k)).length) = [(frm : Int) + (nums (ats.take k)).length] by simp [atomsP, hs], List.map_append]
      simpa using hrow'
    · dsimp only
      rw [hn1, show nums [ats[k]] = [⟨2, 0, (ats[k]).2, []⟩] by simp [nums, hs], List.length_append]
      simp [subk, Eng.look, Int.add_assoc]
  · have hkn := hk ats[k] (List.getElem_mem h) hs
    simp only [push_cast, ↓reduceIte, Nat.reduceEqDiff, Nat.reduceAdd, Nat.reduceMul, Nat.reduceSub, Nat.reduceLT, Nat.reduceLeDiff, reduceCtorEq, Nat.reduceMod, Int.reduceEq, Int.reduceLT, Int.reduceLE, Int.reduceToNat, dite_true, hs]
    refine CallV.own (i := 0) rfl (placeF F1 C sb vc vg vi vn mc mt vq big _ l _ hL1.locs hL1.tops hkn.1 hkn.2 hL.few) ?_
    rintro _ F2 _ hF2 ⟨rfl, rfl⟩
    simp only [push_cast, ↓reduceIte, Nat.reduceEqDiff, Nat.reduceAdd, Nat.reduceMul, Nat.reduceSub, Nat.reduceLT, Nat.reduceLeDiff, reduceCtorEq, Nat.reduceMod, Int.reduceEq, Int.reduceLT, Int.reduceLE, Int.reduceToNat, dite_true]
    intro b2 F3 hF3 hb3
    refine Eff.append (ys := [i64v (place C l (ats[k]).1)]) rfl rfl rfl ty83 rfl ty3 rfl (by decide) rfl rfl (List.Perm.refl _) hrow (Src.blk hb3 rfl) (by simp [Value.oneCell']) (by simp [hlen]; omega) (by decide) ?_
    intro v' r' hrow'
    simp only [push_cast, ↓reduceIte, Nat.reduceEqDiff, Nat.reduceAdd, Nat.reduceMul, Nat.reduceSub, Nat.reduceLT, Nat.reduceLeDiff, reduceCtorEq, Nat.reduceMod, Int.reduceEq, Int.reduceLT, Int.reduceLE, Int.reduceToNat, dite_true, e2]
    refine hG (k + 1, v', F3, r') _ ⟨by omega, PH.le_trans (PH.le_trans hF1 hF2) hF3, ?_⟩ (by simp; omega) ?_ (by simp) rfl rfl
    · dsimp only
      rw [ht, show atomsP C l [ats[k]] (frm + (nums (ats.take k)).length) = [place C l (ats[k]).1] by simp [atomsP, hs], List.map_append]
      exact hrow'
    · dsimp only
      rw [hn1, show nums [ats[k]] = [] by simp [nums, hs], List.append_nil]
      simp [subk, Eng.look]
end Go.Proofs.YtoepmdbicdoieaaDoor.W
