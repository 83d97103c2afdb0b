/- The document's check of codes: an instruction, on codes that are right. -/
import Derived.Test.YtoepmdbicdoieaaDoorZ4
namespace Go.Proofs.YtoepmdbicdoieaaDoor.Z
open Go Go.Eng Go.RowKit Go.Proofs Go.Proofs.YtoepmdbicdoieaaDoor.T Go.Proofs.YtoepmdbicdoieaaDoor.V Go.Proofs.YtoepmdbicdoieaaDoor.K Go.Proofs.YtoepmdbicdoieaaDoor.U Go.Proofs.YtoepmdbicdoieaaDoor.N
open Go.Proofs.YtoepmdbicdoieaaDoor.W (i64v ptr Ints RowE RMk RIns RInf RArm RNum RFrm src_one each_snoc Fits CompQ RCode nil_code nil_ints sle_one)
set_option linter.unusedSimpArgs false
set_option linter.unusedVariables false
set_option maxRecDepth 100000
set_option maxHeartbeats 4000000
theorem ints_one {F : PH} {b : Nat} {e : TypeId} {x : Int} (h : F b = some (.cells #[i64v x] e (0, 0))) : Ints F (.slice (some ⟨b, 0, none⟩) 1 1) [x] := ⟨_, _, rfl, Nat.le_refl _, by decide, src_one (cs := [i64v x]) h rfl⟩
theorem arityP_pos {n : Int} (h1 : 1 ≤ n) (h2 : n ≤ 16) : 1 ≤ arityP n := by
  unfold arityP
  rw [if_neg (by omega)]
  split
  · omega
  · split <;> omega
theorem mk_kind {c : Cd} {loc : Int} {k : Mk} (h : MkOK c loc k) : k.kind = 1 ∨ k.kind = 2 ∨ k.kind = 3 ∨ k.kind = 6 ∨ k.kind = 7 := by
  rcases h.1 with ⟨g, _⟩ | ⟨g, _⟩ | ⟨g, _⟩ | ⟨g, _⟩ <;> omega
theorem arm_kind {c : Cd} {b : Int} {a : Arm} (h : ArmOK c b a) : 1 ≤ a.kind ∧ a.kind ≤ 3 := by
  obtain ⟨_, _, _, _, ⟨g, _⟩ | ⟨g, _⟩⟩ := h <;> omega
theorem insnLet (F : PH) (c : Cd) (v1 v2 v3 v4 : Value) (hc : RCode F c v1 v2 v3 v4) (hK : CodeOK c) (at_ : Nat) (x : Ins) (hat : c.ins[at_]? = some x) (hop : x.op = 1) (hb0 : 0 ≤ x.b) (hb1 : x.b + x.makes.length ≤ 1000)
    (hne : x.makes ≠ []) (hmk : ∀ k ∈ x.makes, MkOK c (x.b + x.makes.length) k) (hnx : ∃ j, c.ins[at_ + 1]? = some j ∧ j.b = x.b + x.makes.length) :
    PFn Tryd.prog 26 [.agg #[v1, v2, v3, v4], i64v at_] F (fun v _ => v = i64v 0) := by
  have hc' := hc
  obtain ⟨p1, q1, rfl, l1, m1⟩ := hc.cons.val
  obtain ⟨p2, q2, rfl, l2, m2⟩ := hc.globals.val
  obtain ⟨p3, q3, rfl, l3, m3⟩ := hc.infos.val
  obtain ⟨p4, q4, rfl, l4, m4⟩ := hc.ins.val
  have hal := (List.getElem?_eq_some_iff.1 hat).1
  have ha0 : (0 : Int) ≤ (at_ : Int) := by omega
  have ha' : (at_ : Int) < (c.ins.length : Int) := by omega
  obtain ⟨qx, _, cx, eq, _, _, klx, hx⟩ := hc'.ins.elem (by decide) hat (fun _ _ h => h.len)
  cases eq
  have hx0 := hx
  obtain ⟨vl, vk, vm, va, rfl, hx1, hx2, hx3, hx4⟩ := hx
  have hl := hx1
  have hk := hx2
  obtain ⟨pl, cl, rfl, _, _, _⟩ := hx1
  obtain ⟨pk, ck, rfl, _, _, _⟩ := hx2
  obtain ⟨pm, cm, rfl, lm, mm⟩ := hx3.val
  obtain ⟨pa, ca, rfl, la, ma⟩ := hx4.val
  rw [hop] at hx0 klx
  have hb2 : ¬ 1000 < x.b := by omega
  have hb3 : ¬ x.b < 0 := by omega
  refine Fn.intro (n := 201) (ts := [4]) Tryd.func26 rfl rfl rfl rfl (by simp) fun B hB => VC.go 6 ?_
  simp only [push_cast, ↓reduceIte, Nat.reduceEqDiff, Nat.reduceAdd, Nat.reduceMul, Nat.reduceSub, Nat.reduceLT, Nat.reduceLeDiff, reduceCtorEq, Nat.reduceMod, Int.reduceEq, Int.reduceLT, Int.reduceLE, Int.reduceToNat, dite_true, ha0, ha', klx]
  intro b2 b5
  refine VC.seq (VC.cutW (ι := PH) (fun _ => [(1, .v (i64v at_)), (2, .o 0 b2 0), (5, .o 1 b5 0), (6, .v (i64v 0))]) (fun _ => [⟨0, b2, 31, [.slice p1 c.cons.length q1, .slice p2 c.globals.length q2, .slice p3 c.infos.length q3, .slice (some qx) c.ins.length q4]⟩, ⟨1, b5, 89, [i64v 1, i64v x.a, i64v x.b, .slice pl x.list.length cl, .slice pk x.keep.length ck, .slice pm x.makes.length cm, .slice pa x.arms.length ca]⟩]) (fun j => j) (fun _ => []) (fun j => F.le j) (fun G hG => ?_) ?_)
  · have hF1 := PH.le_refl F
    refine VC.go 100 ?_
    simp only [push_cast, ↓reduceIte, Nat.reduceEqDiff, Nat.reduceAdd, Nat.reduceMul, Nat.reduceSub, Nat.reduceLT, Nat.reduceLeDiff, reduceCtorEq, Nat.reduceMod, Int.reduceEq, Int.reduceLT, Int.reduceLE, Int.reduceToNat, dite_true]
    refine VC.loopW (ι := Nat × PH) (fun j => [(7, .v (i64v j.1)), (6, .v (i64v 0)), (1, .v (i64v at_)), (2, .o 0 b2 0), (5, .o 1 b5 0)]) (fun _ => [⟨0, b2, 31, [.slice p1 c.cons.length q1, .slice p2 c.globals.length q2, .slice p3 c.infos.length q3, .slice (some qx) c.ins.length q4]⟩, ⟨1, b5, 89, [i64v 1, i64v x.a, i64v x.b, .slice pl x.list.length cl, .slice pk x.keep.length ck, .slice pm x.makes.length cm, .slice pa x.arms.length ca]⟩]) (fun j => j.2) (fun _ => []) (fun j => j.1 ≤ x.makes.length ∧ F.le j.2) (fun j => x.makes.length - j.1) (0, F) ⟨Nat.zero_le _, PH.le_refl _⟩ (by simp [subk, Eng.look]) (List.Sublist.refl _) rfl (subR_refl _) ?_
    rintro ⟨i, F2⟩ ⟨hi, hF2'⟩ G1 hG1
    dsimp only at hi hF2' hG1 ⊢
    have hF2 : F.le F2 := PH.le_trans hF1 hF2'
    refine VC.go 100 ?_
    by_cases h : i < x.makes.length
    case neg =>
      have h' : ¬ (i : Int) < (x.makes.length : Int) := by omega
      simp only [push_cast, ↓reduceIte, Nat.reduceEqDiff, Nat.reduceAdd, Nat.reduceMul, Nat.reduceSub, Nat.reduceLT, Nat.reduceLeDiff, reduceCtorEq, Nat.reduceMod, Int.reduceEq, Int.reduceLT, Int.reduceLE, Int.reduceToNat, dite_true, h']
      exact hG F2 _ hF2 (by simp [subk, Eng.look]) (List.Sublist.refl _) rfl (subR_refl _)
    have h' : (i : Int) < (x.makes.length : Int) := by omega
    have h0 : (0 : Int) ≤ (i : Int) := by omega
    have e2 : IntKind.i64.wrap ((i : Int) + 1) = ((i + 1 : Nat) : Int) := wadd i h (Nat.le_trans lm mm)
    obtain ⟨qa, _, csa, eq, _, _, kla, kra⟩ := (hx3.mono (R' := RMk F2) hF2 (fun _ _ _ h => h.mono hF2)).elem (by decide) (i := i) (a := x.makes[i]) (List.getElem?_eq_getElem h) (fun _ _ h => h.len)
    cases eq
    obtain ⟨vf, rfl, hvf⟩ := kra
    have hvf' := hvf
    obtain ⟨pf, cf, rfl, _, _, _⟩ := hvf
    have k0 := cell_at kla (o := 0) rfl
    simp only [push_cast, ↓reduceIte, Nat.reduceEqDiff, Nat.reduceAdd, Nat.reduceMul, Nat.reduceSub, Nat.reduceLT, Nat.reduceLeDiff, reduceCtorEq, Nat.reduceMod, Int.reduceEq, Int.reduceLT, Int.reduceLE, Int.reduceToNat, dite_true, h', h0, k0]
    refine CallV.pure (closure F2 _ (mk_kind (hmk _ (List.getElem_mem h)))) ?_
    rintro _ F3 hF3 rfl
    simp only [push_cast, ↓reduceIte, Nat.reduceEqDiff, Nat.reduceAdd, Nat.reduceMul, Nat.reduceSub, Nat.reduceLT, Nat.reduceLeDiff, reduceCtorEq, Nat.reduceMod, Int.reduceEq, Int.reduceLT, Int.reduceLE, Int.reduceToNat, dite_true, e2]
    exact hG1 (i + 1, F3) _ ⟨by omega, PH.le_trans hF2' hF3⟩ (by simp; omega) (by simp [subk, Eng.look]) (List.Sublist.refl _) rfl (subR_refl _)
  intro F1 hF1
  refine VC.go 100 ?_
  simp only [push_cast, ↓reduceIte, Nat.reduceEqDiff, Nat.reduceAdd, Nat.reduceMul, Nat.reduceSub, Nat.reduceLT, Nat.reduceLeDiff, reduceCtorEq, Nat.reduceMod, Int.reduceEq, Int.reduceLT, Int.reduceLE, Int.reduceToNat, dite_true, hb2, hb3]
  refine CallV.pure (let12 F1 c _ _ _ _ (code_mono hF1 hc') at_ x _ (hx0.mono hF1) hb0 hb1 hne hmk hnx) ?_
  rintro _ F2 hF2 rfl
  simp only [push_cast, ↓reduceIte, Nat.reduceEqDiff, Nat.reduceAdd, Nat.reduceMul, Nat.reduceSub, Nat.reduceLT, Nat.reduceLeDiff, reduceCtorEq, Nat.reduceMod, Int.reduceEq, Int.reduceLT, Int.reduceLE, Int.reduceToNat, dite_true]
  exact RetOk.p rfl rfl
theorem insnArms (F : PH) (c : Cd) (v1 v2 v3 v4 : Value) (hc : RCode F c v1 v2 v3 v4) (hK : CodeOK c) (at_ : Nat) (x : Ins) (hat : c.ins[at_]? = some x) (hop : x.op = 5) (hb0 : 0 ≤ x.b) (hb1 : x.b + x.makes.length ≤ 1000)
    (hb4 : 1 ≤ x.b) (hne : x.arms ≠ []) (har : ∀ a ∈ x.arms, ArmOK c x.b a) :
    PFn Tryd.prog 26 [.agg #[v1, v2, v3, v4], i64v at_] F (fun v _ => v = i64v 0) := by
  have hc' := hc
  obtain ⟨p1, q1, rfl, l1, m1⟩ := hc.cons.val
  obtain ⟨p2, q2, rfl, l2, m2⟩ := hc.globals.val
  obtain ⟨p3, q3, rfl, l3, m3⟩ := hc.infos.val
  obtain ⟨p4, q4, rfl, l4, m4⟩ := hc.ins.val
  have hal := (List.getElem?_eq_some_iff.1 hat).1
  have ha0 : (0 : Int) ≤ (at_ : Int) := by omega
  have ha' : (at_ : Int) < (c.ins.length : Int) := by omega
  obtain ⟨qx, _, cx, eq, _, _, klx, hx⟩ := hc'.ins.elem (by decide) hat (fun _ _ h => h.len)
  cases eq
  have hx0 := hx
  obtain ⟨vl, vk, vm, va, rfl, hx1, hx2, hx3, hx4⟩ := hx
  have hl := hx1
  have hk := hx2
  obtain ⟨pl, cl, rfl, _, _, _⟩ := hx1
  obtain ⟨pk, ck, rfl, _, _, _⟩ := hx2
  obtain ⟨pm, cm, rfl, lm, mm⟩ := hx3.val
  obtain ⟨pa, ca, rfl, la, ma⟩ := hx4.val
  rw [hop] at hx0 klx
  have hb2 : ¬ 1000 < x.b := by omega
  have hb3 : ¬ x.b < 0 := by omega
  refine Fn.intro (n := 201) (ts := [4]) Tryd.func26 rfl rfl rfl rfl (by simp) fun B hB => VC.go 6 ?_
  simp only [push_cast, ↓reduceIte, Nat.reduceEqDiff, Nat.reduceAdd, Nat.reduceMul, Nat.reduceSub, Nat.reduceLT, Nat.reduceLeDiff, reduceCtorEq, Nat.reduceMod, Int.reduceEq, Int.reduceLT, Int.reduceLE, Int.reduceToNat, dite_true, ha0, ha', klx]
  intro b2 b5
  have hb5 : ¬ x.b < 1 := by omega
  refine VC.seq (VC.cutW (ι := PH) (fun _ => [(1, .v (i64v at_)), (2, .o 0 b2 0), (5, .o 1 b5 0), (6, .v (i64v 1))]) (fun _ => [⟨0, b2, 31, [.slice p1 c.cons.length q1, .slice p2 c.globals.length q2, .slice p3 c.infos.length q3, .slice (some qx) c.ins.length q4]⟩, ⟨1, b5, 89, [i64v 5, i64v x.a, i64v x.b, .slice pl x.list.length cl, .slice pk x.keep.length ck, .slice pm x.makes.length cm, .slice pa x.arms.length ca]⟩]) (fun j => j) (fun _ => []) (fun j => F.le j) (fun G hG => ?_) ?_)
  · have hF1 := PH.le_refl F
    refine VC.go 100 ?_
    simp only [push_cast, ↓reduceIte, Nat.reduceEqDiff, Nat.reduceAdd, Nat.reduceMul, Nat.reduceSub, Nat.reduceLT, Nat.reduceLeDiff, reduceCtorEq, Nat.reduceMod, Int.reduceEq, Int.reduceLT, Int.reduceLE, Int.reduceToNat, dite_true]
    refine VC.loopW (ι := Nat × PH) (fun j => [(8, .v (i64v j.1)), (6, .v (i64v 1)), (1, .v (i64v at_)), (2, .o 0 b2 0), (5, .o 1 b5 0)]) (fun _ => [⟨0, b2, 31, [.slice p1 c.cons.length q1, .slice p2 c.globals.length q2, .slice p3 c.infos.length q3, .slice (some qx) c.ins.length q4]⟩, ⟨1, b5, 89, [i64v 5, i64v x.a, i64v x.b, .slice pl x.list.length cl, .slice pk x.keep.length ck, .slice pm x.makes.length cm, .slice pa x.arms.length ca]⟩]) (fun j => j.2) (fun _ => []) (fun j => j.1 ≤ x.arms.length ∧ F.le j.2) (fun j => x.arms.length - j.1) (0, F) ⟨Nat.zero_le _, PH.le_refl _⟩ (by simp [subk, Eng.look]) (List.Sublist.refl _) rfl (subR_refl _) ?_
    rintro ⟨i, F2⟩ ⟨hi, hF2'⟩ G1 hG1
    dsimp only at hi hF2' hG1 ⊢
    have hF2 : F.le F2 := PH.le_trans hF1 hF2'
    refine VC.go 100 ?_
    by_cases h : i < x.arms.length
    case neg =>
      have h' : ¬ (i : Int) < (x.arms.length : Int) := by omega
      simp only [push_cast, ↓reduceIte, Nat.reduceEqDiff, Nat.reduceAdd, Nat.reduceMul, Nat.reduceSub, Nat.reduceLT, Nat.reduceLeDiff, reduceCtorEq, Nat.reduceMod, Int.reduceEq, Int.reduceLT, Int.reduceLE, Int.reduceToNat, dite_true, h']
      exact hG F2 _ hF2 (by simp [subk, Eng.look]) (List.Sublist.refl _) rfl (subR_refl _)
    have h' : (i : Int) < (x.arms.length : Int) := by omega
    have h0 : (0 : Int) ≤ (i : Int) := by omega
    have e2 : IntKind.i64.wrap ((i : Int) + 1) = ((i + 1 : Nat) : Int) := wadd i h (Nat.le_trans la ma)
    obtain ⟨qa, _, csa, eq, _, _, kla, kra⟩ := (hx4.mono (R' := RArm) (F := F) (G := F2) hF2 (fun _ _ _ h => h)).elem (by decide) (i := i) (a := x.arms[i]) (List.getElem?_eq_getElem h) (fun _ _ h => h.len)
    cases eq
    unfold RArm at kra
    subst kra
    have k0 := cell_at kla (o := 0) rfl
    obtain ⟨g1, g2⟩ := arm_kind (har _ (List.getElem_mem h))
    have g1' : ¬ (x.arms[i]).kind < 1 := by omega
    have g2' : ¬ 3 < (x.arms[i]).kind := by omega
    simp only [push_cast, ↓reduceIte, Nat.reduceEqDiff, Nat.reduceAdd, Nat.reduceMul, Nat.reduceSub, Nat.reduceLT, Nat.reduceLeDiff, reduceCtorEq, Nat.reduceMod, Int.reduceEq, Int.reduceLT, Int.reduceLE, Int.reduceToNat, dite_true, h', h0, k0, g1', g2', e2]
    exact hG1 (i + 1, F2) _ ⟨by omega, hF2'⟩ (by simp; omega) (by simp [subk, Eng.look]) (List.Sublist.refl _) rfl (subR_refl _)
  intro F1 hF1
  refine VC.go 100 ?_
  simp only [push_cast, ↓reduceIte, Nat.reduceEqDiff, Nat.reduceAdd, Nat.reduceMul, Nat.reduceSub, Nat.reduceLT, Nat.reduceLeDiff, reduceCtorEq, Nat.reduceMod, Int.reduceEq, Int.reduceLT, Int.reduceLE, Int.reduceToNat, dite_true, hb2, hb5]
  refine CallV.pure (arms12 F1 c _ _ _ _ (code_mono hF1 hc') hK x _ (hx0.mono hF1) hb4 (by omega) hne har) ?_
  rintro _ F2 hF2 rfl
  simp only [push_cast, ↓reduceIte, Nat.reduceEqDiff, Nat.reduceAdd, Nat.reduceMul, Nat.reduceSub, Nat.reduceLT, Nat.reduceLeDiff, reduceCtorEq, Nat.reduceMod, Int.reduceEq, Int.reduceLT, Int.reduceLE, Int.reduceToNat, dite_true]
  exact RetOk.p rfl rfl
theorem insnCall (F : PH) (c : Cd) (v1 v2 v3 v4 : Value) (hc : RCode F c v1 v2 v3 v4) (hK : CodeOK c) (at_ : Nat) (x : Ins) (hat : c.ins[at_]? = some x) (hop : x.op = 2) (hb0 : 0 ≤ x.b) (hb1 : x.b + x.makes.length ≤ 1000)
    (h8 : x.list.length ≤ 8) (hli : ∀ y ∈ x.list, Ins1 c.globals.length x.b y) (hia : Ins1 c.globals.length x.b x.a) :
    PFn Tryd.prog 26 [.agg #[v1, v2, v3, v4], i64v at_] F (fun v _ => v = i64v 0) := by
  have hc' := hc
  obtain ⟨p1, q1, rfl, l1, m1⟩ := hc.cons.val
  obtain ⟨p2, q2, rfl, l2, m2⟩ := hc.globals.val
  obtain ⟨p3, q3, rfl, l3, m3⟩ := hc.infos.val
  obtain ⟨p4, q4, rfl, l4, m4⟩ := hc.ins.val
  have hal := (List.getElem?_eq_some_iff.1 hat).1
  have ha0 : (0 : Int) ≤ (at_ : Int) := by omega
  have ha' : (at_ : Int) < (c.ins.length : Int) := by omega
  obtain ⟨qx, _, cx, eq, _, _, klx, hx⟩ := hc'.ins.elem (by decide) hat (fun _ _ h => h.len)
  cases eq
  have hx0 := hx
  obtain ⟨vl, vk, vm, va, rfl, hx1, hx2, hx3, hx4⟩ := hx
  have hl := hx1
  have hk := hx2
  obtain ⟨pl, cl, rfl, _, _, _⟩ := hx1
  obtain ⟨pk, ck, rfl, _, _, _⟩ := hx2
  obtain ⟨pm, cm, rfl, lm, mm⟩ := hx3.val
  obtain ⟨pa, ca, rfl, la, ma⟩ := hx4.val
  rw [hop] at hx0 klx
  have hb2 : ¬ 1000 < x.b := by omega
  have hb3 : ¬ x.b < 0 := by omega
  refine Fn.intro (n := 201) (ts := [4]) Tryd.func26 rfl rfl rfl rfl (by simp) fun B hB => VC.go 100 ?_
  have h8' : ¬ 8 < (x.list.length : Int) := by omega
  simp only [push_cast, ↓reduceIte, Nat.reduceEqDiff, Nat.reduceAdd, Nat.reduceMul, Nat.reduceSub, Nat.reduceLT, Nat.reduceLeDiff, reduceCtorEq, Nat.reduceMod, Int.reduceEq, Int.reduceLT, Int.reduceLE, Int.reduceToNat, dite_true, ha0, ha', klx, hb2, hb3, h8']
  intro b2 b5
  refine CallV.pure (outside F c _ _ _ _ hc' x.b _ _ hl hli) ?_
  rintro _ F1 hF1 rfl
  simp only [push_cast, ↓reduceIte, Nat.reduceEqDiff, Nat.reduceAdd, Nat.reduceMul, Nat.reduceSub, Nat.reduceLT, Nat.reduceLeDiff, reduceCtorEq, Nat.reduceMod, Int.reduceEq, Int.reduceLT, Int.reduceLE, Int.reduceToNat, dite_true]
  intro b F2 hF2 hb
  refine CallV.pure (outside F2 c _ _ _ _ (code_mono (PH.le_trans hF1 hF2) hc') x.b _ [x.a] (ints_one hb) (by simpa using hia)) ?_
  rintro _ F3 hF3 rfl
  simp only [push_cast, ↓reduceIte, Nat.reduceEqDiff, Nat.reduceAdd, Nat.reduceMul, Nat.reduceSub, Nat.reduceLT, Nat.reduceLeDiff, reduceCtorEq, Nat.reduceMod, Int.reduceEq, Int.reduceLT, Int.reduceLE, Int.reduceToNat, dite_true]
  exact RetOk.p rfl rfl
theorem insnRet (F : PH) (c : Cd) (v1 v2 v3 v4 : Value) (hc : RCode F c v1 v2 v3 v4) (hK : CodeOK c) (at_ : Nat) (x : Ins) (hat : c.ins[at_]? = some x) (hop : x.op = 3) (hb0 : 0 ≤ x.b) (hb1 : x.b + x.makes.length ≤ 1000)
    (hia : Ins1 c.globals.length x.b x.a) :
    PFn Tryd.prog 26 [.agg #[v1, v2, v3, v4], i64v at_] F (fun v _ => v = i64v 0) := by
  have hc' := hc
  obtain ⟨p1, q1, rfl, l1, m1⟩ := hc.cons.val
  obtain ⟨p2, q2, rfl, l2, m2⟩ := hc.globals.val
  obtain ⟨p3, q3, rfl, l3, m3⟩ := hc.infos.val
  obtain ⟨p4, q4, rfl, l4, m4⟩ := hc.ins.val
  have hal := (List.getElem?_eq_some_iff.1 hat).1
  have ha0 : (0 : Int) ≤ (at_ : Int) := by omega
  have ha' : (at_ : Int) < (c.ins.length : Int) := by omega
  obtain ⟨qx, _, cx, eq, _, _, klx, hx⟩ := hc'.ins.elem (by decide) hat (fun _ _ h => h.len)
  cases eq
  have hx0 := hx
  obtain ⟨vl, vk, vm, va, rfl, hx1, hx2, hx3, hx4⟩ := hx
  have hl := hx1
  have hk := hx2
  obtain ⟨pl, cl, rfl, _, _, _⟩ := hx1
  obtain ⟨pk, ck, rfl, _, _, _⟩ := hx2
  obtain ⟨pm, cm, rfl, lm, mm⟩ := hx3.val
  obtain ⟨pa, ca, rfl, la, ma⟩ := hx4.val
  rw [hop] at hx0 klx
  have hb2 : ¬ 1000 < x.b := by omega
  have hb3 : ¬ x.b < 0 := by omega
  refine Fn.intro (n := 201) (ts := [4]) Tryd.func26 rfl rfl rfl rfl (by simp) fun B hB => VC.go 100 ?_
  simp only [push_cast, ↓reduceIte, Nat.reduceEqDiff, Nat.reduceAdd, Nat.reduceMul, Nat.reduceSub, Nat.reduceLT, Nat.reduceLeDiff, reduceCtorEq, Nat.reduceMod, Int.reduceEq, Int.reduceLT, Int.reduceLE, Int.reduceToNat, dite_true, ha0, ha', klx, hb2, hb3]
  intro b2 b5 b F2 hF2 hb
  refine CallV.pure (outside F2 c _ _ _ _ (code_mono hF2 hc') x.b _ [x.a] (ints_one hb) (by simpa using hia)) ?_
  rintro _ F3 hF3 rfl
  simp only [push_cast, ↓reduceIte, Nat.reduceEqDiff, Nat.reduceAdd, Nat.reduceMul, Nat.reduceSub, Nat.reduceLT, Nat.reduceLeDiff, reduceCtorEq, Nat.reduceMod, Int.reduceEq, Int.reduceLT, Int.reduceLE, Int.reduceToNat, dite_true]
  exact RetOk.p rfl rfl
theorem insnPrim (F : PH) (c : Cd) (v1 v2 v3 v4 : Value) (hc : RCode F c v1 v2 v3 v4) (hK : CodeOK c) (at_ : Nat) (x : Ins) (hat : c.ins[at_]? = some x) (hop : x.op = 6) (hb0 : 0 ≤ x.b) (hb1 : x.b + x.makes.length ≤ 1000)
    (ha1 : 1 ≤ x.a) (ha16 : x.a ≤ 16) (hln : x.list.length = arityP x.a) (hli : ∀ y ∈ x.list, Ins1 c.globals.length x.b y) :
    PFn Tryd.prog 26 [.agg #[v1, v2, v3, v4], i64v at_] F (fun v _ => v = i64v 0) := by
  have hc' := hc
  obtain ⟨p1, q1, rfl, l1, m1⟩ := hc.cons.val
  obtain ⟨p2, q2, rfl, l2, m2⟩ := hc.globals.val
  obtain ⟨p3, q3, rfl, l3, m3⟩ := hc.infos.val
  obtain ⟨p4, q4, rfl, l4, m4⟩ := hc.ins.val
  have hal := (List.getElem?_eq_some_iff.1 hat).1
  have ha0 : (0 : Int) ≤ (at_ : Int) := by omega
  have ha' : (at_ : Int) < (c.ins.length : Int) := by omega
  obtain ⟨qx, _, cx, eq, _, _, klx, hx⟩ := hc'.ins.elem (by decide) hat (fun _ _ h => h.len)
  cases eq
  have hx0 := hx
  obtain ⟨vl, vk, vm, va, rfl, hx1, hx2, hx3, hx4⟩ := hx
  have hl := hx1
  have hk := hx2
  obtain ⟨pl, cl, rfl, _, _, _⟩ := hx1
  obtain ⟨pk, ck, rfl, _, _, _⟩ := hx2
  obtain ⟨pm, cm, rfl, lm, mm⟩ := hx3.val
  obtain ⟨pa, ca, rfl, la, ma⟩ := hx4.val
  rw [hop] at hx0 klx
  have hb2 : ¬ 1000 < x.b := by omega
  have hb3 : ¬ x.b < 0 := by omega
  refine Fn.intro (n := 201) (ts := [4]) Tryd.func26 rfl rfl rfl rfl (by simp) fun B hB => VC.go 100 ?_
  have hpos := arityP_pos ha1 ha16
  have hp0 : 0 < arityP x.a := by omega
  have hp1 : ¬ arityP x.a = 0 := by omega
  simp only [push_cast, ↓reduceIte, Nat.reduceEqDiff, Nat.reduceAdd, Nat.reduceMul, Nat.reduceSub, Nat.reduceLT, Nat.reduceLeDiff, reduceCtorEq, Nat.reduceMod, Int.reduceEq, Int.reduceLT, Int.reduceLE, Int.reduceToNat, dite_true, ha0, ha', klx, hb2, hb3]
  intro b2 b5
  refine CallV.pure (arity8 F x.a) ?_
  rintro _ F1 hF1 rfl
  simp only [push_cast, ↓reduceIte, Nat.reduceEqDiff, Nat.reduceAdd, Nat.reduceMul, Nat.reduceSub, Nat.reduceLT, Nat.reduceLeDiff, reduceCtorEq, Nat.reduceMod, Int.reduceEq, Int.reduceLT, Int.reduceLE, Int.reduceToNat, dite_true, hp0, hp1, hln, ne_eq, not_true_eq_false, decide_false]
  refine CallV.pure (outside F1 c _ _ _ _ (code_mono hF1 hc') x.b _ _ (hl.mono hF1) hli) ?_
  rintro _ F2 hF2 rfl
  simp only [push_cast, ↓reduceIte, Nat.reduceEqDiff, Nat.reduceAdd, Nat.reduceMul, Nat.reduceSub, Nat.reduceLT, Nat.reduceLeDiff, reduceCtorEq, Nat.reduceMod, Int.reduceEq, Int.reduceLT, Int.reduceLE, Int.reduceToNat, dite_true]
  exact RetOk.p rfl rfl
theorem insnCase (F : PH) (c : Cd) (v1 v2 v3 v4 : Value) (hc : RCode F c v1 v2 v3 v4) (hK : CodeOK c) (at_ : Nat) (x : Ins) (hat : c.ins[at_]? = some x) (hop : x.op = 4) (hb0 : 0 ≤ x.b) (hb1 : x.b + x.makes.length ≤ 1000)
    (hli : ∀ y ∈ x.list, Ins1 c.globals.length x.b y) (hki : ∀ y ∈ x.keep, Ins1 c.globals.length x.b y) (hnx : ∃ j, c.ins[at_ + 1]? = some j ∧ j.b = x.list.length) (har : ∃ m : Nat, ∃ j, x.a = m ∧ c.ins[m]? = some j ∧ j.op = 5 ∧ j.b = x.keep.length + 1) :
    PFn Tryd.prog 26 [.agg #[v1, v2, v3, v4], i64v at_] F (fun v _ => v = i64v 0) := by
  have hc' := hc
  obtain ⟨p1, q1, rfl, l1, m1⟩ := hc.cons.val
  obtain ⟨p2, q2, rfl, l2, m2⟩ := hc.globals.val
  obtain ⟨p3, q3, rfl, l3, m3⟩ := hc.infos.val
  obtain ⟨p4, q4, rfl, l4, m4⟩ := hc.ins.val
  have hal := (List.getElem?_eq_some_iff.1 hat).1
  have ha0 : (0 : Int) ≤ (at_ : Int) := by omega
  have ha' : (at_ : Int) < (c.ins.length : Int) := by omega
  obtain ⟨qx, _, cx, eq, _, _, klx, hx⟩ := hc'.ins.elem (by decide) hat (fun _ _ h => h.len)
  cases eq
  have hx0 := hx
  obtain ⟨vl, vk, vm, va, rfl, hx1, hx2, hx3, hx4⟩ := hx
  have hl := hx1
  have hk := hx2
  obtain ⟨pl, cl, rfl, _, _, _⟩ := hx1
  obtain ⟨pk, ck, rfl, _, _, _⟩ := hx2
  obtain ⟨pm, cm, rfl, lm, mm⟩ := hx3.val
  obtain ⟨pa, ca, rfl, la, ma⟩ := hx4.val
  rw [hop] at hx0 klx
  have hb2 : ¬ 1000 < x.b := by omega
  have hb3 : ¬ x.b < 0 := by omega
  refine Fn.intro (n := 201) (ts := [4]) Tryd.func26 rfl rfl rfl rfl (by simp) fun B hB => VC.go 100 ?_
  obtain ⟨j, hj1, hj2⟩ := hnx
  obtain ⟨m, u, ha, hm1, hm2, hm3⟩ := har
  have hj := (List.getElem?_eq_some_iff.1 hj1).1
  have hm := (List.getElem?_eq_some_iff.1 hm1).1
  have hbj := (hK.ins _ _ hj1).2.1
  have hbu := (hK.ins _ _ hm1).2.1
  have e5 : IntKind.i64.wrap ((at_ : Int) + 1) = ((at_ + 1 : Nat) : Int) := wadd at_ (c := q4) (by omega) m4
  have e6 : IntKind.i64.wrap ((x.keep.length : Int) + 1) = (x.keep.length : Int) + 1 := w64 _ (by omega)
  simp only [push_cast, ↓reduceIte, Nat.reduceEqDiff, Nat.reduceAdd, Nat.reduceMul, Nat.reduceSub, Nat.reduceLT, Nat.reduceLeDiff, reduceCtorEq, Nat.reduceMod, Int.reduceEq, Int.reduceLT, Int.reduceLE, Int.reduceToNat, dite_true, ha0, ha', klx, hb2, hb3, ha]
  intro b2 b5
  refine CallV.pure (outside F c _ _ _ _ hc' x.b _ _ hl hli) ?_
  rintro _ F1 hF1 rfl
  simp only [push_cast, ↓reduceIte, Nat.reduceEqDiff, Nat.reduceAdd, Nat.reduceMul, Nat.reduceSub, Nat.reduceLT, Nat.reduceLeDiff, reduceCtorEq, Nat.reduceMod, Int.reduceEq, Int.reduceLT, Int.reduceLE, Int.reduceToNat, dite_true]
  refine CallV.pure (outside F1 c _ _ _ _ (code_mono hF1 hc') x.b _ _ (hk.mono hF1) hki) ?_
  rintro _ F2 hF2 rfl
  have hF02 := PH.le_trans hF1 hF2
  simp only [push_cast, ↓reduceIte, Nat.reduceEqDiff, Nat.reduceAdd, Nat.reduceMul, Nat.reduceSub, Nat.reduceLT, Nat.reduceLeDiff, reduceCtorEq, Nat.reduceMod, Int.reduceEq, Int.reduceLT, Int.reduceLE, Int.reduceToNat, dite_true, e5]
  refine CallV.pure (there F2 c _ _ _ _ (code_mono hF02 hc') (at_ + 1) hj) ?_
  rintro _ F3 hF3 rfl
  have hF03 := PH.le_trans hF02 hF3
  simp only [push_cast, ↓reduceIte, Nat.reduceEqDiff, Nat.reduceAdd, Nat.reduceMul, Nat.reduceSub, Nat.reduceLT, Nat.reduceLeDiff, reduceCtorEq, Nat.reduceMod, Int.reduceEq, Int.reduceLT, Int.reduceLE, Int.reduceToNat, dite_true]
  refine CallV.pure (there F3 c _ _ _ _ (code_mono hF03 hc') m hm) ?_
  rintro _ F4 hF4 rfl
  have hF04 := PH.le_trans hF03 hF4
  obtain ⟨qj, _, csj, eq, _, _, klj, krj⟩ := (hc'.ins.mono (R' := RIns F4) hF04 (fun _ _ _ h => h.mono hF04)).elem (by decide) hj1 (fun _ _ h => h.len)
  cases eq
  obtain ⟨wl, wk, wm, wa, rfl, _, _, _, _⟩ := krj
  have kj2 := cell_at klj (o := 2) rfl
  obtain ⟨qm, _, csm, eq, _, _, klm, krm⟩ := (hc'.ins.mono (R' := RIns F4) hF04 (fun _ _ _ h => h.mono hF04)).elem (by decide) hm1 (fun _ _ h => h.len)
  cases eq
  obtain ⟨ul, uk, um, ua, rfl, _, _, _, _⟩ := krm
  have km0 := cell_at klm (o := 0) rfl
  have km2 := cell_at klm (o := 2) rfl
  have h0 : (0 : Int) ≤ ((at_ + 1 : Nat) : Int) := by omega
  have h' : ((at_ + 1 : Nat) : Int) < (c.ins.length : Int) := by omega
  rw [Int.natCast_add, Int.natCast_one] at h0 h'
  have tn : ((at_ : Int) + 1).toNat = at_ + 1 := by omega
  have g0 : (0 : Int) ≤ (m : Int) := by omega
  have g' : (m : Int) < (c.ins.length : Int) := by omega
  simp only [push_cast, ↓reduceIte, Nat.reduceEqDiff, Nat.reduceAdd, Nat.reduceMul, Nat.reduceSub, Nat.reduceLT, Nat.reduceLeDiff, reduceCtorEq, Nat.reduceMod, Int.reduceEq, Int.reduceLT, Int.reduceLE, Int.reduceToNat, dite_true, g0, g', km0, hm2, ne_eq, not_true_eq_false, decide_false]
  refine VC.draw (.q 0 (.q 1 (.q 2 (.q 3 (.q 4 (.q 5 (.q 6 (.q 7 (.q 8 (.q 9 (.q 10 (.q 11 (.q 12 (.q 13 (.q 14 (.q 15 (.q 16 (.q 17 (.q 18 (.q 19 (.q 20 (.q 21 (.q 22 (.q 23 (.q 24 (.done)))))))))))))))))))))))))) mixed (by rfl) ?_
  simp only [push_cast, ↓reduceIte, Nat.reduceEqDiff, Nat.reduceAdd, Nat.reduceMul, Nat.reduceSub, Nat.reduceLT, Nat.reduceLeDiff, reduceCtorEq, Nat.reduceMod, Int.reduceEq, Int.reduceLT, Int.reduceLE, Int.reduceToNat, dite_true, e5, e6, h0, h', tn, kj2, hj2, g0, g', km2, hm3, ne_eq, not_true_eq_false, decide_false]
  refine VC.go 100 ?_
  simp only [push_cast, ↓reduceIte, Nat.reduceEqDiff, Nat.reduceAdd, Nat.reduceMul, Nat.reduceSub, Nat.reduceLT, Nat.reduceLeDiff, reduceCtorEq, Nat.reduceMod, Int.reduceEq, Int.reduceLT, Int.reduceLE, Int.reduceToNat, dite_true, ne_eq, not_true_eq_false, decide_false]
  exact RetOk.p rfl rfl
theorem insn12 (F : PH) (c : Cd) (v1 v2 v3 v4 : Value) (hc : RCode F c v1 v2 v3 v4) (hK : CodeOK c) (at_ : Nat) (x : Ins) (hat : c.ins[at_]? = some x) :
    PFn Tryd.prog 26 [.agg #[v1, v2, v3, v4], i64v at_] F (fun v _ => v = i64v 0) := by
  obtain ⟨hb0, hb1, h⟩ := hK.ins at_ x hat
  rcases h with ⟨hop, hne, hmk, hnx⟩ | ⟨hop, h8, hli, hia⟩ | ⟨hop, hia⟩ | ⟨hop, hli, hki, hnx, har⟩ | ⟨hop, hb4, hne, har⟩ | ⟨hop, ha1, ha16, hln, hli⟩
  · exact insnLet F c _ _ _ _ hc hK at_ x hat hop hb0 hb1 hne hmk hnx
  · exact insnCall F c _ _ _ _ hc hK at_ x hat hop hb0 hb1 h8 hli hia
  · exact insnRet F c _ _ _ _ hc hK at_ x hat hop hb0 hb1 hia
  · exact insnCase F c _ _ _ _ hc hK at_ x hat hop hb0 hb1 hli hki hnx har
  · exact insnArms F c _ _ _ _ hc hK at_ x hat hop hb0 hb1 hb4 hne har
  · exact insnPrim F c _ _ _ _ hc hK at_ x hat hop hb0 hb1 ha1 ha16 hln hli
end Go.Proofs.YtoepmdbicdoieaaDoor.Z
