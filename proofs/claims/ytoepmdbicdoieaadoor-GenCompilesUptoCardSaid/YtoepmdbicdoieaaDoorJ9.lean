/- The document's gen: a program's code. -/
import Derived.Test.YtoepmdbicdoieaaDoorJ8
namespace Go.Eng
open Go Go.RowKit
/-- A call to which three own blocks and some rows are lent; the first comes back as a block, the others as rows. -/
theorem CallV.own3 {P : Program} {S : St} {κ : St → Prop} {f : FuncId} {args : List Value} {d : Option Tmp} {m0 m1 m2 : Own} {M' : List Own} {Rc R1 Rf : List PH} {Q : Value → PH → List PH → Prop} {Q' : Value → PH → List Value → List PH → Prop} (hpm : S.M.Perm (m0 :: m1 :: m2 :: M')) (hp : S.R.Perm (R1 ++ Rf))
    (hR : (cell1 m2.b m2.t m2.cs :: cell1 m1.b m1.t m1.cs :: cell1 m0.b m0.t m0.cs :: R1).Perm Rc) (hc : Fn P f args S.F Rc Q)
    (hq : ∀ v F' R', S.F.le F' → Q v F' R' → ∃ cs' R'', R' = cell1 m0.b m0.t cs' :: R'' ∧ Q' v F' cs' R'')
    (next : ∀ v F' cs' R'', S.F.le F' → Q' v F' cs' R'' → κ ⟨setk S.L d (.v v), ⟨m0.i, m0.b, m0.t, cs'⟩ :: M', F', R'' ++ Rf, S.nx⟩) : CallV P false f args d κ S := by
  have s1 := Shift.toR (S := S) hpm [] 0
  have s2 := Shift.toR (S := ⟨[], m1 :: m2 :: M', S.F, cell1 m0.b m0.t m0.cs :: S.R, 0⟩) (.refl _) [] 0
  have s3 := Shift.toR (S := ⟨[], m2 :: M', S.F, cell1 m1.b m1.t m1.cs :: cell1 m0.b m0.t m0.cs :: S.R, 0⟩) (.refl _) [] 0
  refine ⟨_, ⟨[], M', S.F, cell1 m2.b m2.t m2.cs :: cell1 m1.b m1.t m1.cs :: cell1 m0.b m0.t m0.cs :: S.R, 0⟩, Rc, Rf, fun B w h => s3 B w (s2 B w (s1 B w h)), hc, (((hp.cons _).cons _).cons _).trans (List.Perm.append_right Rf hR), ?_⟩
  intro v F' R' hF q
  obtain ⟨cs', R'', rfl, q'⟩ := hq _ _ _ hF q
  exact ⟨_, rfl, Shift.fromR m0.i (.refl _) (.refl _) _ _, fun h => (nomatch h), next v F' cs' R'' hF q'⟩
end Go.Eng
namespace Go.Proofs.YtoepmdbicdoieaaDoor.J
open Go Go.Eng Go.Proofs Go.Proofs.YtoepmdbicdoieaaDoor.T Go.Proofs.YtoepmdbicdoieaaDoor.V Go.Proofs.YtoepmdbicdoieaaDoor.K Go.Proofs.YtoepmdbicdoieaaDoor.U
open Go.Proofs.YtoepmdbicdoieaaDoor.W (i64v ptr Ints RowE RMk RIns RInf RArm RNum RFrm src_one each_snoc Fits CompQ RCode Right nil_code begins_snoc begins_big begins_infos begins_forms waits_forms globs_snoc globs_len RNum.len RowE.set no_cell)
set_option linter.unusedSimpArgs false
set_option linter.unusedVariables false
set_option maxRecDepth 100000
set_option maxHeartbeats 4000000
theorem compile (ds : List Dat) (bs : List Bind) (F : PH) (vd vb : Value) (hd : Dats F vd ds) (hbs : SlE F 11 (RBind F) vb bs) (hT : P.Table F) (hs : sizeBs bs ≤ 4000000) (hdl : ds.length ≤ 10000000) (hR : (checkC ds bs).e = 0 → Right ds bs) :
    PFn Tryd.prog 8 [.agg #[vd, vb]] F (CompQ ds bs) := by
  have hd' := hd
  have hbs' := hbs
  obtain ⟨pd, cd, rfl, hd1, hd2⟩ := hd.val
  obtain ⟨pb, cb, rfl, hb1, hb2⟩ := hbs.val
  have hbl := V.sizeBs_count bs
  refine Fn.intro (n := 155) (ts := [.cell 2 31, 3, 4]) Tryd.func8 rfl rfl rfl rfl (by simp) fun B hB => ?_
  by_cases he : (checkC ds bs).e = 0
  case neg =>
    refine VC.go 100 ?_
    simp only [push_cast, ↓reduceIte, Nat.reduceEqDiff, Nat.reduceAdd, Nat.reduceMul, Nat.reduceSub, Nat.reduceLT, Nat.reduceLeDiff, reduceCtorEq, Nat.reduceMod, Int.reduceEq, Int.reduceLT, Int.reduceLE, Int.reduceToNat, dite_true]
    intro b1 b2
    refine CallV.pure (K.check ds bs F _ _ hd' hbs' (by omega)) ?_
    rintro _ F1 hF1 rfl
    simp only [push_cast, ↓reduceIte, Nat.reduceEqDiff, Nat.reduceAdd, Nat.reduceMul, Nat.reduceSub, Nat.reduceLT, Nat.reduceLeDiff, reduceCtorEq, Nat.reduceMod, Int.reduceEq, Int.reduceLT, Int.reduceLE, Int.reduceToNat, dite_true, he]
    exact ⟨[_, _, _], [], by simp only [push_cast, ↓reduceIte, Nat.reduceEqDiff, Nat.reduceAdd, Nat.reduceMul, Nat.reduceSub, Nat.reduceLT, Nat.reduceLeDiff, reduceCtorEq, Nat.reduceMod, Int.reduceEq, Int.reduceLT, Int.reduceLE, Int.reduceToNat, dite_true, rvals, rval1], .sub (List.nil_sublist _), rfl, ⟨[], [], [], []⟩, (checkC ds bs).at_, (checkC ds bs).e, _, _, _, _, rfl, nil_code _, by unfold Compiles; simp [he]⟩
  obtain ⟨hnd, hforms⟩ := hR he
  refine VC.emp (VC.emp (VC.emp (VC.emp (VC.emp (VC.emp (VC.go 11 ?_))))))
  simp only [push_cast, ↓reduceIte, Nat.reduceEqDiff, Nat.reduceAdd, Nat.reduceMul, Nat.reduceSub, Nat.reduceLT, Nat.reduceLeDiff, reduceCtorEq, Nat.reduceMod, Int.reduceEq, Int.reduceLT, Int.reduceLE, Int.reduceToNat, dite_true]
  intro b1 b2
  refine CallV.pure (K.check ds bs F _ _ hd' hbs' (by omega)) ?_
  rintro _ F1 hF1 rfl
  simp only [push_cast, ↓reduceIte, Nat.reduceEqDiff, Nat.reduceAdd, Nat.reduceMul, Nat.reduceSub, Nat.reduceLT, Nat.reduceLeDiff, reduceCtorEq, Nat.reduceMod, Int.reduceEq, Int.reduceLT, Int.reduceLE, Int.reduceToNat, dite_true, eq_true he]
  intro sb
  refine VC.renM [(7, .o 0 sb 0), (1, .o 1 b1 0), (2, .o 2 b2 0)] [⟨1, b1, 25, [.slice pd ds.length cd, .slice pb bs.length cb]⟩, ⟨2, b2, 31, [.slice none 0 0, .slice none 0 0, .slice none 0 0, .slice none 0 0]⟩, ⟨0, sb, schT, cellsD (.slice pd ds.length cd) (.slice pb bs.length cb) (.slice none 0 0) (.slice none 0 0) (.slice none 0 0) (.slice none 0 0) (.slice none 0 0) (.slice none 0 0) false⟩] 3 (by simp [subv, Eng.look, AV.val]) (by rfl) ?_
  refine VC.seq (VC.cutW (ι := PH × Value × PH) (fun _ => [(7, .o 0 sb 0), (1, .o 1 b1 0), (2, .o 2 b2 0)]) (fun j => [⟨1, b1, 25, [.slice pd ds.length cd, .slice pb bs.length cb]⟩, ⟨2, b2, 31, [.slice none 0 0, .slice none 0 0, .slice none 0 0, .slice none 0 0]⟩, ⟨0, sb, schT, cellsD (.slice pd ds.length cd) (.slice pb bs.length cb) j.2.1 (.slice none 0 0) (.slice none 0 0) (.slice none 0 0) (.slice none 0 0) (.slice none 0 0) false⟩]) (fun j => j.1) (fun j => [j.2.2, PH.emp, PH.emp, PH.emp, PH.emp, PH.emp])
    (fun j => F1.le j.1 ∧ RowE j.2.2 74 2 RNum j.2.1 (ds.map fun d => (d.name, d.arity))) (fun G hG => ?_) ?_)
  · refine VC.go 100 ?_
    simp only [push_cast, ↓reduceIte, Nat.reduceEqDiff, Nat.reduceAdd, Nat.reduceMul, Nat.reduceSub, Nat.reduceLT, Nat.reduceLeDiff, reduceCtorEq, Nat.reduceMod, Int.reduceEq, Int.reduceLT, Int.reduceLE, Int.reduceToNat, dite_true]
    refine VC.loopW (ι := Nat × PH × Value × PH) (fun j => [(8, .v (i64v j.1)), (7, .o 0 sb 0), (1, .o 1 b1 0), (2, .o 2 b2 0)]) (fun j => [⟨1, b1, 25, [.slice pd ds.length cd, .slice pb bs.length cb]⟩, ⟨2, b2, 31, [.slice none 0 0, .slice none 0 0, .slice none 0 0, .slice none 0 0]⟩, ⟨0, sb, schT, cellsD (.slice pd ds.length cd) (.slice pb bs.length cb) j.2.2.1 (.slice none 0 0) (.slice none 0 0) (.slice none 0 0) (.slice none 0 0) (.slice none 0 0) false⟩]) (fun j => j.2.1) (fun j => [j.2.2.2, PH.emp, PH.emp, PH.emp, PH.emp, PH.emp])
      (fun j => j.1 ≤ ds.length ∧ F1.le j.2.1 ∧ RowE j.2.2.2 74 2 RNum j.2.2.1 ((ds.take j.1).map fun d => (d.name, d.arity))) (fun j => ds.length - j.1) (0, F1, .slice none 0 0, PH.emp) ⟨Nat.zero_le _, PH.le_refl _, ⟨[], Row.nil _ _, rfl⟩⟩ (by simp [subk, Eng.look]) (List.Sublist.refl _) rfl (subR_refl _) ?_
    rintro ⟨k, G0, vk, rk⟩ ⟨hk, hG0, hrk⟩ G1 hG1
    dsimp only at hk hG0 hrk hG1 ⊢
    refine VC.go 100 ?_
    by_cases h : k < ds.length
    case neg =>
      have h' : ¬ (k : Int) < (ds.length : Int) := by omega
      simp only [push_cast, ↓reduceIte, Nat.reduceEqDiff, Nat.reduceAdd, Nat.reduceMul, Nat.reduceSub, Nat.reduceLT, Nat.reduceLeDiff, reduceCtorEq, Nat.reduceMod, Int.reduceEq, Int.reduceLT, Int.reduceLE, Int.reduceToNat, dite_true, h']
      rw [List.take_of_length_le (by omega)] at hrk
      exact hG (G0, vk, rk) _ ⟨hG0, hrk⟩ (by simp [subk, Eng.look]) (List.Sublist.refl _) rfl (subR_refl _)
    have h' : (k : Int) < (ds.length : Int) := by omega
    have h0 : (0 : Int) ≤ (k : Int) := by omega
    obtain ⟨q, _, cs, eq, _, _, kl, kr⟩ := hd'.elem (by decide) (i := k) (a := ds[k]) (List.getElem?_eq_getElem h) (fun _ _ h => h.len)
    cases eq
    obtain rfl := kr
    have e2 : IntKind.i64.wrap ((k : Int) + 1) = ((k + 1 : Nat) : Int) := wadd k h (Nat.le_trans hd1 hd2)
    have kl' := (PH.le_trans hF1 hG0).cells kl
    have k0 : G0.cell (q.add (k * 3)) = some (.string (ds[k]).name) := by have := cell_at kl' (o := 0) rfl; rw [add_add, Nat.add_zero] at this; exact this
    have k1 : G0.cell (q.add (k * 3 + 1)) = some (.int .i64 (ds[k]).arity) := by have := cell_at kl' (o := 1) rfl; rw [add_add] at this; exact this
    obtain ⟨xs, hrow, hes⟩ := hrk
    have hxs := hes.len (fun _ _ h => h.len)
    have htl : (List.map (fun d => (d.name, d.arity)) (List.take k ds)).length = k := by simp; omega
    rw [htl] at hxs
    simp only [push_cast, ↓reduceIte, Nat.reduceEqDiff, Nat.reduceAdd, Nat.reduceMul, Nat.reduceSub, Nat.reduceLT, Nat.reduceLeDiff, reduceCtorEq, Nat.reduceMod, Int.reduceEq, Int.reduceLT, Int.reduceLE, Int.reduceToNat, dite_true, h', h0]
    refine VC.draw (.q 0 (.q 1 (.q 2 (.q 3 (.q 4 (.q 5 (.q 6 (.q 7 (.q 8 (.q 9 (.q 10 (.q 11 (.q 12 (.q 13 (.q 14 (.q 15 (.q 16 (.q 17 (.e 18 (.e 19 (.e 20 (.q 21 (.q 22 (.q 23 (.es 24 [21, 22] (.done)))))))))))))))))))))))))) mixed (by rfl) ?_
    simp only [push_cast, ↓reduceIte, Nat.reduceEqDiff, Nat.reduceAdd, Nat.reduceMul, Nat.reduceSub, Nat.reduceLT, Nat.reduceLeDiff, reduceCtorEq, Nat.reduceMod, Int.reduceEq, Int.reduceLT, Int.reduceLE, Int.reduceToNat, dite_true, h', h0, k0, k1, add_add]
    intro b53 G2 hG2 hb53
    refine Eff.append rfl rfl rfl ty26 rfl ty74 rfl (by decide) rfl rfl (.refl _) hrow (src_one hb53 rfl) (by simp [Value.oneCell']) (by simp [hxs]; omega) (by decide) fun v2 r2 hr2 => ?_
    obtain ⟨p2, m2, c2, rfl, q1, q2, q3⟩ := hr2.len
    simp only [push_cast, ↓reduceIte, Nat.reduceEqDiff, Nat.reduceAdd, Nat.reduceMul, Nat.reduceSub, Nat.reduceLT, Nat.reduceLeDiff, reduceCtorEq, Nat.reduceMod, Int.reduceEq, Int.reduceLT, Int.reduceLE, Int.reduceToNat, dite_true]
    refine VC.go 100 ?_
    simp only [push_cast, ↓reduceIte, Nat.reduceEqDiff, Nat.reduceAdd, Nat.reduceMul, Nat.reduceSub, Nat.reduceLT, Nat.reduceLeDiff, reduceCtorEq, Nat.reduceMod, Int.reduceEq, Int.reduceLT, Int.reduceLE, Int.reduceToNat, dite_true, e2]
    have htk : ds.take (k + 1) = ds.take k ++ [ds[k]] := List.take_succ_eq_append_getElem h
    refine hG1 (k + 1, G2, _, r2) _ ⟨by omega, PH.le_trans hG0 hG2, ⟨_, hr2, ?_⟩⟩ (by simp; omega) (by simp [subk, Eng.look]) (List.Sublist.refl _) rfl (subR_refl _)
    dsimp only
    rw [htk, List.map_append]
    exact each_snoc hes rfl
  rintro ⟨G0, vc, rc⟩ ⟨hG0, hrc⟩
  dsimp only at hG0 hrc ⊢
  have hF0 : F.le G0 := PH.le_trans hF1 hG0
  refine VC.freezeR (.refl _) fun G2 hG2 hrcG => ?_
  dsimp only at hG2 hrcG
  obtain ⟨pc, cc, rfl, hvc1, hvc2⟩ := hrc.val (by decide) (fun _ _ h => h.len)
  have hF2 : F.le G2 := PH.le_trans hF0 hG2
  refine VC.seq (VC.cutW (ι := PH × Value × PH × Mem) (fun _ => [(7, .o 0 sb 0), (1, .o 1 b1 0), (2, .o 2 b2 0)]) (fun j => [⟨1, b1, 25, [.slice pd ds.length cd, .slice pb bs.length cb]⟩, ⟨2, b2, 31, [.slice none 0 0, .slice none 0 0, .slice none 0 0, .slice none 0 0]⟩, ⟨0, sb, schT, cellsM (.slice pd ds.length cd) (.slice pb bs.length cb) (.slice pc (ds.map fun d => (d.name, d.arity)).length cc) j.2.1 j.2.2.2 false⟩]) (fun j => j.1) (fun j => j.2.2.1 :: j.2.2.2.rows)
    (fun j => G2.le j.1 ∧ RowE j.2.2.1 43 2 RNum j.2.1 (globs bs 0) ∧ SchD j.1 (begins bs) j.2.2.2) (fun G hG => ?_) ?_)
  · refine VC.go 100 ?_
    simp only [push_cast, ↓reduceIte, Nat.reduceEqDiff, Nat.reduceAdd, Nat.reduceMul, Nat.reduceSub, Nat.reduceLT, Nat.reduceLeDiff, reduceCtorEq, Nat.reduceMod, Int.reduceEq, Int.reduceLT, Int.reduceLE, Int.reduceToNat, dite_true]
    refine VC.loopW (ι := Nat × PH × Value × PH × Mem) (fun j => [(9, .v (i64v j.1)), (7, .o 0 sb 0), (1, .o 1 b1 0), (2, .o 2 b2 0)]) (fun j => [⟨1, b1, 25, [.slice pd ds.length cd, .slice pb bs.length cb]⟩, ⟨2, b2, 31, [.slice none 0 0, .slice none 0 0, .slice none 0 0, .slice none 0 0]⟩, ⟨0, sb, schT, cellsM (.slice pd ds.length cd) (.slice pb bs.length cb) (.slice pc (ds.map fun d => (d.name, d.arity)).length cc) j.2.2.1 j.2.2.2.2 false⟩]) (fun j => j.2.1) (fun j => j.2.2.2.1 :: j.2.2.2.2.rows)
      (fun j => j.1 ≤ bs.length ∧ G2.le j.2.1 ∧ RowE j.2.2.2.1 43 2 RNum j.2.2.1 (globs (bs.take j.1) 0) ∧ SchD j.2.1 (begins (bs.take j.1)) j.2.2.2.2) (fun j => bs.length - j.1) (0, G2, .slice none 0 0, PH.emp, ⟨(.slice none 0 0), (.slice none 0 0), (.slice none 0 0), (.slice none 0 0), PH.emp, PH.emp, PH.emp, PH.emp⟩) ⟨Nat.zero_le _, PH.le_refl _, ⟨[], Row.nil _ _, rfl⟩, ⟨⟨[], Row.nil _ _, rfl⟩, ⟨[], Row.nil _ _, rfl⟩, ⟨[], Row.nil _ _, rfl⟩, ⟨[], Row.nil _ _, rfl⟩, rfl, rfl⟩⟩ (by simp [subk, Eng.look]) (List.Sublist.refl _) rfl (subR_refl _) ?_
    rintro ⟨k, G3, vg, rg, m⟩ ⟨hk, hG3, hrg, hS⟩ G4 hG4
    dsimp only at hk hG3 hrg hS hG4 ⊢
    refine VC.go 100 ?_
    by_cases h : k < bs.length
    case neg =>
      have h' : ¬ (k : Int) < (bs.length : Int) := by omega
      simp only [push_cast, ↓reduceIte, Nat.reduceEqDiff, Nat.reduceAdd, Nat.reduceMul, Nat.reduceSub, Nat.reduceLT, Nat.reduceLeDiff, reduceCtorEq, Nat.reduceMod, Int.reduceEq, Int.reduceLT, Int.reduceLE, Int.reduceToNat, dite_true, h']
      rw [List.take_of_length_le (by omega)] at hrg hS
      exact hG (G3, vg, rg, m) _ ⟨hG3, hrg, hS⟩ (by simp [subk, Eng.look]) (List.Sublist.refl _) rfl (subR_refl _)
    have h' : (k : Int) < (bs.length : Int) := by omega
    have h0 : (0 : Int) ≤ (k : Int) := by omega
    obtain ⟨q, _, cs, eq, _, _, kl, kr⟩ := (hbs'.mono (R' := RBind G3) (PH.le_trans hF2 hG3) (fun _ _ _ h => h.mono (PH.le_trans hF2 hG3))).elem (by decide) (i := k) (a := bs[k]) (List.getElem?_eq_getElem h) (fun _ _ h => h.len)
    cases eq
    obtain ⟨va2, c2, rfl, hva, hvc⟩ := RBind_iff.1 kr
    obtain ⟨wa, wb, we, wl, rfl, wx⟩ := RExp_iff.1 hvc
    have e2 : IntKind.i64.wrap ((k : Int) + 1) = ((k + 1 : Nat) : Int) := wadd k h (Nat.le_trans hb1 hb2)
    have k0 : G3.cell (q.add (k * 11)) = some (.string (bs[k]).name) := by have := cell_at kl (o := 0) rfl; rw [add_add, Nat.add_zero] at this; exact this
    have kf : G3.cells (q.add (k * 11 + 2)) 9 = some (va2 :: expCells (bs[k]).body wa wb we wl) := by have := cells_sub kl (o := 2) (m := 9) (by omega); rw [add_add] at this; exact this
    obtain ⟨xs, hrow, hes⟩ := hrg
    have hxs := hes.len (fun _ _ h => h.len)
    have htl : (globs (List.take k bs) 0).length = k := by rw [globs_len]; simp; omega
    rw [htl] at hxs
    obtain ⟨pg, mg, cg, rfl, _, _, _⟩ := hrow.len
    simp only [push_cast, ↓reduceIte, Nat.reduceEqDiff, Nat.reduceAdd, Nat.reduceMul, Nat.reduceSub, Nat.reduceLT, Nat.reduceLeDiff, reduceCtorEq, Nat.reduceMod, Int.reduceEq, Int.reduceLT, Int.reduceLE, Int.reduceToNat, dite_true, h', h0]
    refine VC.draw (.q 0 (.q 1 (.q 2 (.q 3 (.q 4 (.q 5 (.q 6 (.q 7 (.q 8 (.q 9 (.q 10 (.q 11 (.q 12 (.e 13 (.e 14 (.e 15 (.q 16 (.q 17 (.q 18 (.es 19 [16, 17] (.done))))))))))))))))))))) mixed (by rfl) ?_
    simp only [push_cast, ↓reduceIte, Nat.reduceEqDiff, Nat.reduceAdd, Nat.reduceMul, Nat.reduceSub, Nat.reduceLT, Nat.reduceLeDiff, reduceCtorEq, Nat.reduceMod, Int.reduceEq, Int.reduceLT, Int.reduceLE, Int.reduceToNat, dite_true, h', h0, k0, add_add]
    intro b84 G5 hG5 hb84
    refine Eff.append rfl rfl rfl ty27 rfl ty43 rfl (by decide) rfl rfl (.refl _) hrow (src_one hb84 rfl) (by simp [Value.oneCell']) (by simp [hxs]; omega) (by decide) fun v2 r2 hr2 => ?_
    obtain ⟨p2, m2, c2, rfl, q1, q2, q3⟩ := hr2.len
    simp only [push_cast, ↓reduceIte, Nat.reduceEqDiff, Nat.reduceAdd, Nat.reduceMul, Nat.reduceSub, Nat.reduceLT, Nat.reduceLeDiff, reduceCtorEq, Nat.reduceMod, Int.reduceEq, Int.reduceLT, Int.reduceLE, Int.reduceToNat, dite_true]
    refine VC.go 100 ?_
    simp only [push_cast, ↓reduceIte, Nat.reduceEqDiff, Nat.reduceAdd, Nat.reduceMul, Nat.reduceSub, Nat.reduceLT, Nat.reduceLeDiff, reduceCtorEq, Nat.reduceMod, Int.reduceEq, Int.reduceLT, Int.reduceLE, Int.reduceToNat, dite_true, h', h0, hG5.cells kf, add_add]
    refine callInfo (s := begins (bs.take k)) (m := m) (f := ((bs[k]).args, (bs[k]).body)) (need := []) (Re := [r2]) (begins_big _).symm rfl (List.perm_append_comm (l₁ := [r2])) rfl rfl rfl rfl (hS.mono hG5) ⟨_, _, rfl, hva.mono hG5, RExp_iff.2 ⟨_, _, _, _, rfl, wx.mono hG5⟩⟩ (nil_strs _) (by rw [begins_infos, List.length_take]; omega) fun G6 m' hG6 hS' => ?_
    simp only [push_cast, ↓reduceIte, Nat.reduceEqDiff, Nat.reduceAdd, Nat.reduceMul, Nat.reduceSub, Nat.reduceLT, Nat.reduceLeDiff, reduceCtorEq, Nat.reduceMod, Int.reduceEq, Int.reduceLT, Int.reduceLE, Int.reduceToNat, dite_true, e2]
    have htk : bs.take (k + 1) = bs.take k ++ [bs[k]] := List.take_succ_eq_append_getElem h
    have hbg : (infoS (begins (List.take k bs)) (bs[k].args, bs[k].body) []).big = false := by rw [← begins_snoc]; exact begins_big _
    rw [← begins_snoc, ← htk] at hS'
    rw [hbg]
    refine hG4 (k + 1, G6, _, r2, m') _ ⟨by omega, PH.le_trans hG3 (PH.le_trans hG5 hG6), ⟨_, hr2, ?_⟩, hS'⟩ (by simp; omega) (by simp [subk, Eng.look]) (List.Sublist.refl _) rfl (subR_perm (List.perm_append_comm (l₁ := m'.rows) (l₂ := [r2])))
    dsimp only
    rw [htk, globs_snoc, List.length_take, Nat.min_eq_left (Nat.le_of_lt h), Nat.zero_add]
    exact each_snoc hes rfl
  rintro ⟨G7, vg, rg, m⟩ ⟨hG7, hrg, hS⟩
  dsimp only at hG7 hrg hS ⊢
  refine VC.freezeR (.refl _) fun G9 hG9 hrgG => ?_
  dsimp only at hG9 hrgG
  obtain ⟨pg, cg, rfl, hvg1, hvg2⟩ := hrg.val (by decide) (fun _ _ h => h.len)
  have hF9 : F.le G9 := PH.le_trans hF2 (PH.le_trans hG7 hG9)
  have hC : CtxD G9 ds bs (.slice pd ds.length cd) (.slice pb bs.length cb) (.slice pc (ds.map fun d => (d.name, d.arity)).length cc) (.slice pg (globs bs 0).length cg) := ⟨hd'.mono' hF9, hbs'.mono hF9 fun _ _ _ h => h.mono hF9, ⟨by omega, by omega⟩, hT.mono hF9, rfl, rfl⟩
  obtain ⟨hbf1, hbf2, hbf3⟩ := begins_forms bs
  have hok0 : AllOk (env ds bs) (begins bs) := W.begins_ok hforms
  have hsm0 : Sm (sizeBs bs) (begins bs) := W.begins_sm bs
  refine VC.seq (VC.cutW (ι := PH × Sc × Mem) (fun _ => [(7, .o 0 sb 0), (1, .o 1 b1 0), (2, .o 2 b2 0)]) (fun j => [⟨1, b1, 25, [.slice pd ds.length cd, .slice pb bs.length cb]⟩, ⟨2, b2, 31, [.slice none 0 0, .slice none 0 0, .slice none 0 0, .slice none 0 0]⟩, ⟨0, sb, schT, cellsM (.slice pd ds.length cd) (.slice pb bs.length cb) (.slice pc (ds.map fun d => (d.name, d.arity)).length cc) (.slice pg (globs bs 0).length cg) j.2.2 j.2.1.big⟩]) (fun j => j.1) (fun j => j.2.2.rows)
    (fun j => G9.le j.1 ∧ SchD j.1 j.2.1 j.2.2 ∧ RunQ (env ds bs) 0 (begins bs) j.2.1) (fun G hG => ?_) ?_)
  · refine VC.go 4 ?_
    simp only [push_cast, ↓reduceIte, Nat.reduceEqDiff, Nat.reduceAdd, Nat.reduceMul, Nat.reduceSub, Nat.reduceLT, Nat.reduceLeDiff, reduceCtorEq, Nat.reduceMod, Int.reduceEq, Int.reduceLT, Int.reduceLE, Int.reduceToNat, dite_true]
    refine VC.loopW (ι := PH × Sc × Nat × Mem) (fun j => [(10, .v (i64v j.2.2.1)), (7, .o 0 sb 0), (1, .o 1 b1 0), (2, .o 2 b2 0)]) (fun j => [⟨1, b1, 25, [.slice pd ds.length cd, .slice pb bs.length cb]⟩, ⟨2, b2, 31, [.slice none 0 0, .slice none 0 0, .slice none 0 0, .slice none 0 0]⟩, ⟨0, sb, schT, cellsM (.slice pd ds.length cd) (.slice pb bs.length cb) (.slice pc (ds.map fun d => (d.name, d.arity)).length cc) (.slice pg (globs bs 0).length cg) j.2.2.2 j.2.1.big⟩]) (fun j => j.1) (fun j => j.2.2.2.rows)
      (fun j => G9.le j.1 ∧ SchD j.1 j.2.1 j.2.2.2 ∧ (∀ t, RunQ (env ds bs) j.2.2.1 j.2.1 t → RunQ (env ds bs) 0 (begins bs) t) ∧ AllOk (env ds bs) j.2.1 ∧ Sm (sizeBs bs) j.2.1 ∧ j.2.1.ins.length + 2 * waitsSize (j.2.1.forms.drop j.2.2.1) ≤ 2 * sizeBs bs ∧ j.2.1.infos.length + waitsSize (j.2.1.forms.drop j.2.2.1) ≤ sizeBs bs) (fun j => waitsSize (j.2.1.forms.drop j.2.2.1)) (G9, begins bs, 0, m) ⟨PH.le_refl _, hS.mono hG9, fun t h => h, hok0, hsm0, ?_, ?_⟩ (by simp [subk, Eng.look]) (by dsimp only; rw [begins_big]; exact List.Sublist.refl _) rfl (subR_refl _) ?_
    · have := waits_forms bs; dsimp only; rw [hbf3, hbf1]; simp; omega
    · have := waits_forms bs; dsimp only; rw [begins_infos, hbf1]; simp; omega
    rintro ⟨G3, s, i, ⟨vi, vn, vf, vw, ri, rn, rf, rw⟩⟩ ⟨hG3, hS, hrun, hok, hsm, hn1, hn2⟩ G4 hG4
    dsimp only at hG3 hS hrun hok hsm hn1 hn2 hG4 ⊢
    obtain ⟨pi, ci, rfl, hi1, hi2⟩ := hS.infos.val (by decide) (fun _ _ h => h.len)
    obtain ⟨pn, cn, rfl, hnn1, hnn2⟩ := hS.ins.val (by decide) (fun _ _ h => h.len)
    obtain ⟨pf, cf, rfl, hf1, hf2⟩ := hS.forms.val (by decide) (fun _ _ h => h.len)
    obtain ⟨pw, cw, rfl, hw1, hw2⟩ := hS.needs.val (by decide) (fun _ _ h => h.len)
    by_cases h : i < s.forms.length
    case neg =>
      have h' : ¬ (i : Int) < (s.infos.length : Int) := by have := hS.e1; omega
      refine VC.go 100 ?_
      simp only [push_cast, ↓reduceIte, Nat.reduceEqDiff, Nat.reduceAdd, Nat.reduceMul, Nat.reduceSub, Nat.reduceLT, Nat.reduceLeDiff, reduceCtorEq, Nat.reduceMod, Int.reduceEq, Int.reduceLT, Int.reduceLE, Int.reduceToNat, dite_true, h']
      exact hG (G3, s, ⟨_, _, _, _, ri, rn, rf, rw⟩) _ ⟨hG3, hS, hrun s (.stop fun hh => h hh.1)⟩ (by simp [subk, Eng.look]) (List.Sublist.refl _) rfl (subR_refl _)
    have hni : i < s.infos.length := by rw [← hS.e1]; exact h
    have hnd : i < s.needs.length := by rw [hS.e2]; exact hni
    have h' : (i : Int) < (s.infos.length : Int) := by omega
    have hlf : (i : Int) < (s.forms.length : Int) := by omega
    have hlw : (i : Int) < (s.needs.length : Int) := by omega
    have h0 : (0 : Int) ≤ (i : Int) := by omega
    by_cases hbig : s.big = true
    · refine VC.go 100 ?_
      simp only [push_cast, ↓reduceIte, Nat.reduceEqDiff, Nat.reduceAdd, Nat.reduceMul, Nat.reduceSub, Nat.reduceLT, Nat.reduceLeDiff, reduceCtorEq, Nat.reduceMod, Int.reduceEq, Int.reduceLT, Int.reduceLE, Int.reduceToNat, dite_true, h', hbig]
      exact hG (G3, s, ⟨_, _, _, _, ri, rn, rf, rw⟩) _ ⟨hG3, hS, hrun s (.stop fun hh => by simp [hbig] at hh)⟩ (by simp [subk, Eng.look]) (by dsimp only; rw [hbig]; exact List.Sublist.refl _) rfl (subR_refl _)
    have hbig : s.big = false := by simpa using hbig
    have e2 : IntKind.i64.wrap ((i : Int) + 1) = ((i + 1 : Nat) : Int) := wadd i hni (Nat.le_trans hi1 hi2)
    have hok' : okX (env ds bs) ((s.forms[i]).1 ++ s.needs[i]) (s.forms[i]).2 := hok.2 (s.forms[i], s.needs[i]) (by
      rw [List.mem_iff_getElem]
      exact ⟨i, by rw [List.length_zip]; omega, by rw [List.getElem_zip]⟩)
    have hwd : waitsSize (s.forms.drop i) = (s.forms[i]).2.size + waitsSize (s.forms.drop (i + 1)) := by
      rw [List.drop_eq_getElem_cons h]; unfold waitsSize; rw [List.map_cons, List.sum_cons]
    have hf1' := hsm.1 s.forms[i] (List.getElem_mem h)
    have hf2' := hsm.2 s.needs[i] (List.getElem_mem hnd)
    rw [hbig]
    refine VC.go 7 ?_
    simp only [push_cast, ↓reduceIte, Nat.reduceEqDiff, Nat.reduceAdd, Nat.reduceMul, Nat.reduceSub, Nat.reduceLT, Nat.reduceLeDiff, reduceCtorEq, Nat.reduceMod, Int.reduceEq, Int.reduceLT, Int.reduceLE, Int.reduceToNat, dite_true, h']
    obtain ⟨xi, hri, hei⟩ := hS.infos
    have hxi := hei.len (fun _ _ h => h.len)
    obtain ⟨pi', mi, ci', ei, m1, m2, m3⟩ := hri.has (by intro h0; rw [h0, List.length_nil] at hxi; omega)
    cases ei
    refine VC.rowM (i := 7) (Rf := [rn, rf, rw]) (.refl _) hri fun g csg hpg hcl hmc hcm hct => ?_
    subst hpg
    have hlt : i * 4 + 3 < csg.length := by rw [hcl]; omega
    refine VC.seq (VC.draw (.q 0 (.q 1 (.q 2 (.q 3 (.q 4 (.q 5 (.q 6 (.q 7 (.q 8 (.q 9 (.q 10 (.q 11 (.q 12 (.q 13 (.es 14 [12] (.done)))))))))))))))) mixed (by rfl) ?_)
    simp only [push_cast, ↓reduceIte, Nat.reduceEqDiff, Nat.reduceAdd, Nat.reduceMul, Nat.reduceSub, Nat.reduceLT, Nat.reduceLeDiff, reduceCtorEq, Nat.reduceMod, Int.reduceEq, Int.reduceLT, Int.reduceLE, Int.reduceToNat, dite_true, h', h0, add_own, Nat.zero_add, hlt]
    refine VC.toR (m := ⟨7, g, 41, csg.set (i * 4 + 3) (i64v s.ins.length)⟩) (.refl _) [(10, .v (i64v i)), (7, .o 0 sb 0), (1, .o 1 b1 0), (2, .o 2 b2 0)] (by simp [subv, Eng.look, AV.val]) ?_
    have hS1 : SchD G3 (setTo s i s.ins.length) ⟨.slice (some ⟨g, 0, none⟩) s.infos.length ci, .slice pn s.ins.length cn, .slice pf s.forms.length cf, .slice pw s.needs.length cw, cell1 g 41 (csg.set (i * 4 + 3) (i64v s.ins.length)), rn, rf, rw⟩ := by
      refine ⟨?_, hS.ins, hS.forms, hS.needs, by simp [setTo, hS.e1], by simp [setTo, hS.e2]⟩
      exact RowE.set (by decide) (fun _ _ h => h.len) (by decide) (fun x c hc => by unfold RInf at hc; subst hc; rfl) hni hcl hmc hcm (by rw [hct]; exact hei) rfl
    obtain ⟨xf, hrf, hef⟩ := hS.forms
    have hxf := hef.len (fun _ _ h => h.len)
    obtain ⟨pf', mf, cf', ef, _, _, _⟩ := hrf.has (by intro h0; rw [h0, List.length_nil] at hxf; omega)
    cases ef
    obtain ⟨xw, hrw, hew⟩ := hS.needs
    have hxw := hew.len (fun _ _ h => h.len)
    obtain ⟨pw', mw, cw', ew, _, _, _⟩ := hrw.has (by intro h0; rw [h0, List.length_nil] at hxw; omega)
    cases ew
    have hfi := hef.at (fun _ _ h => h.len) (List.getElem?_eq_getElem h)
    have hwi := hew.at (fun _ _ h => h.len) (List.getElem?_eq_getElem hnd)
    refine VC.rowM (i := 8) (Rf := [cell1 g 41 (csg.set (i * 4 + 3) (i64v s.ins.length)), rn, rw]) ((List.Perm.cons _ (.swap _ _ _)).trans (.swap _ _ _)) hrf fun gf csf hpf hclf hmcf hcmf hctf => ?_
    subst hpf
    refine VC.rowM (i := 9) (Rf := [cell1 g 41 (csg.set (i * 4 + 3) (i64v s.ins.length)), rn]) ((List.Perm.cons _ (.swap _ _ _)).trans (.swap _ _ _)) hrw fun gw csw hpw hclw hmcw hcmw hctw => ?_
    subst hpw
    refine VC.fnone (m := ⟨9, gw, _, _⟩) List.mem_cons_self fun hgw => ?_
    refine VC.fnone (m := ⟨8, gf, _, _⟩) (.tail _ List.mem_cons_self) fun hgf => ?_
    refine W.VC.mne rfl fun hne => ?_
    dsimp only at hne hgw hgf
    have hnow := no_cell hgw
    have hnof := no_cell hgf
    have hnofc : ∀ o m, 0 < m → G3.cells ⟨gf, o, none⟩ m = none := fun o m hm => cells_none hgf hm
    have hltf : i * 9 + 1 + 8 ≤ csf.length := by rw [hclf]; omega
    have hltw : i * 1 < csw.length := by rw [hclw]; omega
    obtain ⟨fv, fc, efc, hfv, hfx⟩ := hfi
    obtain ⟨dv, edc, hdv⟩ := hwi
    have hdf : (csf.drop (i * 9)).take 9 = fv :: fc := by rw [← efc, ← hctf, List.drop_take, List.take_take, Nat.min_eq_left (by omega)]
    have hdw : csw[i * 1]? = some dv := by
      have h1 : ((csw.drop (i * 1)).take 1) = [dv] := by rw [← edc, ← hctw, List.drop_take, List.take_take, Nat.min_eq_left (by omega)]
      have h2 := congrArg (fun l => l[0]?) h1
      simpa [List.getElem?_take, List.getElem?_drop] using h2
    have hfv0 : csf[i * 9]? = some fv := by
      have h2 := congrArg (fun l => l[0]?) hdf
      simpa [List.getElem?_take, List.getElem?_drop] using h2
    have hfx1 : (csf.drop (i * 9 + 1)).take 8 = fc := by
      have h2 := congrArg (List.drop 1) hdf
      simpa [List.drop_take, List.drop_drop] using h2
    refine VC.draw (.q 0 (.q 1 (.q 2 (.q 3 (.q 4 (.q 5 (.q 6 (.q 7 (.q 8 (.q 9 (.q 10 (.q 11 (.q 12 (.q 13 (.q 14 (.q 15 (.q 16 (.q 17 (.q 18 (.q 19 (.q 20 (.q 21 (.q 22 (.q 23 (.e 24 (.es 25 [] (.done))))))))))))))))))))))))))) mixed (by rfl) ?_
    have hdw' : csw[i]? = some dv := by rw [Nat.mul_one] at hdw; exact hdw
    simp only [push_cast, ↓reduceIte, Nat.reduceEqDiff, Nat.reduceAdd, Nat.reduceMul, Nat.reduceSub, Nat.reduceLT, Nat.reduceLeDiff, reduceCtorEq, Nat.reduceMod, Int.reduceEq, Int.reduceLT, Int.reduceLE, Int.reduceToNat, dite_true, hlf, hlw, h0, hnow, hnof, hnofc, add_own, Nat.zero_add, hne, hltf, hltw, hdw', hfv0, hfx1]
    refine callStrs (withF G3 fv dv (s.forms[i]).1 (s.needs[i]) hfv hdv (by omega)) fun v24 H1 hH1 hv24 => ?_
    simp only [push_cast, ↓reduceIte, Nat.reduceEqDiff, Nat.reduceAdd, Nat.reduceMul, Nat.reduceSub, Nat.reduceLT, Nat.reduceLeDiff, reduceCtorEq, Nat.reduceMod, Int.reduceEq, Int.reduceLT, Int.reduceLE, Int.reduceToNat, dite_true]
    obtain ⟨xa, xb, xe, xl, rfl, wx⟩ := RExp_iff.1 hfx
    have hS2 : SchD H1 (setTo s i s.ins.length) ⟨.slice (some ⟨g, 0, none⟩) s.infos.length ci, .slice pn s.ins.length cn, .slice (some ⟨gf, 0, none⟩) s.forms.length cf, .slice (some ⟨gw, 0, none⟩) s.needs.length cw, cell1 g 41 (csg.set (i * 4 + 3) (i64v s.ins.length)), rn, cell1 gf 51 csf, cell1 gw 44 csw⟩ := by
      have h := hS1.mono hH1
      exact ⟨h.infos, h.ins, ⟨_, Row.back hclf hmcf hcmf, by rw [hctf]; exact hef.mono fun _ _ _ h => h.mono hH1⟩, ⟨_, Row.back hclw hmcw hcmw, by rw [hctw]; exact hew.mono fun _ _ _ h => h.mono hH1⟩, h.e1, h.e2⟩
    have hs3 : (setTo s i s.ins.length).infos.length = s.infos.length := by simp [setTo]
    have hs2 : (setTo s i s.ins.length).ins = s.ins := rfl
    have hcall := exp_all ds bs _ (s.forms[i]).2 rfl H1 sb (.slice pd ds.length cd) (.slice pb bs.length cb) (.slice pc (ds.map fun d => (d.name, d.arity)).length cc) (.slice pg (globs bs 0).length cg) ⟨.slice (some ⟨g, 0, none⟩) s.infos.length ci, .slice pn s.ins.length cn, .slice (some ⟨gf, 0, none⟩) s.forms.length cf, .slice (some ⟨gw, 0, none⟩) s.needs.length cw, cell1 g 41 (csg.set (i * 4 + 3) (i64v s.ins.length)), rn, cell1 gf 51 csf, cell1 gw 44 csw⟩ (setTo s i s.ins.length) ((s.forms[i]).1 ++ s.needs[i]) v24 xa xb xe xl (wx.mono hH1) hv24 hok' (hC.mono (PH.le_trans hG3 hH1)) hS2 ⟨by rw [hs2]; omega, by rw [hs3]; omega, by rw [List.length_append]; omega, by omega⟩
    have hbg : (setTo s i s.ins.length).big = false := hbig
    unfold SchFnD at hcall
    rw [hbg] at hcall
    refine CallV.own3 (m0 := ⟨0, sb, schT, cellsM (.slice pd ds.length cd) (.slice pb bs.length cb) (.slice pc (ds.map fun d => (d.name, d.arity)).length cc) (.slice pg (globs bs 0).length cg) ⟨.slice (some ⟨g, 0, none⟩) s.infos.length ci, .slice pn s.ins.length cn, .slice (some ⟨gf, 0, none⟩) s.forms.length cf, .slice (some ⟨gw, 0, none⟩) s.needs.length cw, cell1 g 41 (csg.set (i * 4 + 3) (i64v s.ins.length)), rn, cell1 gf 51 csf, cell1 gw 44 csw⟩ false⟩) (m1 := ⟨8, gf, 51, csf⟩) (m2 := ⟨9, gw, 44, csw⟩) (M' := [⟨1, b1, 25, [.slice pd ds.length cd, .slice pb bs.length cb]⟩, ⟨2, b2, 31, [.slice none 0 0, .slice none 0 0, .slice none 0 0, .slice none 0 0]⟩]) (R1 := [cell1 g 41 (csg.set (i * 4 + 3) (i64v s.ins.length)), rn]) (Rf := []) (Q' := fun v F' cs' R'' => ∃ m' : Mem, cs' = cellsM (.slice pd ds.length cd) (.slice pb bs.length cb) (.slice pc (ds.map fun d => (d.name, d.arity)).length cc) (.slice pg (globs bs 0).length cg) m' (stepQ (env ds bs) i (s.forms[i]) (s.needs[i]) s).big ∧ R'' = m'.rows ∧ SchD F' (stepQ (env ds bs) i (s.forms[i]) (s.needs[i]) s) m') ((List.perm_append_comm (l₁ := [_, _, _, _]) (l₂ := [_])).trans (.cons _ (.swap _ _ _))) (by rw [List.append_nil]) ((List.perm_append_comm (l₁ := [_, _]) (l₂ := [_, _, _])).trans (.cons _ (.cons _ (.cons _ (.swap _ _ _))))) hcall ?_ ?_
    · rintro v F' R' _ ⟨m', rfl, k1, k2⟩
      exact ⟨_, _, rfl, m', rfl, rfl, k1⟩
    rintro v H2 cs' R'' hH2 ⟨m', rfl, rfl, hS'⟩
    dsimp only at hH2
    simp only [push_cast, ↓reduceIte, Nat.reduceEqDiff, Nat.reduceAdd, Nat.reduceMul, Nat.reduceSub, Nat.reduceLT, Nat.reduceLeDiff, reduceCtorEq, Nat.reduceMod, Int.reduceEq, Int.reduceLT, Int.reduceLE, Int.reduceToNat, dite_true]
    refine VC.permM (M := [⟨1, b1, 25, [.slice pd ds.length cd, .slice pb bs.length cb]⟩, ⟨2, b2, 31, [.slice none 0 0, .slice none 0 0, .slice none 0 0, .slice none 0 0]⟩, ⟨0, sb, schT, cellsM (.slice pd ds.length cd) (.slice pb bs.length cb) (.slice pc (ds.map fun d => (d.name, d.arity)).length cc) (.slice pg (globs bs 0).length cg) m' (stepQ (env ds bs) i (s.forms[i]) (s.needs[i]) s).big⟩]) ?_ ?_
    · exact List.perm_append_comm (l₁ := [_]) (l₂ := [_, _])
    obtain ⟨fs, u1, u2⟩ := (layE_on (env ds bs) (s.forms[i]).2 ((s.forms[i]).1 ++ s.needs[i]) (setTo s i s.ins.length)).forms
    obtain ⟨fs', u3, u4, u5⟩ := layE_sum (env ds bs) (s.forms[i]).2 ((s.forms[i]).1 ++ s.needs[i]) (setTo s i s.ins.length)
    obtain rfl : fs = fs' := List.append_cancel_left (u1.symm.trans u3)
    have hs1 : (setTo s i s.ins.length).forms = s.forms := rfl
    rw [hs1] at u1
    rw [hs2] at u4
    rw [hs3] at u5
    have hdr : waitsSize ((stepQ (env ds bs) i (s.forms[i]) (s.needs[i]) s).forms.drop (i + 1)) = waitsSize (s.forms.drop (i + 1)) + waitsSize fs := by
      show waitsSize ((layE (env ds bs) (s.forms[i]).2 ((s.forms[i]).1 ++ s.needs[i]) (setTo s i s.ins.length)).forms.drop (i + 1)) = _
      rw [u1, List.drop_append_of_le_length (by omega), waitsSize_append]
    have hpos : 1 ≤ (s.forms[i]).2.size := by have := V.size_eq (s.forms[i]).2; omega
    refine VC.go 100 ?_
    simp only [push_cast, ↓reduceIte, Nat.reduceEqDiff, Nat.reduceAdd, Nat.reduceMul, Nat.reduceSub, Nat.reduceLT, Nat.reduceLeDiff, reduceCtorEq, Nat.reduceMod, Int.reduceEq, Int.reduceLT, Int.reduceLE, Int.reduceToNat, dite_true, e2]
    refine hG4 (H2, (stepQ (env ds bs) i (s.forms[i]) (s.needs[i]) s), i + 1, m') _ ⟨PH.le_trans hG3 (PH.le_trans hH1 hH2), hS', fun t ht => hrun t (.step (s.forms[i]) (s.needs[i]) hbig (List.getElem?_eq_getElem h) (List.getElem?_eq_getElem hnd) ht), layE_ok _ _ _ _ hok' (hok.congr rfl rfl), layE_sm _ _ _ _ _ (by omega) (hsm.congr rfl rfl), ?_, ?_⟩ ?_ (by simp [subk, Eng.look]) (List.Sublist.refl _) rfl (subR_refl _)
    · dsimp only
      rw [hdr]
      show (layE (env ds bs) (s.forms[i]).2 ((s.forms[i]).1 ++ s.needs[i]) (setTo s i s.ins.length)).ins.length + _ ≤ _
      omega
    · dsimp only
      rw [hdr]
      show (layE (env ds bs) (s.forms[i]).2 ((s.forms[i]).1 ++ s.needs[i]) (setTo s i s.ins.length)).infos.length + _ ≤ _
      omega
    · dsimp only
      rw [hdr]
      omega
  rintro ⟨G3, s, ⟨vi, vn, vf, vw, ri, rn, rf, rw⟩⟩ ⟨hG3, hS, hrun⟩
  dsimp only at hG3 hS hrun ⊢
  refine VC.freezeR (.refl _) fun H1 hH1 hriH => ?_
  refine VC.freezeR (.refl _) fun H2 hH2 hrnH => ?_
  dsimp only at hH1 hriH hH2 hrnH
  obtain ⟨pi, ci, rfl, _, _⟩ := hS.infos.val (by decide) (fun _ _ h => h.len)
  obtain ⟨pn, cn, rfl, _, _⟩ := hS.ins.val (by decide) (fun _ _ h => h.len)
  obtain ⟨pf, cf, rfl, _, _⟩ := hS.forms.val (by decide) (fun _ _ h => h.len)
  obtain ⟨pw, cw, rfl, _, _⟩ := hS.needs.val (by decide) (fun _ _ h => h.len)
  have hcomp : ∀ {c : Cd} {e : Int}, (if s.big = true then c = ⟨[], [], [], []⟩ ∧ e = 3 else c = codeOf ds bs s ∧ e = 0) → Compiles ds bs c 0 e := fun h => by
    unfold Compiles
    rw [if_pos he]
    exact ⟨s, hrun, rfl, h⟩
  have h9 : G9.le H2 := PH.le_trans hG3 (PH.le_trans hH1 hH2)
  refine VC.go 100 ?_
  cases hbig : s.big with
  | true =>
    simp only [push_cast, ↓reduceIte, Nat.reduceEqDiff, Nat.reduceAdd, Nat.reduceMul, Nat.reduceSub, Nat.reduceLT, Nat.reduceLeDiff, reduceCtorEq, Nat.reduceMod, Int.reduceEq, Int.reduceLT, Int.reduceLE, Int.reduceToNat, dite_true]
    exact ⟨[_, _, _], [], by simp only [push_cast, ↓reduceIte, Nat.reduceEqDiff, Nat.reduceAdd, Nat.reduceMul, Nat.reduceSub, Nat.reduceLT, Nat.reduceLeDiff, reduceCtorEq, Nat.reduceMod, Int.reduceEq, Int.reduceLT, Int.reduceLE, Int.reduceToNat, dite_true, rvals, rval1], .sub (List.nil_sublist _), rfl, ⟨[], [], [], []⟩, 0, 3, _, _, _, _, rfl, nil_code _, hcomp (by rw [if_pos hbig]; exact ⟨rfl, rfl⟩)⟩
  | false =>
    simp only [push_cast, ↓reduceIte, Nat.reduceEqDiff, Nat.reduceAdd, Nat.reduceMul, Nat.reduceSub, Nat.reduceLT, Nat.reduceLeDiff, reduceCtorEq, Nat.reduceMod, Int.reduceEq, Int.reduceLT, Int.reduceLE, Int.reduceToNat, dite_true]
    refine ⟨[_, _, _], [], by simp only [push_cast, ↓reduceIte, Nat.reduceEqDiff, Nat.reduceAdd, Nat.reduceMul, Nat.reduceSub, Nat.reduceLT, Nat.reduceLeDiff, reduceCtorEq, Nat.reduceMod, Int.reduceEq, Int.reduceLT, Int.reduceLE, Int.reduceToNat, dite_true, rvals, rval1]; rfl, .sub (List.nil_sublist _), rfl, codeOf ds bs s, 0, 0, _, _, _, _, rfl, ⟨?_, ?_, ?_, ?_⟩, hcomp (by rw [if_neg (by rw [hbig]; decide)]; exact ⟨rfl, rfl⟩)⟩
    · exact (hrc.sle (by decide) (fun _ _ h => h.len) hrcG).mono (PH.le_trans (PH.le_trans hG7 hG9) h9) fun _ _ _ h => h
    · exact (hrg.sle (by decide) (fun _ _ h => h.len) hrgG).mono h9 fun _ _ _ h => h
    · exact (hS.infos.sle (by decide) (fun _ _ h => h.len) hriH).mono hH2 fun _ _ _ h => h
    · exact SlE.mono (hS.ins.sle (by decide) (fun _ _ h => h.len) hrnH) (PH.le_refl _) fun _ _ _ h => h.mono (PH.le_trans hH1 hH2)
end Go.Proofs.YtoepmdbicdoieaaDoor.J
