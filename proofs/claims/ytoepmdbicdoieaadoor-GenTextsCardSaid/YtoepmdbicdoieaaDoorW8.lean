/- gen: a group is laid. -/
import Derived.Test.YtoepmdbicdoieaaDoorW7
namespace Go.Proofs.YtoepmdbicdoieaaDoor.W
open Go Go.Eng Go.Proofs Go.Proofs.YtoepmdbicdoieaaDoor.T Go.Proofs.YtoepmdbicdoieaaDoor.K Go.Proofs.YtoepmdbicdoieaaDoor.U
open Go.Proofs.YtoepmdbicdoieaaDoor.V (within within_all within_len WithinOk classOf fieldOf)
set_option linter.unusedSimpArgs false
set_option linter.unusedVariables false
set_option maxRecDepth 100000
set_option maxHeartbeats 4000000
theorem preM_append (a b : List Bind) : preM (a ++ b) = preM a ++ preM b := by
  induction a with
  | nil => rfl
  | cons x a ih => simp only [List.cons_append, preM, ih]; split <;> simp
theorem preM_len (a : List Bind) : (preM a).length ≤ sizeBs a := by
  induction a with
  | nil => simp [preM]
  | cons x a ih =>
    have h1 := nums_len x.body.atoms
    have h2 := sizeA_len' x.body
    have h3 := V.bsize_eq x
    have h4 : sizeBs (x :: a) = x.size + sizeBs a := by simp [sizeBs]
    simp only [preM]
    split <;> simp <;> omega
theorem preM_len2 (a : List Bind) : (preM a).length + 2 * a.length ≤ sizeBs a := by
  induction a with
  | nil => simp [preM]
  | cons x a ih =>
    have h1 := nums_len x.body.atoms
    have h2 := V.sizeA_len x.body.atoms
    have h5 := V.size_eq x.body
    have h3 := V.bsize_eq x
    have h4 : sizeBs (x :: a) = x.size + sizeBs a := by simp [sizeBs]
    simp only [preM, List.length_cons]
    split <;> simp <;> omega
theorem foldM_frm (C : Env) (inn : List ByteArray) : ∀ (bs : List Bind) (t : Grp), (bs.foldl (stepM C inn) t).frm = t.frm + (preM bs).length ∧ (bs.foldl (stepM C inn) t).makes.length = t.makes.length + bs.length
  | [], t => by simp [preM]
  | b :: bs, t => by
    obtain ⟨h1, h2⟩ := foldM_frm C inn bs (stepM C inn t b)
    rw [List.foldl_cons, h1, h2]
    unfold stepM
    simp only [preM]
    split
    · simp; omega
    · split
      · simp; omega
      · split <;> simp <;> omega
theorem callNumsF {S : St} {κ : St → Prop} {d : Option Tmp} {st : Bool} {lv : Value} {ats : List (ByteArray × Int)} (hn : Sl S.F 2 lv ats.length (atomVals ats)) (hb : ats.length ≤ 100000000)
    (next : ∀ r F', S.F.le F' → SlE F' 4 (RMk F') r (nums ats) → κ ⟨setk S.L d (.v r), S.M, F', S.R, S.nx⟩) : CallV Tryd.prog st 82 [lv] d κ S :=
  CallV.pure (Q := fun r F' => SlE F' 4 (RMk F') r (nums ats)) (Eng.Fn.frozen (numbers S.F lv ats hn hb) fun v F' R' ⟨r', e, h1⟩ => ⟨r', [], by rw [e], fun F'' k1 k2 => ⟨rfl, (h1.mono fun _ _ _ h => h.mono k1).sle (by decide) (fun _ _ h => h.len) k2⟩⟩) next
theorem each_one {α : Type} {R : α → List Value → Prop} (hR : ∀ a c, R a c → ∀ u ∈ c, u.oneCell' = true) : ∀ {l : List α} {xs : List Value}, Each R l xs → ∀ u ∈ xs, u.oneCell' = true
  | [], _, h, u, hu => by simp only [Each] at h; subst h; cases hu
  | a :: l, _, ⟨c, ys, rfl, h1, h2⟩, u, hu => by
    rcases List.mem_append.1 hu with hu | hu
    · exact hR a c h1 u hu
    · exact each_one hR h2 u hu
theorem RMk.ones {F : PH} {m : Mk} {c : List Value} (h : RMk F m c) : ∀ u ∈ c, u.oneCell' = true := by
  obtain ⟨v, rfl, p, n, rfl, _⟩ := h
  simp [Value.oneCell']
theorem okB_eq (C : Env) (inn : List ByteArray) (b : Bind) : okB C inn b = ((classOf b.args b.body = 1 → KnownA C inn b.body.atoms) ∧ (classOf b.args b.body = 7 → Known C inn (fieldOf b.args b.body).2.2.1) ∧ okX C (b.args ++ here inn (freeB b)) b.body) := by cases b; simp only [okB]; rfl
theorem here_known {C : Env} {l names : List ByteArray} (h : ∀ s ∈ names, ¬ s = ⟨#[]⟩) : ∀ s ∈ here l names, Known C l s := fun s hs => by
  obtain ⟨h1, h2⟩ := List.mem_filter.1 hs
  exact ⟨h s h1, .inl ((findL_has l s).1 (by simpa using h2))⟩
theorem let_ok (C : Env) (e : Exp) (h5 : e.kind = 5) (hE : ∀ e' : Exp, e'.size < e.size → GenE C e') : GenX 86 layLet C e := by
  intro F sb i vc vg mc mt vi vn vq ri rn rq s l v va vb ve vl hX hp hC hS hok hfit
  rw [okX_eq] at hok
  obtain ⟨hkids, okb, okk⟩ := hok.2.2.2.1 h5
  obtain ⟨fi1, fi2, fi3, fi4⟩ := hfit
  have hX' := hX
  obtain ⟨pa, ca, pb, cb, pe, ce, pl, cl, rfl, rfl, rfl, rfl⟩ := hX.slices
  obtain ⟨mb, rfl⟩ := hp.val
  have hse := V.size_eq e
  have hbc := V.sizeBs_count e.binds
  obtain ⟨_, _, hv1, hv2, hv3⟩ := hX.binds.val
  cases hv1
  unfold SchFn
  refine SFn.intro (n := 165) (ts := []) Tryd.func86 rfl rfl rfl rfl (by simp) fun B hB => VC.emp (VC.emp (VC.go 6 ?_))
  simp only [push_cast, ↓reduceIte, Nat.reduceEqDiff, Nat.reduceAdd, Nat.reduceMul, Nat.reduceSub, Nat.reduceLT, Nat.reduceLeDiff, reduceCtorEq, Nat.reduceMod, Int.reduceEq, Int.reduceLT, Int.reduceLE, Int.reduceToNat, dite_true]
  intro b
  refine VC.seq (VC.cutW (ι := PH × Value × Value × PH × PH) (fun j => [(9, .v j.2.2.1), (8, .v j.2.1), (5, .o 1 b 0), (0, .o 0 sb 0), (2, .v (.map (some mb))), (3, .v (i64v l.length))]) (fun j => [⟨0, sb, 70, schC vc vg vi vn mc mt vq s.big⟩, ⟨1, b, 49, expCells e (.slice pa e.atoms.length ca) (.slice pb e.binds.length cb) (.slice pe e.kids.length ce) (.slice pl e.alts.length cl)⟩]) (fun j => j.1) (fun j => [j.2.2.2.1, ri, rn, rq])
    (fun j => F.le j.1 ∧ RowE j.2.2.2.1 85 4 (RMk j.1) j.2.1 (preM e.binds) ∧ Strs j.1 j.2.2.1 (e.binds.map Bind.name)) (fun G hG => ?_) ?_)
  · refine VC.go 100 ?_
    simp only [push_cast, ↓reduceIte, Nat.reduceEqDiff, Nat.reduceAdd, Nat.reduceMul, Nat.reduceSub, Nat.reduceLT, Nat.reduceLeDiff, reduceCtorEq, Nat.reduceMod, Int.reduceEq, Int.reduceLT, Int.reduceLE, Int.reduceToNat, dite_true]
    refine VC.loopW (ι := Nat × PH × Value × Value × PH × PH) (fun j => [(25, .v (i64v j.1)), (24, .v (i64v e.binds.length)), (23, .v (.slice pb e.binds.length cb)), (9, .v j.2.2.2.1), (8, .v j.2.2.1), (5, .o 1 b 0), (0, .o 0 sb 0), (2, .v (.map (some mb))), (3, .v (i64v l.length))]) (fun j => [⟨0, sb, 70, schC vc vg vi vn mc mt vq s.big⟩, ⟨1, b, 49, expCells e (.slice pa e.atoms.length ca) (.slice pb e.binds.length cb) (.slice pe e.kids.length ce) (.slice pl e.alts.length cl)⟩]) (fun j => j.2.1) (fun j => [j.2.2.2.2.1, j.2.2.2.2.2, ri, rn, rq])
      (fun j => j.1 ≤ e.binds.length ∧ F.le j.2.1 ∧ RowE j.2.2.2.2.1 85 4 (RMk j.2.1) j.2.2.1 (preM (e.binds.take j.1)) ∧ Row j.2.2.2.2.2 9 1 j.2.2.2.1 (((e.binds.take j.1).map Bind.name).map .string)) (fun j => e.binds.length - j.1)
      (0, F, .slice none 0 0, .slice none 0 0, PH.emp, PH.emp) ⟨Nat.zero_le _, PH.le_refl _, RowE.nil _ _ _, Row.nil _ _⟩ (by simp [subk, Eng.look]) (List.Sublist.refl _) rfl (subR_refl _) ?_
    rintro ⟨k, F1, um, us, rm, rs⟩ ⟨hk, hF1, hrm, hrs⟩ G1 hG1
    dsimp only at hk hF1 hrm hrs hG1 ⊢
    by_cases h : k < e.binds.length
    case neg =>
      have h' : ¬ (k : Int) < (e.binds.length : Int) := by omega
      refine VC.go 5 ?_
      simp only [push_cast, ↓reduceIte, Nat.reduceEqDiff, Nat.reduceAdd, Nat.reduceMul, Nat.reduceSub, Nat.reduceLT, Nat.reduceLeDiff, reduceCtorEq, Nat.reduceMod, Int.reduceEq, Int.reduceLT, Int.reduceLE, Int.reduceToNat, dite_true, h']
      rw [List.take_of_length_le (by omega)] at hrm hrs
      refine VC.freezeR (List.Perm.swap _ _ _) fun F2 hF2 hle => ?_
      refine VC.go 100 ?_
      simp only [push_cast, ↓reduceIte, Nat.reduceEqDiff, Nat.reduceAdd, Nat.reduceMul, Nat.reduceSub, Nat.reduceLT, Nat.reduceLeDiff, reduceCtorEq, Nat.reduceMod, Int.reduceEq, Int.reduceLT, Int.reduceLE, Int.reduceToNat, dite_true]
      exact hG (F2, um, us, rm, PH.emp) _ ⟨PH.le_trans hF1 hF2, hrm.mono fun _ _ _ h => h.mono hF2, Row.strs hrs hle⟩ (by simp [subk, Eng.look]) (List.Sublist.refl _) rfl (subR_refl _)
    have h' : (k : Int) < (e.binds.length : Int) := by omega
    have h0 : (0 : Int) ≤ (k : Int) := by omega
    obtain ⟨q, _, cs, eq, _, _, kl, kr⟩ := (hX.binds.mono (R' := RBind F1) hF1 (fun _ _ _ h => h.mono hF1)).elem (by decide) (i := k) (a := e.binds[k]) (List.getElem?_eq_getElem h) (fun _ _ h => h.len)
    cases eq
    obtain ⟨va2, c2, rfl, hva, hvc⟩ := RBind_iff.1 kr
    obtain ⟨wa, wb, we, wl, rfl, wx⟩ := RExp_iff.1 hvc
    have wx' := wx
    obtain ⟨pa2, ca2, pb2, cb2, pe2, ce2, pl2, cl2, rfl, rfl, rfl, rfl⟩ := wx.slices
    have hva' := hva
    obtain ⟨pv, cv, rfl, _, _, _⟩ := hva
    have e2 : IntKind.i64.wrap ((k : Int) + 1) = ((k + 1 : Nat) : Int) := wadd k h (Nat.le_trans hv2 hv3)
    have hbm : (e.binds[k]).size ≤ sizeBs e.binds := V.sizeBs_mem (List.getElem_mem h)
    have hbq := V.bsize_eq (e.binds[k])
    have hba := sizeA_len' (e.binds[k]).body
    have hpl := preM_len (e.binds.take k)
    have hpt := V.sizeBs_take e.binds k
    have hpre : preM (e.binds.take (k + 1)) = preM (e.binds.take k) ++ preM [e.binds[k]] := by rw [List.take_succ_eq_append_getElem h, preM_append]
    refine VC.go 100 ?_
    simp only [push_cast, ↓reduceIte, Nat.reduceEqDiff, Nat.reduceAdd, Nat.reduceMul, Nat.reduceSub, Nat.reduceLT, Nat.reduceLeDiff, reduceCtorEq, Nat.reduceMod, Int.reduceEq, Int.reduceLT, Int.reduceLE, Int.reduceToNat, dite_true, h', h0, kl]
    intro b2
    intro b3 F2 hF2 hb3
    refine Eff.append (ys := [.string (e.binds[k]).name]) rfl rfl rfl ty44 rfl ty9 rfl (by decide) rfl rfl (List.Perm.swap _ _ _) hrs (Src.blk hb3 rfl) (by simp [Value.oneCell']) (by simp; omega) (by decide) fun vs2 rs2 hrs2 => ?_
    simp only [push_cast, ↓reduceIte, Nat.reduceEqDiff, Nat.reduceAdd, Nat.reduceMul, Nat.reduceSub, Nat.reduceLT, Nat.reduceLeDiff, reduceCtorEq, Nat.reduceMod, Int.reduceEq, Int.reduceLT, Int.reduceLE, Int.reduceToNat, dite_true]
    refine CallV.pure (V.clas F2 ((e.binds[k]).args, (e.binds[k]).body) _ _ _ _ _ (hva'.mono hF2) (wx'.mono hF2)) ?_
    rintro _ F3 hF3 rfl
    have hF13 := PH.le_trans hF1 (PH.le_trans hF2 hF3)
    have hnames : Row rs2 9 1 vs2 (((e.binds.take (k + 1)).map Bind.name).map .string) := by rw [List.take_succ_eq_append_getElem h, List.map_append, List.map_append]; exact hrs2
    by_cases hcl : classOf (e.binds[k]).args (e.binds[k]).body = 1
    · simp only [push_cast, ↓reduceIte, Nat.reduceEqDiff, Nat.reduceAdd, Nat.reduceMul, Nat.reduceSub, Nat.reduceLT, Nat.reduceLeDiff, reduceCtorEq, Nat.reduceMod, Int.reduceEq, Int.reduceLT, Int.reduceLE, Int.reduceToNat, dite_true, eq_true hcl]
      refine callNumsF (wx'.mono (PH.le_trans hF2 hF3)).atoms (by omega) fun r4 F4 hF4 hr4 => ?_
      have hnn := nums_len (e.binds[k]).body.atoms
      obtain ⟨x4, ⟨p4, c4, rfl, _, _, hs4⟩, he4⟩ := hr4
      obtain ⟨xm, hrm', hem⟩ := hrm
      have hxm := hem.len (fun _ _ h => h.len)
      have hx4 := he4.len (fun _ _ h => h.len)
      simp only [push_cast, ↓reduceIte, Nat.reduceEqDiff, Nat.reduceAdd, Nat.reduceMul, Nat.reduceSub, Nat.reduceLT, Nat.reduceLeDiff, reduceCtorEq, Nat.reduceMod, Int.reduceEq, Int.reduceLT, Int.reduceLE, Int.reduceToNat, dite_true]
      refine Eff.append rfl rfl rfl ty86 rfl ty85 rfl (by decide) rfl rfl (List.Perm.swap _ _ _) hrm' hs4 (each_one (fun _ _ h => h.ones) he4) (by rw [hxm, hx4]; omega) (by decide) fun v5 r5 hr5 => ?_
      simp only [push_cast, ↓reduceIte, Nat.reduceEqDiff, Nat.reduceAdd, Nat.reduceMul, Nat.reduceSub, Nat.reduceLT, Nat.reduceLeDiff, reduceCtorEq, Nat.reduceMod, Int.reduceEq, Int.reduceLT, Int.reduceLE, Int.reduceToNat, dite_true, e2]
      refine hG1 (k + 1, F4, v5, vs2, r5, rs2) _ ⟨by omega, PH.le_trans hF13 hF4, ?_, hnames⟩ (by simp; omega) (by simp [subk, Eng.look]) (by simp) rfl (subR_refl _)
      dsimp only
      rw [hpre, show preM [e.binds[k]] = nums (e.binds[k]).body.atoms by simp [preM, hcl]]
      exact ⟨_, hr5, each_append (hem.mono fun _ _ _ h => h.mono (PH.le_trans hF2 (PH.le_trans hF3 hF4))) he4⟩
    · simp only [push_cast, ↓reduceIte, Nat.reduceEqDiff, Nat.reduceAdd, Nat.reduceMul, Nat.reduceSub, Nat.reduceLT, Nat.reduceLeDiff, reduceCtorEq, Nat.reduceMod, Int.reduceEq, Int.reduceLT, Int.reduceLE, Int.reduceToNat, dite_true, hcl, e2]
      refine hG1 (k + 1, F3, um, vs2, rm, rs2) _ ⟨by omega, hF13, ?_, hnames⟩ (by simp; omega) (by simp [subk, Eng.look]) (by simp) rfl (subR_perm (List.Perm.swap _ _ _))
      dsimp only
      rw [hpre, show preM [e.binds[k]] = [] by simp [preM, hcl], List.append_nil]
      exact hrm.mono fun _ _ _ h => h.mono (PH.le_trans hF2 hF3)
  rintro ⟨F1, um, us, rm, r0⟩ ⟨hF1, hrm, hstr⟩
  dsimp only at hF1 hrm hstr ⊢
  obtain ⟨pm, cm, rfl, hm1, hm2⟩ := hrm.val (by decide) (fun _ _ h => h.len)
  have hpl := preM_len e.binds
  refine VC.go 4 ?_
  have e1 : IntKind.i64.wrap ((l.length : Int) + ((preM e.binds).length : Int)) = l.length + (preM e.binds).length := w64 _ (by omega)
  simp only [push_cast, ↓reduceIte, Nat.reduceEqDiff, Nat.reduceAdd, Nat.reduceMul, Nat.reduceSub, Nat.reduceLT, Nat.reduceLeDiff, reduceCtorEq, Nat.reduceMod, Int.reduceEq, Int.reduceLT, Int.reduceLE, Int.reduceToNat, dite_true, e1]
  have hw := withP F1 _ us l (e.binds.map Bind.name) (preM e.binds).length (hp.mono hF1) hstr (by omega) (by simp; omega)
  refine CallV.pure hw ?_
  intro inm F2 hF2 hin
  have hin : Plc F2 inm (letIn e.binds l) := hin
  obtain ⟨imb, rfl⟩ := hin.val
  simp only [push_cast, ↓reduceIte, Nat.reduceEqDiff, Nat.reduceAdd, Nat.reduceMul, Nat.reduceSub, Nat.reduceLT, Nat.reduceLeDiff, reduceCtorEq, Nat.reduceMod, Int.reduceEq, Int.reduceLT, Int.reduceLE, Int.reduceToNat, dite_true]
  have hF12 := PH.le_trans hF1 hF2
  refine VC.seq (VC.cutW (ι := PH × Value × Value × Value × Value × PH × PH × PH × PH) (fun j => [(13, .v (.map (some imb))), (8, .v j.2.1), (5, .o 1 b 0), (0, .o 0 sb 0), (3, .v (i64v l.length))]) (fun j => [⟨0, sb, 70, schC vc vg j.2.2.1 j.2.2.2.1 mc mt j.2.2.2.2.1 (letM C e.binds l s).s.big⟩, ⟨1, b, 49, expCells e (.slice pa e.atoms.length ca) (.slice pb e.binds.length cb) (.slice pe e.kids.length ce) (.slice pl e.alts.length cl)⟩]) (fun j => j.1) (fun j => [j.2.2.2.2.2.1, j.2.2.2.2.2.2.1, j.2.2.2.2.2.2.2.1, j.2.2.2.2.2.2.2.2])
    (fun j => F2.le j.1 ∧ RowE j.2.2.2.2.2.1 85 4 (RMk j.1) j.2.1 (letM C e.binds l s).makes ∧ Sch j.1 sb i (letM C e.binds l s).s j.2.2.1 j.2.2.2.1 j.2.2.2.2.1 j.2.2.2.2.2.2.1 j.2.2.2.2.2.2.2.1 j.2.2.2.2.2.2.2.2) (fun G hG => ?_) ?_)
  · refine VC.go 100 ?_
    simp only [push_cast, ↓reduceIte, Nat.reduceEqDiff, Nat.reduceAdd, Nat.reduceMul, Nat.reduceSub, Nat.reduceLT, Nat.reduceLeDiff, reduceCtorEq, Nat.reduceMod, Int.reduceEq, Int.reduceLT, Int.reduceLE, Int.reduceToNat, dite_true]
    refine VC.loopW (ι := Nat × PH × Value × Value × Value × Value × PH × PH × PH × PH) (fun j => [(57, .v (i64v j.1)), (56, .v (i64v e.binds.length)), (55, .v (.slice pb e.binds.length cb)), (13, .v (.map (some imb))), (12, .v (i64v ((l.length : Int) + (preM (e.binds.take j.1)).length))), (8, .v j.2.2.1), (5, .o 1 b 0), (0, .o 0 sb 0), (3, .v (i64v l.length))]) (fun j => [⟨0, sb, 70, schC vc vg j.2.2.2.1 j.2.2.2.2.1 mc mt j.2.2.2.2.2.1 ((e.binds.take j.1).foldl (stepM C (letIn e.binds l)) ⟨preM e.binds, l.length, s⟩).s.big⟩, ⟨1, b, 49, expCells e (.slice pa e.atoms.length ca) (.slice pb e.binds.length cb) (.slice pe e.kids.length ce) (.slice pl e.alts.length cl)⟩]) (fun j => j.2.1) (fun j => [j.2.2.2.2.2.2.1, j.2.2.2.2.2.2.2.1, j.2.2.2.2.2.2.2.2.1, j.2.2.2.2.2.2.2.2.2])
      (fun j => j.1 ≤ e.binds.length ∧ F2.le j.2.1 ∧ RowE j.2.2.2.2.2.2.1 85 4 (RMk j.2.1) j.2.2.1 ((e.binds.take j.1).foldl (stepM C (letIn e.binds l)) ⟨preM e.binds, l.length, s⟩).makes ∧ Sch j.2.1 sb i ((e.binds.take j.1).foldl (stepM C (letIn e.binds l)) ⟨preM e.binds, l.length, s⟩).s j.2.2.2.1 j.2.2.2.2.1 j.2.2.2.2.2.1 j.2.2.2.2.2.2.2.1 j.2.2.2.2.2.2.2.2.1 j.2.2.2.2.2.2.2.2.2) (fun j => e.binds.length - j.1)
      (0, F2, .slice pm (preM e.binds).length cm, vi, vn, vq, rm, ri, rn, rq) ⟨Nat.zero_le _, PH.le_refl _, hrm.mono fun _ _ _ h => h.mono hF2, hS.mono hF12⟩ (by simp [subk, Eng.look, preM]) (by simp) rfl (subR_refl _) ?_
    rintro ⟨k, F3, um, vi3, vn3, vq3, rm3, ri3, rn3, rq3⟩ ⟨hk, hF3, hrm3, hS3⟩ G1 hG1
    dsimp only at hk hF3 hrm3 hS3 hG1 ⊢
    by_cases h : k < e.binds.length
    case neg =>
      have h' : ¬ (k : Int) < (e.binds.length : Int) := by omega
      have htk : e.binds.take k = e.binds := List.take_of_length_le (by omega)
      rw [htk] at hrm3 hS3 ⊢
      refine VC.go 100 ?_
      simp only [push_cast, ↓reduceIte, Nat.reduceEqDiff, Nat.reduceAdd, Nat.reduceMul, Nat.reduceSub, Nat.reduceLT, Nat.reduceLeDiff, reduceCtorEq, Nat.reduceMod, Int.reduceEq, Int.reduceLT, Int.reduceLE, Int.reduceToNat, dite_true, h']
      exact hG (F3, um, vi3, vn3, vq3, rm3, ri3, rn3, rq3) _ ⟨hF3, hrm3, hS3⟩ (by simp [subk, Eng.look]) (List.Sublist.refl _) rfl (subR_refl _)
    have h' : (k : Int) < (e.binds.length : Int) := by omega
    have h0 : (0 : Int) ≤ (k : Int) := by omega
    have hF03 := PH.le_trans hF12 hF3
    obtain ⟨q, _, cs, eq, _, _, kl, kr⟩ := (hX.binds.mono (R' := RBind F3) hF03 (fun _ _ _ h => h.mono hF03)).elem (by decide) (i := k) (a := e.binds[k]) (List.getElem?_eq_getElem h) (fun _ _ h => h.len)
    cases eq
    have kr' := kr
    obtain ⟨va2, c2, rfl, hva, hvc⟩ := RBind_iff.1 kr
    have hvc' := hvc
    obtain ⟨wa, wb, we, wl, rfl, wx⟩ := RExp_iff.1 hvc
    have wx' := wx
    obtain ⟨pa2, ca2, pb2, cb2, pe2, ce2, pl2, cl2, rfl, rfl, rfl, rfl⟩ := wx.slices
    have hva' := hva
    obtain ⟨pv, cv, rfl, _, _, _⟩ := hva
    have e2 : IntKind.i64.wrap ((k : Int) + 1) = ((k + 1 : Nat) : Int) := wadd k h (Nat.le_trans hv2 hv3)
    have hbm : (e.binds[k]).size ≤ sizeBs e.binds := V.sizeBs_mem (List.getElem_mem h)
    have hbq := V.bsize_eq (e.binds[k])
    have hba := sizeA_len' (e.binds[k]).body
    have hplk := preM_len (e.binds.take k)
    have hpt := V.sizeBs_take e.binds k
    obtain ⟨hfr, hmk⟩ := foldM_frm C (letIn e.binds l) (e.binds.take k) ⟨preM e.binds, l.length, s⟩
    obtain ⟨hfr1, _⟩ := foldM_frm C (letIn e.binds l) (e.binds.take (k + 1)) ⟨preM e.binds, l.length, s⟩
    have hon := on_foldM C (letIn e.binds l) (e.binds.take k) ⟨preM e.binds, l.length, s⟩
    have hst : ((e.binds.take (k + 1)).foldl (stepM C (letIn e.binds l)) ⟨preM e.binds, l.length, s⟩) = stepM C (letIn e.binds l) ((e.binds.take k).foldl (stepM C (letIn e.binds l)) ⟨preM e.binds, l.length, s⟩) (e.binds[k]) := by rw [List.take_succ_eq_append_getElem h, List.foldl_append]; rfl
    have okb' := okBs_mem okb _ (List.getElem_mem h)
    rw [okB_eq] at okb'
    obtain ⟨okb1, okb7, _⟩ := okb'
    have htl : (e.binds.take k).length ≤ k := List.length_take_le _ _
    generalize hg : ((e.binds.take k).foldl (stepM C (letIn e.binds l)) ⟨preM e.binds, l.length, s⟩) = g at hrm3 hS3 hfr hmk hon hst ⊢
    refine VC.go 11 ?_
    simp only [push_cast, ↓reduceIte, Nat.reduceEqDiff, Nat.reduceAdd, Nat.reduceMul, Nat.reduceSub, Nat.reduceLT, Nat.reduceLeDiff, reduceCtorEq, Nat.reduceMod, Int.reduceEq, Int.reduceLT, Int.reduceLE, Int.reduceToNat, dite_true, h', h0, kl]
    intro b15
    refine CallV.pure (V.clas F3 ((e.binds[k]).args, (e.binds[k]).body) _ _ _ _ _ hva' wx') ?_
    rintro _ F4 hF4 rfl
    simp only [push_cast, ↓reduceIte, Nat.reduceEqDiff, Nat.reduceAdd, Nat.reduceMul, Nat.reduceSub, Nat.reduceLT, Nat.reduceLeDiff, reduceCtorEq, Nat.reduceMod, Int.reduceEq, Int.reduceLT, Int.reduceLE, Int.reduceToNat, dite_true]
    intro b16
    have hC4 := hC.mono (PH.le_trans hF03 hF4)
    have hS4 := hS3.mono hF4
    have hin4 := hin.mono (PH.le_trans hF3 hF4)
    refine VC.seq (VC.cutW (ι := PH × Mk × Value × Int × Sc × Value × Value × Value × PH × PH × PH) (fun j => [(16, .o 3 b16 0), (12, .v (i64v j.2.2.2.1)), (13, .v (.map (some imb))), (8, .v um), (57, .v (i64v k)), (56, .v (i64v e.binds.length)), (55, .v (.slice (some q) e.binds.length cb)), (5, .o 1 b 0), (0, .o 0 sb 0), (3, .v (i64v l.length))])
      (fun j => [⟨0, sb, 70, schC vc vg j.2.2.2.2.2.1 j.2.2.2.2.2.2.1 mc mt j.2.2.2.2.2.2.2.1 j.2.2.2.2.1.big⟩, ⟨1, b, 49, expCells e (.slice pa e.atoms.length ca) (.slice (some q) e.binds.length cb) (.slice pe e.kids.length ce) (.slice pl e.alts.length cl)⟩, ⟨3, b16, 85, [i64v (j.2.1).kind, i64v (j.2.1).info, i64v (j.2.1).n, j.2.2.1]⟩]) (fun j => j.1) (fun j => [rm3, j.2.2.2.2.2.2.2.2.1, j.2.2.2.2.2.2.2.2.2.1, j.2.2.2.2.2.2.2.2.2.2])
      (fun j => F4.le j.1 ∧ stepM C (letIn e.binds l) g (e.binds[k]) = ⟨g.makes ++ [j.2.1], j.2.2.2.1, j.2.2.2.2.1⟩ ∧ Ints j.1 j.2.2.1 (j.2.1).frm ∧ Sch j.1 sb i j.2.2.2.2.1 j.2.2.2.2.2.1 j.2.2.2.2.2.2.1 j.2.2.2.2.2.2.2.1 j.2.2.2.2.2.2.2.2.1 j.2.2.2.2.2.2.2.2.2.1 j.2.2.2.2.2.2.2.2.2.2) (fun G2 hG2 => ?_) ?_)
    · obtain ⟨mc', ⟨cb', ces, cc, ckv, hmc, hcF, hcm, hcn, hcg⟩, hcc⟩ := hC4.cons
      subst hmc
      have hget : ∀ nm, (mget ckv nm).getD (i64v 0) = i64v (conD C.ds nm) := fun nm => by rw [hcg, ← hcc]; cases mc' nm <;> rfl
      have hfrg : g.frm = ((l.length + (preM (e.binds.take k)).length : Nat) : Int) := by rw [hfr]; simp
      by_cases c1 : classOf (e.binds[k]).args (e.binds[k]).body = 1
      · refine VC.go 100 ?_
        simp only [push_cast, ↓reduceIte, Nat.reduceEqDiff, Nat.reduceAdd, Nat.reduceMul, Nat.reduceSub, Nat.reduceLT, Nat.reduceLeDiff, reduceCtorEq, Nat.reduceMod, Int.reduceEq, Int.reduceLT, Int.reduceLE, Int.reduceToNat, dite_true, c1]
        refine VC.draw (.q 0 (.q 1 (.q 2 (.q 3 (.q 4 (.q 5 (.q 6 (.q 7 (.e 8 (.q 9 (.e 10 (.done)))))))))))) mixed (by rfl) ?_
        simp only [push_cast, ↓reduceIte, Nat.reduceEqDiff, Nat.reduceAdd, Nat.reduceMul, Nat.reduceSub, Nat.reduceLT, Nat.reduceLeDiff, reduceCtorEq, Nat.reduceMod, Int.reduceEq, Int.reduceLT, Int.reduceLE, Int.reduceToNat, dite_true]
        refine Eff.lookup keyStr rfl ty67 rfl Tryd.underlying9 ty3 rfl rfl (.inl hcF) hcm.1 ?_
        simp only [push_cast, ↓reduceIte, Nat.reduceEqDiff, Nat.reduceAdd, Nat.reduceMul, Nat.reduceSub, Nat.reduceLT, Nat.reduceLeDiff, reduceCtorEq, Nat.reduceMod, Int.reduceEq, Int.reduceLT, Int.reduceLE, Int.reduceToNat, dite_true, hget, Bool.false_eq_true]
        refine VC.go 100 ?_
        simp only [push_cast, ↓reduceIte, Nat.reduceEqDiff, Nat.reduceAdd, Nat.reduceMul, Nat.reduceSub, Nat.reduceLT, Nat.reduceLeDiff, reduceCtorEq, Nat.reduceMod, Int.reduceEq, Int.reduceLT, Int.reduceLE, Int.reduceToNat, dite_true]
        refine callAtoms (C := C) (frm := l.length + (preM (e.binds.take k)).length) rfl hC4 (wx'.mono hF4).atoms hin4 (okb1 c1) (by omega) (by omega) fun r5 F5 hF5 hr5 => ?_
        have hr5' := hr5
        obtain ⟨p5, c5, rfl, _, _, _⟩ := hr5
        simp only [push_cast, ↓reduceIte, Nat.reduceEqDiff, Nat.reduceAdd, Nat.reduceMul, Nat.reduceSub, Nat.reduceLT, Nat.reduceLeDiff, reduceCtorEq, Nat.reduceMod, Int.reduceEq, Int.reduceLT, Int.reduceLE, Int.reduceToNat, dite_true]
        refine callNumsF (wx'.mono (PH.le_trans hF4 hF5)).atoms (by omega) fun r6 F6 hF6 hr6 => ?_
        obtain ⟨p6, c6, rfl, _, _⟩ := hr6.val
        have hnn := nums_len (e.binds[k]).body.atoms
        have e4 : IntKind.i64.wrap ((l.length : Int) + ((preM (e.binds.take k)).length : Int) + ((nums (e.binds[k]).body.atoms).length : Int)) = l.length + (preM (e.binds.take k)).length + (nums (e.binds[k]).body.atoms).length := w64 _ (by omega)
        simp only [push_cast, ↓reduceIte, Nat.reduceEqDiff, Nat.reduceAdd, Nat.reduceMul, Nat.reduceSub, Nat.reduceLT, Nat.reduceLeDiff, reduceCtorEq, Nat.reduceMod, Int.reduceEq, Int.reduceLT, Int.reduceLE, Int.reduceToNat, dite_true, e4]
        exact hG2 (F6, ⟨1, conD C.ds (e.binds[k]).body.name, 0, atomsP C (letIn e.binds l) (e.binds[k]).body.atoms g.frm⟩, .slice p5 (atomsP C (letIn e.binds l) (e.binds[k]).body.atoms ((l.length + (preM (e.binds.take k)).length : Nat) : Int)).length c5, (l.length : Int) + (preM (e.binds.take k)).length + (nums (e.binds[k]).body.atoms).length, g.s, vi3, vn3, vq3, ri3, rn3, rq3) _
          ⟨PH.le_trans hF5 hF6, by simp only [stepM, c1, if_true]; rw [hfrg]; simp, by dsimp only; rw [hfrg]; exact hr5'.mono hF6, (hS4.mono hF5).mono hF6⟩ (by simp [subk, Eng.look]) (by simp) rfl (subR_refl _)
      by_cases c2 : classOf (e.binds[k]).args (e.binds[k]).body = 2
      · refine VC.go 100 ?_
        simp only [push_cast, ↓reduceIte, Nat.reduceEqDiff, Nat.reduceAdd, Nat.reduceMul, Nat.reduceSub, Nat.reduceLT, Nat.reduceLeDiff, reduceCtorEq, Nat.reduceMod, Int.reduceEq, Int.reduceLT, Int.reduceLE, Int.reduceToNat, dite_true, c1, c2]
        exact hG2 (F4, ⟨2, 0, (e.binds[k]).body.n, []⟩, .slice none 0 0, (l.length : Int) + (preM (e.binds.take k)).length, g.s, vi3, vn3, vq3, ri3, rn3, rq3) _
          ⟨PH.le_refl _, by simp only [stepM, c2, if_true]; rw [hfrg]; simp, nil_ints _, hS4⟩ (by simp [subk, Eng.look]) (by simp) rfl (subR_refl _)
      by_cases c7 : classOf (e.binds[k]).args (e.binds[k]).body = 7
      · refine VC.go 100 ?_
        simp only [push_cast, ↓reduceIte, Nat.reduceEqDiff, Nat.reduceAdd, Nat.reduceMul, Nat.reduceSub, Nat.reduceLT, Nat.reduceLeDiff, reduceCtorEq, Nat.reduceMod, Int.reduceEq, Int.reduceLT, Int.reduceLE, Int.reduceToNat, dite_true, c1, c2, c7]
        refine CallV.pure (V.field F4 ((e.binds[k]).args, (e.binds[k]).body) _ _ _ _ _ (hva'.mono hF4) (wx'.mono hF4)) ?_
        rintro _ F5 hF5 rfl
        simp only [push_cast, ↓reduceIte, Nat.reduceEqDiff, Nat.reduceAdd, Nat.reduceMul, Nat.reduceSub, Nat.reduceLT, Nat.reduceLeDiff, reduceCtorEq, Nat.reduceMod, Int.reduceEq, Int.reduceLT, Int.reduceLE, Int.reduceToNat, dite_true]
        refine Eff.lookup keyStr rfl ty67 rfl Tryd.underlying9 ty3 rfl rfl (.inl (hF5 _ _ hcF)) hcm.1 ?_
        simp only [push_cast, ↓reduceIte, Nat.reduceEqDiff, Nat.reduceAdd, Nat.reduceMul, Nat.reduceSub, Nat.reduceLT, Nat.reduceLeDiff, reduceCtorEq, Nat.reduceMod, Int.reduceEq, Int.reduceLT, Int.reduceLE, Int.reduceToNat, dite_true, hget, Bool.false_eq_true]
        refine callPlace (C := C) rfl (hC4.mono hF5) (hin4.mono hF5) (okb7 c7) fun F6 hF6 => ?_
        simp only [push_cast, ↓reduceIte, Nat.reduceEqDiff, Nat.reduceAdd, Nat.reduceMul, Nat.reduceSub, Nat.reduceLT, Nat.reduceLeDiff, reduceCtorEq, Nat.reduceMod, Int.reduceEq, Int.reduceLT, Int.reduceLE, Int.reduceToNat, dite_true]
        intro b7 F7 hF7 hb7
        exact hG2 (F7, ⟨7, conD C.ds (fieldOf (e.binds[k]).args (e.binds[k]).body).1, (fieldOf (e.binds[k]).args (e.binds[k]).body).2.1, [place C (letIn e.binds l) (fieldOf (e.binds[k]).args (e.binds[k]).body).2.2.1]⟩, .slice (some ⟨b7, 0, none⟩) 1 1, (l.length : Int) + (preM (e.binds.take k)).length, g.s, vi3, vn3, vq3, ri3, rn3, rq3) _
          ⟨PH.le_trans hF5 (PH.le_trans hF6 hF7), by simp only [stepM, c7, if_true]; rw [hfrg]; simp, ⟨_, _, rfl, Nat.le_refl _, by decide, src_one hb7 rfl⟩, ((hS4.mono hF5).mono hF6).mono hF7⟩ (by simp [subk, Eng.look]) (by simp) rfl (subR_refl _)
      · refine VC.go 100 ?_
        simp only [push_cast, ↓reduceIte, Nat.reduceEqDiff, Nat.reduceAdd, Nat.reduceMul, Nat.reduceSub, Nat.reduceLT, Nat.reduceLeDiff, reduceCtorEq, Nat.reduceMod, Int.reduceEq, Int.reduceLT, Int.reduceLE, Int.reduceToNat, dite_true, c1, c2, c7]
        have hwl := within_len (e.binds[k]).body
        have hfl : (freeB (e.binds[k])).length ≤ (within (e.binds[k]).body).length := List.length_filter_le _ _
        have hhl := here_len (letIn e.binds l) (freeB (e.binds[k]))
        have hfne : ∀ s ∈ freeB (e.binds[k]), ¬ s = ⟨#[]⟩ := fun s hs => within_ne _ s (List.mem_filter.1 hs).1
        refine CallV.sl (V.free F4 ((e.binds[k]).args, (e.binds[k]).body) _ _ _ _ _ (hva'.mono hF4) (wx'.mono hF4) (within_all _ (e.binds[k]).body rfl (by omega)) (by dsimp only; omega)) fun w5 F5 n5 hF5 hl5 hs5 => ?_
        have hw5 : Strs F5 w5 (freeB (e.binds[k])) := sl_strs hl5 hs5
        simp only [push_cast, ↓reduceIte, Nat.reduceEqDiff, Nat.reduceAdd, Nat.reduceMul, Nat.reduceSub, Nat.reduceLT, Nat.reduceLeDiff, reduceCtorEq, Nat.reduceMod, Int.reduceEq, Int.reduceLT, Int.reduceLE, Int.reduceToNat, dite_true]
        refine CallV.sl (locals F5 w5 _ (freeB (e.binds[k])) (letIn e.binds l) hw5 (hin4.mono hF5) hfne (by omega)) fun w6 F6 n6 hF6 hl6 hs6 => ?_
        have hw6 := sl_strs hl6 hs6
        have hF46 := PH.le_trans hF5 hF6
        simp only [push_cast, ↓reduceIte, Nat.reduceEqDiff, Nat.reduceAdd, Nat.reduceMul, Nat.reduceSub, Nat.reduceLT, Nat.reduceLeDiff, reduceCtorEq, Nat.reduceMod, Int.reduceEq, Int.reduceLT, Int.reduceLE, Int.reduceToNat, dite_true]
        refine callInfo (f := ((e.binds[k]).args, (e.binds[k]).body)) (need := here (letIn e.binds l) (freeB (e.binds[k]))) (fc := (.slice pv (e.binds[k]).args.length cv :: expCells (e.binds[k]).body (.slice pa2 (e.binds[k]).body.atoms.length ca2) (.slice pb2 (e.binds[k]).body.binds.length cb2) (.slice pe2 (e.binds[k]).body.kids.length ce2) (.slice pl2 (e.binds[k]).body.alts.length cl2))) (Re := [rm3]) rfl rfl (List.perm_append_comm (l₁ := [rm3])) (hC4.mono hF46) (hS4.mono hF46) ⟨_, _, rfl, (hva'.mono hF4).mono hF46, (hvc'.mono hF4).mono hF46⟩ hw6 (by have h9 := hon.infos; dsimp only at h9; omega) fun F7 vi7 vq7 ri7 rq7 hF7 hS7 => ?_
        simp only [push_cast, ↓reduceIte, Nat.reduceEqDiff, Nat.reduceAdd, Nat.reduceMul, Nat.reduceSub, Nat.reduceLT, Nat.reduceLeDiff, reduceCtorEq, Nat.reduceMod, Int.reduceEq, Int.reduceLT, Int.reduceLE, Int.reduceToNat, dite_true]
        refine callAll (C := C) rfl (hC4.mono (PH.le_trans hF46 hF7)) (hw6.mono hF7) (hin4.mono (PH.le_trans hF46 hF7)) (here_known hfne) (by omega) fun r8 F8 hF8 hr8 => ?_
        have hr8' := hr8
        obtain ⟨p8, c8, rfl, _, _, _⟩ := hr8
        simp only [push_cast, ↓reduceIte, Nat.reduceEqDiff, Nat.reduceAdd, Nat.reduceMul, Nat.reduceSub, Nat.reduceLT, Nat.reduceLeDiff, reduceCtorEq, Nat.reduceMod, Int.reduceEq, Int.reduceLT, Int.reduceLE, Int.reduceToNat, dite_true]
        exact hG2 (F8, ⟨classOf (e.binds[k]).args (e.binds[k]).body, g.s.infos.length, 0, (here (letIn e.binds l) (freeB (e.binds[k]))).map (place C (letIn e.binds l))⟩, .slice p8 ((here (letIn e.binds l) (freeB (e.binds[k]))).map (place C (letIn e.binds l))).length c8, (l.length : Int) + (preM (e.binds.take k)).length, infoS g.s ((e.binds[k]).args, (e.binds[k]).body) (here (letIn e.binds l) (freeB (e.binds[k]))), vi7, vn3, vq7, ri7, rn3, rq7) _
          ⟨PH.le_trans hF46 (PH.le_trans hF7 hF8), by simp only [stepM, c1, c2, c7, if_false]; rw [hfrg]; simp, hr8', hS7.mono hF8⟩ (by simp [subk, Eng.look]) (by simp) rfl (subR_perm (List.perm_append_comm (l₁ := [ri7, rn3, rq7])))
    rintro ⟨F5, m, vf, frm', s', vi5, vn5, vq5, ri5, rn5, rq5⟩ ⟨hF5, hstep, hvf, hS5⟩
    dsimp only at hF5 hstep hvf hS5 ⊢
    have hvf' := hvf
    obtain ⟨pf, cf, rfl, _, _, _⟩ := hvf
    obtain ⟨xm, hrm', hem⟩ := hrm3
    have hxm := hem.len (fun _ _ h => h.len)
    have hfrm : frm' = (l.length : Int) + ((preM (e.binds.take (k + 1))).length : Int) := by rw [← hfr1, hst, hstep]
    subst hfrm
    refine VC.go 100 ?_
    simp only [push_cast, ↓reduceIte, Nat.reduceEqDiff, Nat.reduceAdd, Nat.reduceMul, Nat.reduceSub, Nat.reduceLT, Nat.reduceLeDiff, reduceCtorEq, Nat.reduceMod, Int.reduceEq, Int.reduceLT, Int.reduceLE, Int.reduceToNat, dite_true]
    intro b6 F6 hF6 hb6
    refine Eff.append rfl rfl rfl ty86 rfl ty85 rfl (by decide) rfl rfl (.refl _) hrm' (src_one hb6 rfl) (by simp [Value.oneCell']) (by simp [hxm, hmk]; omega) (by decide) fun v7 r7 hr7 => ?_
    simp only [push_cast, ↓reduceIte, Nat.reduceEqDiff, Nat.reduceAdd, Nat.reduceMul, Nat.reduceSub, Nat.reduceLT, Nat.reduceLeDiff, reduceCtorEq, Nat.reduceMod, Int.reduceEq, Int.reduceLT, Int.reduceLE, Int.reduceToNat, dite_true, e2]
    refine hG1 (k + 1, F6, v7, vi5, vn5, vq5, r7, ri5, rn5, rq5) _ ⟨by omega, PH.le_trans hF3 (PH.le_trans hF4 (PH.le_trans hF5 hF6)), ?_, ?_⟩ (by simp; omega) (by simp [subk, Eng.look]) ?_ rfl (subR_refl _)
    · dsimp only
      rw [hst, hstep]
      exact ⟨_, hr7, each_snoc (hem.mono fun _ _ _ h => h.mono (PH.le_trans hF4 (PH.le_trans hF5 hF6))) ⟨_, rfl, hvf'.mono hF6⟩⟩
    · dsimp only
      rw [hst, hstep]
      exact hS5.mono hF6
    · dsimp only
      rw [hst, hstep]
      simp
  rintro ⟨F3, um, vi3, vn3, vq3, rm3, ri3, rn3, rq3⟩ ⟨hF3, hrm3, hS3⟩
  dsimp only at hF3 hrm3 hS3 ⊢
  have hF03 := PH.le_trans hF12 hF3
  obtain ⟨_, hmk⟩ := foldM_frm C (letIn e.binds l) e.binds ⟨preM e.binds, l.length, s⟩
  have hmk : (letM C e.binds l s).makes.length = (preM e.binds).length + e.binds.length := hmk
  have hon := on_letM C e.binds l s
  obtain ⟨e0, es0, hk0⟩ : ∃ a b, e.kids = a :: b := by cases hc : e.kids with | nil => exact absurd hc hkids | cons a b => exact ⟨a, b, rfl⟩
  refine VC.freezeR (.refl _) fun F4 hF4 hle => ?_
  have hsl := (hrm3.sle (by decide) (fun _ _ h => h.len) hle).mono (R' := RMk F4) (PH.le_refl _) (fun _ _ _ h => h.mono hF4)
  obtain ⟨pu, cu, rfl, _, _⟩ := hsl.val
  refine VC.go 100 ?_
  simp only [push_cast, ↓reduceIte, Nat.reduceEqDiff, Nat.reduceAdd, Nat.reduceMul, Nat.reduceSub, Nat.reduceLT, Nat.reduceLeDiff, reduceCtorEq, Nat.reduceMod, Int.reduceEq, Int.reduceLT, Int.reduceLE, Int.reduceToNat, dite_true]
  refine callPut (x := insL l.length (letM C e.binds l s).makes) (Re := []) rfl rfl (.refl _) (hC.mono (PH.le_trans hF03 hF4)) (hS3.mono hF4) ⟨_, _, _, _, rfl, nil_ints _, nil_ints _, hsl, nil_sle _ 4 _⟩ (by have := hon.ins; omega) (by simp [insL]; omega) (by simp [insL]; omega) fun F5 vn5 rn5 hF5 hS5 => ?_
  have hF05 := PH.le_trans (PH.le_trans hF03 hF4) hF5
  obtain ⟨q, _, cs, eq, _, _, kl, kr⟩ := (hX.kids.mono (R' := RExp F5) hF05 (fun _ _ _ h => h.mono hF05)).elem (by decide) (i := 0) (a := e0) (by rw [hk0]; rfl) (fun _ _ h => h.len)
  cases eq
  obtain ⟨wa, wb, we, wl, rfl, wx⟩ := RExp_iff.1 kr
  have hkl : (0 : Int) < (e.kids.length : Int) := by rw [hk0, List.length_cons]; omega
  have e3 : IntKind.i64.wrap ((l.length : Int) + ((letM C e.binds l s).makes.length : Int)) = l.length + (letM C e.binds l s).makes.length := w64 _ (by omega)
  simp only [push_cast, ↓reduceIte, Nat.reduceEqDiff, Nat.reduceAdd, Nat.reduceMul, Nat.reduceSub, Nat.reduceLT, Nat.reduceLeDiff, reduceCtorEq, Nat.reduceMod, Int.reduceEq, Int.reduceLT, Int.reduceLE, Int.reduceToNat, dite_true, hkl, kl, e3]
  have hpl2 := preM_len2 e.binds
  have hes : e0.size ≤ sizeEs e.kids := by rw [hk0]; simp [sizeEs]
  have hlen : (letIn e.binds l).length = l.length + (letM C e.binds l s).makes.length := by rw [hmk]; simp [letIn, blanks]
  have okk0 : okX C (letIn e.binds l) e0 := by rw [hk0] at okk; exact okk
  have hoi := hon.ins
  have hof := hon.infos
  have hcall := hE e0 (by omega) F5 sb i vc vg mc mt vi3 vn5 vq3 ri3 rn5 rq3 (putS (letM C e.binds l s).s (insL l.length (letM C e.binds l s).makes)) (letIn e.binds l) _ _ _ _ _ wx (hin.mono (PH.le_trans hF3 (PH.le_trans hF4 hF5))) (hC.mono hF05) hS5 okk0 ⟨by simp [putS]; omega, by simp [putS]; omega, by omega, by omega⟩
  rw [hlen, Int.natCast_add] at hcall
  refine callS (Re := []) rfl rfl (.refl _) hcall fun v' F6 vi6 vn6 vq6 ri6 rn6 rq6 hF6 hS6 _ => ?_
  simp only [push_cast, ↓reduceIte, Nat.reduceEqDiff, Nat.reduceAdd, Nat.reduceMul, Nat.reduceSub, Nat.reduceLT, Nat.reduceLeDiff, reduceCtorEq, Nat.reduceMod, Int.reduceEq, Int.reduceLT, Int.reduceLE, Int.reduceToNat, dite_true]
  have hlay : layE C e0 (letIn e.binds l) (putS (letM C e.binds l s).s (insL l.length (letM C e.binds l s).makes)) = layLet C e l s := by unfold layLet; rw [hk0]; simp only [layKid]
  rw [hlay] at hS6 ⊢
  exact RetOk.r (vs := []) rfl (RetR.own (i := 0) rfl) ⟨vi6, vn6, vq6, ri6, rn6, rq6, rfl, hS6, trivial⟩
end Go.Proofs.YtoepmdbicdoieaaDoor.W
