/- gen: what waits is laid; a program's code. -/
import Derived.Test.YtoepmdbicdoieaaDoorW10
namespace Go.Proofs.YtoepmdbicdoieaaDoor.W
open Go Go.Eng Go.Proofs Go.Proofs.YtoepmdbicdoieaaDoor.T Go.Proofs.YtoepmdbicdoieaaDoor.K Go.Proofs.YtoepmdbicdoieaaDoor.U
open Go.Proofs.YtoepmdbicdoieaaDoor.V (within within_all within_len WithinOk classOf fieldOf)
set_option linter.unusedSimpArgs false
set_option linter.unusedVariables false
set_option maxRecDepth 100000
set_option maxHeartbeats 4000000
theorem fo_snoc (l : List ByteArray) (x s : ByteArray) : fo (l ++ [x]) s = if x = s then some (l.length : Int) else fo l s := by
  unfold fo
  rw [findL_snoc]
  by_cases h : x = s
  · simp [h]
  · simp [h]
theorem VC.mne {P : Program} {n : Nat} {X : Cx} {k : List KItem} {S : St} {m1 m2 : Own} {M : List Own} (hM : S.M = m1 :: m2 :: M) (h : ¬ m1.b = m2.b → VC P n X k S) : VC P n X k S := fun a w ha hw => h (by
  have := hw.mm
  rw [hM] at this
  exact (List.pairwise_cons.1 this).1 m2 List.mem_cons_self) a w ha hw
theorem waiting (F : PH) (C : Env) (sb i n : Nat) (vc vg mc mt vi vn vq : Value) (ri rn rq : PH) (s : Sc) (f : Frm) (need : List ByteArray) (bs bn bf bd bk : Nat) (hQ : RQ F sb (n, f, need) [.func (.func 41) #[] #[ptr bs, ptr bn, ptr bf, ptr bd, ptr bk]])
    (hC : Ctx F C vc vg mc mt) (hS : Sch F sb i s vi vn vq ri rn rq) (hn : n < s.infos.length) (hok : okX C (f.1 ++ need) f.2) (hfit : Fits f.2 s (f.1 ++ need)) :
    Eng.Fn Tryd.prog 41 [ptr bs, ptr bn, ptr bf, ptr bd, ptr bk] F [cell1 sb 70 (schC vc vg vi vn mc mt vq s.big), ri, rn, rq] (SchQ sb i vc vg mc mt (stepQ C n f need s) (fun _ => True)) := by
  obtain ⟨bs', bn', bf', bd', bk', fc, vd, kd, e0, h1, h2, h3, h4, h5, h6, h7⟩ := hQ
  simp only [List.cons.injEq, Value.func.injEq, Array.mk.injEq, and_true, true_and, ptr, Value.pointer.injEq, Option.some.injEq, Addr.mk.injEq] at e0
  obtain ⟨rfl, rfl, rfl, rfl, rfl⟩ := e0
  obtain ⟨fi1, fi2, fi3, fi4⟩ := hfit
  obtain ⟨va, ec, rfl, hva, hec⟩ := h4
  obtain ⟨wa, wb, we, wl, rfl, wx⟩ := RExp_iff.1 hec
  obtain ⟨pv, cv, rfl, hv1, hv2, hv3⟩ := hva
  obtain ⟨pd, cd, rfl, hd1, hd2, hd3⟩ := h6
  have c1 : F.cell ⟨bs, 0, none⟩ = some (ptr sb) := by rw [cell_one h1]; rfl
  have c2 : F.cell ⟨bn, 0, none⟩ = some (i64v n) := by rw [cell_one h2]; rfl
  obtain ⟨xi, hri, hei⟩ := hS.infos
  have hxi := hei.len (fun _ _ h => h.len)
  obtain ⟨pg, mg, cg, rfl, m1, m2, m3⟩ := hri.has (by intro h0; rw [h0, List.length_nil] at hxi; omega)
  obtain rfl : mg = s.infos.length := by omega
  obtain ⟨pn, cn, rfl, hn1, hn2⟩ := hS.ins.val (by decide) (fun _ _ h => h.len)
  refine Fn.intro (n := 61) (ts := []) Tryd.func41 rfl rfl rfl rfl (by simp) fun B hB => ?_
  refine VC.fromR 0 (.refl _) (VC.fnone (m := ⟨0, sb, _, _⟩) List.mem_cons_self fun hsb => ?_)
  have hno := no_cell hsb
  refine VC.rowM (i := 7) (Rf := [rn, rq]) (.refl _) hri fun g csg hpg hcl hmc hcm hct => ?_
  subst hpg
  refine VC.mne rfl fun hne => ?_
  dsimp only at hne hno
  have hlt : n * 4 + 3 < csg.length := by rw [hcl]; omega
  have hlt2 : (n : Int) < (s.infos.length : Int) := by omega
  have hlt3 : (0 : Int) ≤ (n : Int) := by omega
  refine VC.seq (VC.draw (.q 0 (.q 1 (.q 2 (.q 3 (.q 4 (.q 5 (.q 6 (.q 7 (.q 8 (.q 9 (.q 10 (.q 11 (.q 12 (.q 13 (.es 14 [12] (.done)))))))))))))))) mixed (by rfl) ?_)
  simp only [push_cast, ↓reduceIte, Nat.reduceEqDiff, Nat.reduceAdd, Nat.reduceMul, Nat.reduceSub, Nat.reduceLT, Nat.reduceLeDiff, reduceCtorEq, Nat.reduceMod, Int.reduceEq, Int.reduceLT, Int.reduceLE, Int.reduceToNat, dite_true, c1, c2, hno, add_own, Nat.zero_add, hne, hlt, hlt2, hlt3]
  refine VC.toR (m := ⟨7, g, 41, csg.set (n * 4 + 3) (i64v s.ins.length)⟩) (.refl _) [(0, .v (ptr bs)), (2, .v (ptr bf)), (3, .v (ptr bd)), (4, .v (ptr bk))] (by simp [subv, Eng.look, AV.val, initL]) ?_
  have hS1 : Sch F sb i (setTo s n s.ins.length) (.slice (some ⟨g, 0, none⟩) s.infos.length cg) (.slice pn s.ins.length cn) vq (cell1 g 41 (csg.set (n * 4 + 3) (i64v s.ins.length))) rn rq := by
    refine ⟨?_, hS.ins, hS.queue, by simp [setTo, hS.e1], by simp [setTo, hS.e2], by simp [setTo]; exact hS.le⟩
    exact RowE.set (by decide) (fun _ _ h => h.len) (by decide) (fun x c hc => by unfold RInf at hc; subst hc; rfl) hn hcl hmc hcm (by rw [hct]; exact hei) rfl
  refine VC.go 2 ?_
  simp only [push_cast, ↓reduceIte, Nat.reduceEqDiff, Nat.reduceAdd, Nat.reduceMul, Nat.reduceSub, Nat.reduceLT, Nat.reduceLeDiff, reduceCtorEq, Nat.reduceMod, Int.reduceEq, Int.reduceLT, Int.reduceLE, Int.reduceToNat, dite_true]
  refine Eff.makeMap rfl fun mb => ?_
  simp only [push_cast, ↓reduceIte, Nat.reduceEqDiff, Nat.reduceAdd, Nat.reduceMul, Nat.reduceSub, Nat.reduceLT, Nat.reduceLeDiff, reduceCtorEq, Nat.reduceMod, Int.reduceEq, Int.reduceLT, Int.reduceLE, Int.reduceToNat, dite_true]
  have c3 : F.cell ⟨bf, 0, none⟩ = some (.slice pv f.1.length cv) := by rw [cell_one h3]; rfl
  refine VC.seq (VC.cutW (ι := Array MapEntry × Nat × List (ByteArray × Value)) (fun _ => [(5, .v (.map (some mb))), (0, .v (ptr bs)), (2, .v (ptr bf)), (3, .v (ptr bd)), (4, .v (ptr bk))]) (fun _ => [⟨0, sb, 70, schC vc vg (.slice (some ⟨g, 0, none⟩) s.infos.length cg) (.slice pn s.ins.length cn) mc mt vq s.big⟩]) (fun _ => F) (fun j => [PH.one mb (.map j.1 j.2.1), cell1 g 41 (csg.set (n * 4 + 3) (i64v s.ins.length)), rn, rq])
    (fun j => MapIs Value.string j.1 j.2.1 j.2.2 ∧ (j.2.2.map Prod.fst).Nodup ∧ ∀ s, mget j.2.2 s = (fo f.1 s).map i64v) (fun G hG => ?_) ?_)
  · refine VC.go 100 ?_
    simp only [push_cast, ↓reduceIte, Nat.reduceEqDiff, Nat.reduceAdd, Nat.reduceMul, Nat.reduceSub, Nat.reduceLT, Nat.reduceLeDiff, reduceCtorEq, Nat.reduceMod, Int.reduceEq, Int.reduceLT, Int.reduceLE, Int.reduceToNat, dite_true, add_own, c3]
    refine VC.loopW (ι := Nat × Array MapEntry × Nat × List (ByteArray × Value)) (fun j => [(28, .v (i64v j.1)), (27, .v (i64v f.1.length)), (26, .v (.slice pv f.1.length cv)), (5, .v (.map (some mb))), (0, .v (ptr bs)), (2, .v (ptr bf)), (3, .v (ptr bd)), (4, .v (ptr bk))]) (fun _ => [⟨0, sb, 70, schC vc vg (.slice (some ⟨g, 0, none⟩) s.infos.length cg) (.slice pn s.ins.length cn) mc mt vq s.big⟩]) (fun _ => F) (fun j => [PH.one mb (.map j.2.1 j.2.2.1), cell1 g 41 (csg.set (n * 4 + 3) (i64v s.ins.length)), rn, rq])
      (fun j => j.1 ≤ f.1.length ∧ MapIs Value.string j.2.1 j.2.2.1 j.2.2.2 ∧ (j.2.2.2.map Prod.fst).Nodup ∧ ∀ s, mget j.2.2.2 s = (fo (f.1.take j.1) s).map i64v) (fun j => f.1.length - j.1) (0, #[], 0, []) ⟨Nat.zero_le _, mapIs_nil _, by simp, fun s => by simp [mget, fo, findL]⟩ (by simp [subk, Eng.look]) (List.Sublist.refl _) rfl (subR_refl _) ?_
    rintro ⟨k, es1, cc1, kv1⟩ ⟨hk, hm1', hn1', hg1⟩ G1 hG1
    dsimp only at hk hm1' hn1' hg1 hG1 ⊢
    refine VC.go 100 ?_
    by_cases h : k < f.1.length
    case neg =>
      have h' : ¬ (k : Int) < (f.1.length : Int) := by omega
      simp only [push_cast, ↓reduceIte, Nat.reduceEqDiff, Nat.reduceAdd, Nat.reduceMul, Nat.reduceSub, Nat.reduceLT, Nat.reduceLeDiff, reduceCtorEq, Nat.reduceMod, Int.reduceEq, Int.reduceLT, Int.reduceLE, Int.reduceToNat, dite_true, h']
      rw [List.take_of_length_le (by omega)] at hg1
      exact hG (es1, cc1, kv1) _ ⟨hm1', hn1', hg1⟩ (by simp [subk, Eng.look]) (List.Sublist.refl _) rfl (subR_refl _)
    have h' : (k : Int) < (f.1.length : Int) := by omega
    have h0 : (0 : Int) ≤ (k : Int) := by omega
    obtain ⟨a, rfl, ha⟩ := hv3.elem1 (i := k) (v := .string (f.1)[k]) (by simp [h])
    have e2 : IntKind.i64.wrap ((k : Int) + 1) = ((k + 1 : Nat) : Int) := wadd k h (Nat.le_trans hv1 hv2)
    simp only [push_cast, ↓reduceIte, Nat.reduceEqDiff, Nat.reduceAdd, Nat.reduceMul, Nat.reduceSub, Nat.reduceLT, Nat.reduceLeDiff, reduceCtorEq, Nat.reduceMod, Int.reduceEq, Int.reduceLT, Int.reduceLE, Int.reduceToNat, dite_true, h', h0, ha]
    refine Eff.updateI keyStr rfl rfl ty122 rfl Tryd.underlying9 rfl rfl rfl (List.Perm.refl _) hm1' fun es2 cc2 hm2' => ?_
    simp only [push_cast, ↓reduceIte, Nat.reduceEqDiff, Nat.reduceAdd, Nat.reduceMul, Nat.reduceSub, Nat.reduceLT, Nat.reduceLeDiff, reduceCtorEq, Nat.reduceMod, Int.reduceEq, Int.reduceLT, Int.reduceLE, Int.reduceToNat, dite_true, e2]
    refine hG1 (k + 1, es2, cc2, _) _ ⟨by omega, hm2', (mput_keys hn1').1, fun x => ?_⟩ (by simp; omega) (by simp [subk, Eng.look]) (List.Sublist.refl _) rfl (subR_refl _)
    rw [mget_mput, List.take_succ_eq_append_getElem h, fo_snoc, hg1, List.length_take, Nat.min_eq_left (Nat.le_of_lt h)]
    by_cases hx : (f.1)[k] = x <;> simp [hx]
  rintro ⟨es0, cc0, kv0⟩ ⟨hm0', hn0', hg0⟩
  dsimp only at hm0' hn0' hg0 ⊢
  have c4 : F.cell ⟨bk, 1, none⟩ = some (i64v f.1.length) := by rw [cell_one h7]; rfl
  have c5 : F.cell ⟨bk, 2, none⟩ = some (i64v need.length) := by rw [cell_one h7]; rfl
  have c6 : F.cell ⟨bd, 0, none⟩ = some (.slice pd need.length cd) := by rw [cell_one h5]; rfl
  have hal : (f.1 ++ need).length = f.1.length + need.length := List.length_append
  refine VC.seq (VC.cutW (ι := Array MapEntry × Nat × List (ByteArray × Value)) (fun _ => [(5, .v (.map (some mb))), (0, .v (ptr bs)), (2, .v (ptr bf)), (3, .v (ptr bd)), (4, .v (ptr bk))]) (fun _ => [⟨0, sb, 70, schC vc vg (.slice (some ⟨g, 0, none⟩) s.infos.length cg) (.slice pn s.ins.length cn) mc mt vq s.big⟩]) (fun _ => F) (fun j => [PH.one mb (.map j.1 j.2.1), cell1 g 41 (csg.set (n * 4 + 3) (i64v s.ins.length)), rn, rq])
    (fun j => MapIs Value.string j.1 j.2.1 j.2.2 ∧ (j.2.2.map Prod.fst).Nodup ∧ ∀ s, mget j.2.2 s = (fo (f.1 ++ need) s).map i64v) (fun G hG => ?_) ?_)
  · refine VC.go 100 ?_
    simp only [push_cast, ↓reduceIte, Nat.reduceEqDiff, Nat.reduceAdd, Nat.reduceMul, Nat.reduceSub, Nat.reduceLT, Nat.reduceLeDiff, reduceCtorEq, Nat.reduceMod, Int.reduceEq, Int.reduceLT, Int.reduceLE, Int.reduceToNat, dite_true, add_own, c6]
    refine VC.loopW (ι := Nat × Array MapEntry × Nat × List (ByteArray × Value)) (fun j => [(39, .v (i64v j.1)), (38, .v (i64v need.length)), (37, .v (.slice pd need.length cd)), (5, .v (.map (some mb))), (0, .v (ptr bs)), (2, .v (ptr bf)), (3, .v (ptr bd)), (4, .v (ptr bk))]) (fun _ => [⟨0, sb, 70, schC vc vg (.slice (some ⟨g, 0, none⟩) s.infos.length cg) (.slice pn s.ins.length cn) mc mt vq s.big⟩]) (fun _ => F) (fun j => [PH.one mb (.map j.2.1 j.2.2.1), cell1 g 41 (csg.set (n * 4 + 3) (i64v s.ins.length)), rn, rq])
      (fun j => j.1 ≤ need.length ∧ MapIs Value.string j.2.1 j.2.2.1 j.2.2.2 ∧ (j.2.2.2.map Prod.fst).Nodup ∧ ∀ s, mget j.2.2.2 s = (fo (f.1 ++ need.take j.1) s).map i64v) (fun j => need.length - j.1) (0, es0, cc0, kv0) ⟨Nat.zero_le _, hm0', hn0', fun s => by simpa using hg0 s⟩ (by simp [subk, Eng.look]) (List.Sublist.refl _) rfl (subR_refl _) ?_
    rintro ⟨k, es1, cc1, kv1⟩ ⟨hk, hm1', hn1', hg1⟩ G1 hG1
    dsimp only at hk hm1' hn1' hg1 hG1 ⊢
    refine VC.go 100 ?_
    by_cases h : k < need.length
    case neg =>
      have h' : ¬ (k : Int) < (need.length : Int) := by omega
      simp only [push_cast, ↓reduceIte, Nat.reduceEqDiff, Nat.reduceAdd, Nat.reduceMul, Nat.reduceSub, Nat.reduceLT, Nat.reduceLeDiff, reduceCtorEq, Nat.reduceMod, Int.reduceEq, Int.reduceLT, Int.reduceLE, Int.reduceToNat, dite_true, h']
      rw [List.take_of_length_le (by omega)] at hg1
      exact hG (es1, cc1, kv1) _ ⟨hm1', hn1', hg1⟩ (by simp [subk, Eng.look]) (List.Sublist.refl _) rfl (subR_refl _)
    have h' : (k : Int) < (need.length : Int) := by omega
    have h0 : (0 : Int) ≤ (k : Int) := by omega
    obtain ⟨a, rfl, ha⟩ := hd3.elem1 (i := k) (v := .string need[k]) (by simp [h])
    have e2 : IntKind.i64.wrap ((k : Int) + 1) = ((k + 1 : Nat) : Int) := wadd k h (Nat.le_trans hd1 hd2)
    have e3 : IntKind.i64.wrap ((f.1.length : Int) + (k : Int)) = f.1.length + k := w64 _ (by omega)
    simp only [push_cast, ↓reduceIte, Nat.reduceEqDiff, Nat.reduceAdd, Nat.reduceMul, Nat.reduceSub, Nat.reduceLT, Nat.reduceLeDiff, reduceCtorEq, Nat.reduceMod, Int.reduceEq, Int.reduceLT, Int.reduceLE, Int.reduceToNat, dite_true, h', h0, ha, add_own, c4, e3]
    refine Eff.updateI keyStr rfl rfl ty122 rfl Tryd.underlying9 rfl rfl rfl (List.Perm.refl _) hm1' fun es2 cc2 hm2' => ?_
    simp only [push_cast, ↓reduceIte, Nat.reduceEqDiff, Nat.reduceAdd, Nat.reduceMul, Nat.reduceSub, Nat.reduceLT, Nat.reduceLeDiff, reduceCtorEq, Nat.reduceMod, Int.reduceEq, Int.reduceLT, Int.reduceLE, Int.reduceToNat, dite_true, e2]
    refine hG1 (k + 1, es2, cc2, _) _ ⟨by omega, hm2', (mput_keys hn1').1, fun x => ?_⟩ (by simp; omega) (by simp [subk, Eng.look]) (List.Sublist.refl _) rfl (subR_refl _)
    rw [mget_mput, List.take_succ_eq_append_getElem h, ← List.append_assoc, fo_snoc, hg1, List.length_append, List.length_take, Nat.min_eq_left (Nat.le_of_lt h)]
    by_cases hx : need[k] = x <;> simp [hx]
  rintro ⟨es1, cc1, kv1⟩ ⟨hm1', hn1', hg1⟩
  dsimp only at hm1' hn1' hg1 ⊢
  refine VC.freezeR (.refl _) fun F2 hF2 hle => ?_
  have hplc : Plc F2 (.map (some mb)) (f.1 ++ need) := ⟨_, ⟨mb, es1, cc1, kv1, rfl, hle _ _ (PH.one_self _ _), hm1', hn1', hg1⟩, fun _ _ => rfl⟩
  have e4 : IntKind.i64.wrap ((f.1.length : Int) + (need.length : Int)) = f.1.length + need.length := w64 _ (by omega)
  have c7 : F2.cells ⟨bf, 1, none⟩ 8 = some (expCells f.2 wa wb we wl) := hF2.cells (cells_sub (cells_blk h3 (n := 9) (by simp)) (o := 1) (m := 8) (by omega))
  refine VC.go 100 ?_
  simp only [push_cast, ↓reduceIte, Nat.reduceEqDiff, Nat.reduceAdd, Nat.reduceMul, Nat.reduceSub, Nat.reduceLT, Nat.reduceLeDiff, reduceCtorEq, Nat.reduceMod, Int.reduceEq, Int.reduceLT, Int.reduceLE, Int.reduceToNat, dite_true, add_own, hF2.cell c1, hF2.cell c4, hF2.cell c5, c7, e4]
  have hcall := exp_all C _ f.2 rfl F2 sb i vc vg mc mt _ _ _ _ _ _ _ (f.1 ++ need) _ _ _ _ _ (wx.mono hF2) hplc (hC.mono hF2) (hS1.mono hF2) hok ⟨by simp [setTo]; omega, by simp [setTo]; omega, by omega, fi4⟩
  rw [hal, Int.natCast_add] at hcall
  refine callS (Re := []) rfl rfl (.refl _) hcall fun v' F3 vi3 vn3 vq3 ri3 rn3 rq3 hF3 hS3 _ => ?_
  simp only [push_cast, ↓reduceIte, Nat.reduceEqDiff, Nat.reduceAdd, Nat.reduceMul, Nat.reduceSub, Nat.reduceLT, Nat.reduceLeDiff, reduceCtorEq, Nat.reduceMod, Int.reduceEq, Int.reduceLT, Int.reduceLE, Int.reduceToNat, dite_true]
  exact RetOk.r (vs := []) rfl (RetR.own (i := 0) rfl) ⟨vi3, vn3, vq3, ri3, rn3, rq3, rfl, hS3, trivial⟩
end Go.Proofs.YtoepmdbicdoieaaDoor.W
