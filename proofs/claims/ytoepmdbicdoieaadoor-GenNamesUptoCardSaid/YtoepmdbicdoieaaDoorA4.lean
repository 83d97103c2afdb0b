/- Names that are turned into others: the walk over expressions. (Written by gen/a4.py.) -/
import Derived.Test.YtoepmdbicdoieaaDoorA3
namespace Go.Proofs.YtoepmdbicdoieaaDoor.M
open Go Go.Eng Go.Proofs Go.Proofs.YtoepmdbicdoieaaDoor.T Go.Proofs.YtoepmdbicdoieaaDoor.K
set_option linter.unusedSimpArgs false
set_option linter.unusedVariables false
set_option maxRecDepth 100000
set_option maxHeartbeats 8000000
theorem exp_ok (e : Exp) (ih : ∀ e' : Exp, e'.size < e.size → ExpT e') : ExpT e := by
  intro F va w1 we wl hX hsz
  have hse := size_eq e
  have hal := sizeA_len e.atoms
  have hbinds := hX.binds
  have hkids := hX.kids
  have halts := hX.alts
  have hat := hX.atoms
  obtain ⟨pa, ca, pb, cb, pe, ce, pl, cl, rfl, rfl, rfl, rfl⟩ := hX.slices
  obtain ⟨_, _, eb, ha1, ha2, ha3⟩ := hat
  cases eb
  obtain ⟨_, _, eb, he1, he2⟩ := hkids.val
  cases eb
  obtain ⟨_, _, eb, hl1, hl2⟩ := halts.val
  cases eb
  refine Fn.intro (n := 105) (ts := [.cell 2 49]) Tryd.func28 rfl rfl rfl rfl (by simp) fun B hB => ?_
  refine VC.go 3 ?_
  simp only [push_cast, ↓reduceIte, Nat.reduceEqDiff, Nat.reduceAdd, Nat.reduceMul, Nat.reduceSub, Nat.reduceLT, Nat.reduceLeDiff, reduceCtorEq, Nat.reduceMod, Int.reduceEq, Int.reduceLT, Int.reduceLE, Int.reduceToNat, dite_true]
  intro b1 b2
  refine VC.drawT (fun S' => ∃ b3 F0 p5 c5, subk S'.L [(3, .o 2 b3 0), (2, .o 1 b2 0), (1, .o 0 b1 0)] ∧ S'.M = [⟨0, b1, 49, expCells e (.slice pa e.atoms.length ca) (.slice pb e.binds.length cb) (.slice pe e.kids.length ce) (.slice pl e.alts.length cl)⟩, ⟨1, b2, 49, [.int .i64 0, .int .i64 0, .string ⟨#[]⟩, .int .i64 0, .slice none 0 0, .slice none 0 0, .slice none 0 0, .slice none 0 0]⟩, ⟨2, b3, 49, [.int .i64 e.kind, .int .i64 e.at_, .string e.name, .int .i64 e.n, (.slice none 0 0), (.slice p5 (turnBs e.binds).length c5), (.slice none 0 0), (.slice none 0 0)]⟩] ∧ S'.F = F0 ∧ S'.R.Perm [] ∧ S'.nx = 3 ∧ F.le F0 ∧ SlE F0 11 (RBind F0) (.slice p5 (turnBs e.binds).length c5) (turnBs e.binds))
    (.q 0 (.q 1 (.q 2 (.q 3 (.q 4 (.q 5 (.q 6 (.q 7 (.q 8 (.q 9 (.e2 10 (.e2 11 (.e 12 (.e 13 (.done))) 12 (.e 11 (.e 13 (.done)))) 12 (.e 10 (.e 11 (.e 13 (.done))))))))))))))) mixed (by rfl) ?_ ?_
  · simp only [push_cast, ↓reduceIte, Nat.reduceEqDiff, Nat.reduceAdd, Nat.reduceMul, Nat.reduceSub, Nat.reduceLT, Nat.reduceLeDiff, reduceCtorEq, Nat.reduceMod, Int.reduceEq, Int.reduceLT, Int.reduceLE, Int.reduceToNat, dite_true]
    refine ⟨?_, fun b3 => ?_⟩
    · refine CallV.pure (binds e.binds (fun b hb => ih b.body (by have := sizeBs_mem hb; have := bsize_eq b; omega)) F _ hbinds (by omega)) ?_
      intro v5 F1 hF1 hsl5
      have hsl5' := hsl5
      obtain ⟨p5, c5, rfl, _, _⟩ := hsl5.val
      simp only [push_cast, ↓reduceIte, Nat.reduceEqDiff, Nat.reduceAdd, Nat.reduceMul, Nat.reduceSub, Nat.reduceLT, Nat.reduceLeDiff, reduceCtorEq, Nat.reduceMod, Int.reduceEq, Int.reduceLT, Int.reduceLE, Int.reduceToNat, dite_true]
      exact ⟨fun b3 => ⟨b3, F1, p5, c5, by simp [subk, Eng.look], rfl, rfl, .refl _, hF1, hsl5'⟩, fun b3 => ⟨b3, F1, p5, c5, by simp [subk, Eng.look], rfl, rfl, .refl _, hF1, hsl5'⟩⟩
    · refine CallV.pure (binds e.binds (fun b hb => ih b.body (by have := sizeBs_mem hb; have := bsize_eq b; omega)) F _ hbinds (by omega)) ?_
      intro v5 F1 hF1 hsl5
      have hsl5' := hsl5
      obtain ⟨p5, c5, rfl, _, _⟩ := hsl5.val
      simp only [push_cast, ↓reduceIte, Nat.reduceEqDiff, Nat.reduceAdd, Nat.reduceMul, Nat.reduceSub, Nat.reduceLT, Nat.reduceLeDiff, reduceCtorEq, Nat.reduceMod, Int.reduceEq, Int.reduceLT, Int.reduceLE, Int.reduceToNat, dite_true]
      exact ⟨b3, F1, p5, c5, by simp [subk, Eng.look], rfl, rfl, .refl _, hF1, hsl5'⟩
  rintro S' ⟨b3, F0, p5, c5, d1, d2, d3, d4, d5, hF0, hsl0⟩
  refine W.VC.fromT _ _ F0 [] d1 (by rw [d2]; exact List.Sublist.refl _) d3 d4 ?_
  rw [d5]
  refine VC.go 1 ?_
  refine VC.cutM (ι := ByteArray × PH) (fun i => [(3, .o 2 b3 0), (2, .o 1 b2 0), (1, .o 0 b1 0)]) (fun i => [⟨0, b1, 49, expCells e (.slice pa e.atoms.length ca) (.slice pb e.binds.length cb) (.slice pe e.kids.length ce) (.slice pl e.alts.length cl)⟩, ⟨1, b2, 49, [.int .i64 0, .int .i64 0, .string ⟨#[]⟩, .int .i64 0, .slice none 0 0, .slice none 0 0, .slice none 0 0, .slice none 0 0]⟩, ⟨2, b3, 49, [.int .i64 e.kind, .int .i64 e.at_, .string i.1, .int .i64 e.n, (.slice none 0 0), (.slice p5 (turnBs e.binds).length c5), (.slice none 0 0), (.slice none 0 0)]⟩]) (fun i => i.2) (fun i => F0.le i.2 ∧ i.1 = if e.kind = 1 then turn e.name else e.name) ?_ ?_
  · intro G hG
    refine VC.go 100 ?_
    by_cases g1 : e.kind = 1
    · simp only [push_cast, ↓reduceIte, Nat.reduceEqDiff, Nat.reduceAdd, Nat.reduceMul, Nat.reduceSub, Nat.reduceLT, Nat.reduceLeDiff, reduceCtorEq, Nat.reduceMod, Int.reduceEq, Int.reduceLT, Int.reduceLE, Int.reduceToNat, dite_true, eq_true g1]
      refine CallV.pure (turned F0 e.name (by omega)) ?_
      rintro _ F2 hF2 rfl
      simp only [push_cast, ↓reduceIte, Nat.reduceEqDiff, Nat.reduceAdd, Nat.reduceMul, Nat.reduceSub, Nat.reduceLT, Nat.reduceLeDiff, reduceCtorEq, Nat.reduceMod, Int.reduceEq, Int.reduceLT, Int.reduceLE, Int.reduceToNat, dite_true]
      exact hG (turn e.name, F2) _ ⟨hF2, by rw [if_pos g1]⟩ (by simp [subk, Eng.look]) (List.Sublist.refl _) rfl rfl
    · simp only [push_cast, ↓reduceIte, Nat.reduceEqDiff, Nat.reduceAdd, Nat.reduceMul, Nat.reduceSub, Nat.reduceLT, Nat.reduceLeDiff, reduceCtorEq, Nat.reduceMod, Int.reduceEq, Int.reduceLT, Int.reduceLE, Int.reduceToNat, dite_true, g1]
      exact hG (e.name, F0) _ ⟨PH.le_refl _, by rw [if_neg g1]⟩ (by simp [subk, Eng.look]) (List.Sublist.refl _) rfl rfl
  rintro ⟨nm, F1⟩ ⟨hF01, hnm⟩
  dsimp only at hF01 hnm ⊢
  have hF1 := PH.le_trans hF0 hF01
  refine VC.emp ?_
  refine VC.go 100 ?_
  simp only [push_cast, ↓reduceIte, Nat.reduceEqDiff, Nat.reduceAdd, Nat.reduceMul, Nat.reduceSub, Nat.reduceLT, Nat.reduceLeDiff, reduceCtorEq, Nat.reduceMod, Int.reduceEq, Int.reduceLT, Int.reduceLE, Int.reduceToNat, dite_true]
  refine VC.loopW (ι := Nat × Value × PH × PH) (fun i => [(4, .v (.int .i64 i.1)), (3, .o 2 b3 0), (2, .o 1 b2 0), (1, .o 0 b1 0)]) (fun i => [⟨0, b1, 49, expCells e (.slice pa e.atoms.length ca) (.slice pb e.binds.length cb) (.slice pe e.kids.length ce) (.slice pl e.alts.length cl)⟩, ⟨1, b2, 49, [.int .i64 0, .int .i64 0, .string ⟨#[]⟩, .int .i64 0, .slice none 0 0, .slice none 0 0, .slice none 0 0, .slice none 0 0]⟩, ⟨2, b3, 49, [.int .i64 e.kind, .int .i64 e.at_, .string nm, .int .i64 e.n, i.2.1, (.slice p5 (turnBs e.binds).length c5), (.slice none 0 0), (.slice none 0 0)]⟩]) (fun i => i.2.2.1) (fun i => [i.2.2.2]) (fun i => i.1 ≤ e.atoms.length ∧ F1.le i.2.2.1 ∧ Row i.2.2.2 146 2 i.2.1 (atomVals ((e.atoms.take i.1).map fun x => (turn x.1, x.2)))) (fun i => e.atoms.length - i.1) (0, .slice none 0 0, F1, PH.emp) ⟨Nat.zero_le _, PH.le_refl _, Row.nil _ _⟩ (by simp [subk, Eng.look]) (List.Sublist.refl _) rfl (subR_refl _) ?_
  rintro ⟨k, v4, F2, r4⟩ ⟨hk, hF2, hr4⟩ G hG
  dsimp only at hk hF2 hr4 hG ⊢
  have hFF2 := PH.le_trans hF1 hF2
  obtain ⟨p4, n4, c4, rfl⟩ := hr4.val
  refine VC.go 100 ?_
  by_cases h : k < e.atoms.length
  case pos =>
    have h' : (k : Int) < (e.atoms.length : Int) := by omega
    have h0 : (0 : Int) ≤ (k : Int) := by omega
    obtain ⟨a, rfl, ha⟩ := (ha3.mono hFF2).elem h (by decide)
    rw [atomVals_at _ _ h] at ha
    have k0 := cell_at ha (o := 0) rfl
    have k1 := cell_at ha (o := 1) rfl
    have e2 : IntKind.i64.wrap ((k : Int) + 1) = ((k + 1 : Nat) : Int) := wadd k h (Nat.le_trans ha1 ha2)
    have hms := mem_sizeA (List.getElem_mem h)
    simp only [push_cast, ↓reduceIte, Nat.reduceEqDiff, Nat.reduceAdd, Nat.reduceMul, Nat.reduceSub, Nat.reduceLT, Nat.reduceLeDiff, reduceCtorEq, Nat.reduceMod, Int.reduceEq, Int.reduceLT, Int.reduceLE, Int.reduceToNat, dite_true, h']
    refine VC.draw (.q 0 (.q 1 (.q 2 (.q 3 (.q 4 (.q 5 (.q 6 (.q 7 (.q 9 (.q 10 (.q 11 (.q 12 (.q 13 (.q 14 (.e 8 (.e 15 (.e 16 (.e 17 (.q 18 (.e 19 (.done))))))))))))))))))))) mixed (by rfl) ?_
    simp only [push_cast, ↓reduceIte, Nat.reduceEqDiff, Nat.reduceAdd, Nat.reduceMul, Nat.reduceSub, Nat.reduceLT, Nat.reduceLeDiff, reduceCtorEq, Nat.reduceMod, Int.reduceEq, Int.reduceLT, Int.reduceLE, Int.reduceToNat, dite_true, h', h0, k0, k1]
    refine CallV.pure (turned F2 (e.atoms[k]).1 (by omega)) ?_
    rintro _ F3 hF3 rfl
    simp only [push_cast, ↓reduceIte, Nat.reduceEqDiff, Nat.reduceAdd, Nat.reduceMul, Nat.reduceSub, Nat.reduceLT, Nat.reduceLeDiff, reduceCtorEq, Nat.reduceMod, Int.reduceEq, Int.reduceLT, Int.reduceLE, Int.reduceToNat, dite_true]
    intro b42 F4 hF4 hb42
    refine Eff.append (xs := atomVals ((e.atoms.take k).map fun x => (turn x.1, x.2))) (ys := [.string (turn (e.atoms[k]).1), .int .i64 (e.atoms[k]).2]) rfl rfl rfl ty45 rfl ty146 rfl (by decide) rfl rfl (List.Perm.refl _) hr4 (Src.blk hb42 rfl) (by simp [Value.oneCell']) (by
      have : ∀ l : List (ByteArray × Int), (atomVals l).length = 2 * l.length := fun l => by
        induction l with
        | nil => rfl
        | cons a l ih => simp only [atomVals, List.length_cons, ih]; omega
      rw [this]; simp; omega) (by decide) ?_
    intro v' r' hr'
    obtain ⟨p5, n5, c5, rfl⟩ := hr'.val
    simp only [push_cast, ↓reduceIte, Nat.reduceEqDiff, Nat.reduceAdd, Nat.reduceMul, Nat.reduceSub, Nat.reduceLT, Nat.reduceLeDiff, reduceCtorEq, Nat.reduceMod, Int.reduceEq, Int.reduceLT, Int.reduceLE, Int.reduceToNat, dite_true]
    refine VC.go 100 ?_
    simp only [push_cast, ↓reduceIte, Nat.reduceEqDiff, Nat.reduceAdd, Nat.reduceMul, Nat.reduceSub, Nat.reduceLT, Nat.reduceLeDiff, reduceCtorEq, Nat.reduceMod, Int.reduceEq, Int.reduceLT, Int.reduceLE, Int.reduceToNat, dite_true, e2]
    refine hG (k + 1, _, F4, r') _ ⟨by simp; omega, PH.le_trans hF2 (PH.le_trans hF3 hF4), ?_⟩ (by simp; omega) (by simp [subk, Eng.look]) (List.Sublist.refl _) rfl (subR_refl _)
    dsimp only
    have hav : ∀ (l : List (ByteArray × Int)) (x : ByteArray × Int), atomVals (l ++ [x]) = atomVals l ++ [.string x.1, .int .i64 x.2] := fun l x => by
      induction l with
      | nil => rfl
      | cons a l ih => simp only [List.cons_append, atomVals, ih]
    rw [List.take_succ_eq_append_getElem h, List.map_append, List.map_cons, List.map_nil, hav]
    exact hr'
  have h' : ¬ (k : Int) < (e.atoms.length : Int) := by omega
  rw [List.take_of_length_le (by omega)] at hr4
  clear hG
  simp only [push_cast, ↓reduceIte, Nat.reduceEqDiff, Nat.reduceAdd, Nat.reduceMul, Nat.reduceSub, Nat.reduceLT, Nat.reduceLeDiff, reduceCtorEq, Nat.reduceMod, Int.reduceEq, Int.reduceLT, Int.reduceLE, Int.reduceToNat, dite_true, h']
  have hsl5' := hsl0.mono (PH.le_trans hF01 hF2) (fun _ _ _ h => h.mono (PH.le_trans hF01 hF2))
  refine VC.emp ?_
  refine VC.loopW (ι := Nat × (Value × List Value) × PH × PH) (fun i => [(5, .v (.int .i64 i.1)), (3, .o 2 b3 0), (2, .o 1 b2 0), (1, .o 0 b1 0)]) (fun i => [⟨0, b1, 49, expCells e (.slice pa e.atoms.length ca) (.slice pb e.binds.length cb) (.slice pe e.kids.length ce) (.slice pl e.alts.length cl)⟩, ⟨1, b2, 49, [.int .i64 0, .int .i64 0, .string ⟨#[]⟩, .int .i64 0, .slice none 0 0, .slice none 0 0, .slice none 0 0, .slice none 0 0]⟩, ⟨2, b3, 49, [.int .i64 e.kind, .int .i64 e.at_, .string nm, .int .i64 e.n, (.slice p4 n4 c4), (.slice p5 (turnBs e.binds).length c5), i.2.1.1, (.slice none 0 0)]⟩]) (fun i => i.2.2.1) (fun i => [i.2.2.2, r4]) (fun i => i.1 ≤ e.kids.length ∧ F2.le i.2.2.1 ∧ Row i.2.2.2 49 8 i.2.1.1 i.2.1.2 ∧ Each (RExp i.2.2.1) (turnEs (e.kids.take i.1)) i.2.1.2) (fun i => e.kids.length - i.1) (0, (.slice none 0 0, []), F2, PH.emp) ⟨Nat.zero_le _, PH.le_refl _, Row.nil _ _, rfl⟩ (by simp [subk, Eng.look]) (List.Sublist.refl _) rfl (subR_refl _) ?_
  rintro ⟨j, ⟨v6, xs6⟩, F4, r6⟩ ⟨hj, hF4, hr6, hea6⟩ G1 hG1
  dsimp only at hj hF4 hr6 hea6 hG1 ⊢
  have hFF4 := PH.le_trans hFF2 hF4
  obtain ⟨p6, n6, c6, rfl⟩ := hr6.val
  refine VC.go 100 ?_
  by_cases h2 : j < e.kids.length
  case pos =>
    have h' : (j : Int) < (e.kids.length : Int) := by omega
    have h0 : (0 : Int) ≤ (j : Int) := by omega
    have e2 : IntKind.i64.wrap ((j : Int) + 1) = ((j + 1 : Nat) : Int) := wadd j h2 (Nat.le_trans he1 he2)
    obtain ⟨q, _, cs, eq, _, _, kl, kr⟩ := (hkids.mono (R' := RExp F4) hFF4 (fun _ _ _ h => h.mono hFF4)).elem (by decide) (i := j) (a := e.kids[j]) (List.getElem?_eq_getElem h2) (fun _ _ h => h.len)
    cases eq
    have hsm := sizeEs_mem (List.getElem_mem h2)
    have hxl : xs6.length = j * 8 := by
      have := Each.len (fun _ _ h => RExp.len h) hea6
      rw [this, turnEs_map, List.length_map, List.length_take, Nat.min_eq_left hj]
    have hkl := sizeEs_count e.kids
    obtain ⟨xa, xb, xe, xl, rfl, hx⟩ := RExp_iff.1 kr
    have hx' := hx
    obtain ⟨_, _, _, _, _, _, _, _, rfl, rfl, rfl, rfl⟩ := hx.slices
    simp only [push_cast, ↓reduceIte, Nat.reduceEqDiff, Nat.reduceAdd, Nat.reduceMul, Nat.reduceSub, Nat.reduceLT, Nat.reduceLeDiff, reduceCtorEq, Nat.reduceMod, Int.reduceEq, Int.reduceLT, Int.reduceLE, Int.reduceToNat, dite_true, h']
    refine VC.draw (.q 0 (.q 1 (.q 2 (.q 3 (.q 4 (.q 5 (.q 6 (.e 7 (.e 8 (.e 9 (.q 10 (.e 11 (.done))))))))))))) mixed (by rfl) ?_
    simp only [push_cast, ↓reduceIte, Nat.reduceEqDiff, Nat.reduceAdd, Nat.reduceMul, Nat.reduceSub, Nat.reduceLT, Nat.reduceLeDiff, reduceCtorEq, Nat.reduceMod, Int.reduceEq, Int.reduceLT, Int.reduceLE, Int.reduceToNat, dite_true, h', h0, kl]
    refine CallV.pure (ih e.kids[j] (by omega) F4 _ _ _ _ hx' (by omega)) ?_
    rintro _ F5 hF5 ⟨cs5, rfl, hcs5⟩
    obtain ⟨ya, yb, ye, yl, rfl, hy⟩ := RExp_iff.1 hcs5
    have hy' := hy
    obtain ⟨_, _, _, _, _, _, _, _, rfl, rfl, rfl, rfl⟩ := hy.slices
    simp only [push_cast, ↓reduceIte, Nat.reduceEqDiff, Nat.reduceAdd, Nat.reduceMul, Nat.reduceSub, Nat.reduceLT, Nat.reduceLeDiff, reduceCtorEq, Nat.reduceMod, Int.reduceEq, Int.reduceLT, Int.reduceLE, Int.reduceToNat, dite_true]
    intro b64 F6 hF6 hb64
    refine Eff.append (xs := xs6) (ys := expCells (turnE e.kids[j]) _ _ _ _) rfl rfl rfl ty46 rfl ty49 rfl (by decide) rfl rfl (List.Perm.refl _) hr6 (Src.blk hb64 rfl) (by simp [Value.oneCell']) (by simp; omega) (by decide) ?_
    intro v' r' hr'
    obtain ⟨p7, n7, c7, rfl⟩ := hr'.val
    simp only [push_cast, ↓reduceIte, Nat.reduceEqDiff, Nat.reduceAdd, Nat.reduceMul, Nat.reduceSub, Nat.reduceLT, Nat.reduceLeDiff, reduceCtorEq, Nat.reduceMod, Int.reduceEq, Int.reduceLT, Int.reduceLE, Int.reduceToNat, dite_true]
    refine VC.go 100 ?_
    simp only [push_cast, ↓reduceIte, Nat.reduceEqDiff, Nat.reduceAdd, Nat.reduceMul, Nat.reduceSub, Nat.reduceLT, Nat.reduceLeDiff, reduceCtorEq, Nat.reduceMod, Int.reduceEq, Int.reduceLT, Int.reduceLE, Int.reduceToNat, dite_true, e2]
    refine hG1 (j + 1, (_, _), F6, r') _ ⟨by simp; omega, PH.le_trans hF4 (PH.le_trans hF5 hF6), hr', ?_⟩ (by simp; omega) (by simp [subk, Eng.look]) (List.Sublist.refl _) rfl (subR_refl _)
    dsimp only
    rw [List.take_succ_eq_append_getElem h2, turnEs_map, List.map_append, ← turnEs_map]
    exact each_snoc (hea6.mono fun _ _ _ h => h.mono (PH.le_trans hF5 hF6)) (RExp_iff.2 ⟨_, _, _, _, rfl, hy'.mono hF6⟩)
  have h2' : ¬ (j : Int) < (e.kids.length : Int) := by omega
  rw [List.take_of_length_le (by omega)] at hea6
  clear hG1
  simp only [push_cast, ↓reduceIte, Nat.reduceEqDiff, Nat.reduceAdd, Nat.reduceMul, Nat.reduceSub, Nat.reduceLT, Nat.reduceLeDiff, reduceCtorEq, Nat.reduceMod, Int.reduceEq, Int.reduceLT, Int.reduceLE, Int.reduceToNat, dite_true, h2']
  refine VC.emp ?_
  refine VC.loopW (ι := Nat × (Value × List Value) × PH × PH) (fun i => [(6, .v (.int .i64 i.1)), (3, .o 2 b3 0), (2, .o 1 b2 0), (1, .o 0 b1 0)]) (fun i => [⟨0, b1, 49, expCells e (.slice pa e.atoms.length ca) (.slice pb e.binds.length cb) (.slice pe e.kids.length ce) (.slice pl e.alts.length cl)⟩, ⟨1, b2, 49, [.int .i64 0, .int .i64 0, .string ⟨#[]⟩, .int .i64 0, .slice none 0 0, .slice none 0 0, .slice none 0 0, .slice none 0 0]⟩, ⟨2, b3, 49, [.int .i64 e.kind, .int .i64 e.at_, .string nm, .int .i64 e.n, (.slice p4 n4 c4), (.slice p5 (turnBs e.binds).length c5), (.slice p6 n6 c6), i.2.1.1]⟩]) (fun i => i.2.2.1) (fun i => [i.2.2.2, r6, r4]) (fun i => i.1 ≤ e.alts.length ∧ F4.le i.2.2.1 ∧ Row i.2.2.2 148 13 i.2.1.1 i.2.1.2 ∧ Each (RAlt i.2.2.1) (turnLs (e.alts.take i.1)) i.2.1.2) (fun i => e.alts.length - i.1) (0, (.slice none 0 0, []), F4, PH.emp) ⟨Nat.zero_le _, PH.le_refl _, Row.nil _ _, rfl⟩ (by simp [subk, Eng.look]) (List.Sublist.refl _) rfl (subR_refl _) ?_
  rintro ⟨i, ⟨v7, xs7⟩, F5, r7⟩ ⟨hi, hF5, hr7, hea7⟩ G2 hG2
  dsimp only at hi hF5 hr7 hea7 hG2 ⊢
  have hFF5 := PH.le_trans hFF4 hF5
  obtain ⟨p7, n7, c7, rfl⟩ := hr7.val
  by_cases h3 : i < e.alts.length
  case neg =>
    have h3' : ¬ (i : Int) < (e.alts.length : Int) := by omega
    rw [List.take_of_length_le (by omega)] at hea7
    clear hG2
    refine VC.freezeR (List.Perm.refl _) fun F6 hF6 hr7F => ?_
    refine VC.freezeR (List.Perm.refl _) fun F7 hF7 hr6F => ?_
    refine VC.freezeR (List.Perm.refl _) fun F8 hF8 hr4F => ?_
    refine VC.go 100 ?_
    simp only [push_cast, ↓reduceIte, Nat.reduceEqDiff, Nat.reduceAdd, Nat.reduceMul, Nat.reduceSub, Nat.reduceLT, Nat.reduceLeDiff, reduceCtorEq, Nat.reduceMod, Int.reduceEq, Int.reduceLT, Int.reduceLE, Int.reduceToNat, dite_true, h3']
    refine ⟨[_], [], (by simp only [push_cast, ↓reduceIte, Nat.reduceEqDiff, Nat.reduceAdd, Nat.reduceMul, Nat.reduceSub, Nat.reduceLT, Nat.reduceLeDiff, reduceCtorEq, Nat.reduceMod, Int.reduceEq, Int.reduceLT, Int.reduceLE, Int.reduceToNat, dite_true, rvals, rval1]; rfl), .sub (List.nil_sublist _), rfl, ?_⟩
    refine ⟨_, rfl, ?_⟩
    have hF48 := PH.le_trans hF5 (PH.le_trans hF6 (PH.le_trans hF7 hF8))
    have hF58 := PH.le_trans hF6 (PH.le_trans hF7 hF8)
    have q4 : Sl F8 2 (.slice p4 n4 c4) (turnE e).atoms.length (atomVals (turnE e).atoms) := by
      obtain ⟨m, k1, k2⟩ := hr4.sl hr4F
      have hl4 : ∀ l : List (ByteArray × Int), (atomVals l).length = l.length * 2 := fun l => by
        induction l with
        | nil => rfl
        | cons a l ih => simp only [atomVals, List.length_cons, ih]; omega
      have e4 : (turnE e).atoms = e.atoms.map fun x => (turn x.1, x.2) := by cases e; rfl
      rw [e4]
      rw [hl4] at k1
      have hm : m = (e.atoms.map fun x => (turn x.1, x.2)).length := by omega
      rw [← hm]
      exact k2
    have q5 : SlE F8 11 (RBind F8) (.slice p5 (turnBs e.binds).length c5) (turnE e).binds := by
      have e5 : (turnE e).binds = turnBs e.binds := by cases e; rfl
      rw [e5]
      exact hsl5'.mono (PH.le_trans hF4 hF48) (fun _ _ _ h => h.mono (PH.le_trans hF4 hF48))
    have q6 : SlE F8 8 (RExp F8) (.slice p6 n6 c6) (turnE e).kids := by
      have e6 : (turnE e).kids = turnEs e.kids := by cases e; rfl
      rw [e6]
      exact row_sle (by decide) (fun _ _ h => RExp.len h) hr6 (hea6.mono fun _ _ _ h => h.mono hF48) (PH.le_trans hr6F hF8)
    have q7 : SlE F8 13 (RAlt F8) (.slice p7 n7 c7) (turnE e).alts := by
      have e7 : (turnE e).alts = turnLs e.alts := by cases e; rfl
      rw [e7]
      exact row_sle (by decide) (fun _ _ h => RAlt.len h) hr7 (hea7.mono fun _ _ _ h => h.mono hF58) (PH.le_trans hr7F (PH.le_trans hF7 hF8))
    refine RExp_iff.2 ⟨_, _, _, _, ?_, ⟨q4, q5, q6, q7⟩⟩
    have m1 : (turnE e).kind = e.kind := by cases e; rfl
    have m2 : (turnE e).at_ = e.at_ := by cases e; rfl
    have m3 : (turnE e).name = nm := by rw [hnm]; cases e; rfl
    have m4 : (turnE e).n = e.n := by cases e; rfl
    rw [expCells, m1, m2, m3, m4]
  have h' : (i : Int) < (e.alts.length : Int) := by omega
  have h0 : (0 : Int) ≤ (i : Int) := by omega
  have e2 : IntKind.i64.wrap ((i : Int) + 1) = ((i + 1 : Nat) : Int) := wadd i h3 (Nat.le_trans hl1 hl2)
  obtain ⟨q, _, cs, eq, _, _, kl, kr⟩ := (halts.mono (R' := RAlt F5) hFF5 (fun _ _ _ h => h.mono hFF5)).elem (by decide) (i := i) (a := e.alts[i]) (List.getElem?_eq_getElem h3) (fun _ _ h => h.len)
  cases eq
  have hsm := sizeLs_mem (List.getElem_mem h3)
  have hsa := asize_eq e.alts[i]
  have hal2 := sizeLs_count e.alts
  have htk0 : e.alts.take (i + 1) = e.alts.take i ++ [e.alts[i]] := List.take_succ_eq_append_getElem h3
  obtain ⟨a, hak⟩ : ∃ a, a = e.alts[i] := ⟨_, rfl⟩
  have htk : turnLs (e.alts.take (i + 1)) = turnLs (e.alts.take i) ++ [turnL a] := by rw [htk0, turnLs_map, turnLs_map, List.map_append, hak]; rfl
  rw [← hak] at hsm hsa kr
  have hxl : xs7.length = i * 13 := by
    have := Each.len (fun _ _ h => RAlt.len h) hea7
    rw [this, turnLs_map, List.length_map, List.length_take, Nat.min_eq_left hi]
  obtain ⟨wv, cc, rfl, hwv, hcc⟩ := RAlt_iff.1 kr
  obtain ⟨xa, xb, xe, xl, rfl, hx⟩ := RExp_iff.1 hcc
  have hwv' := hwv
  obtain ⟨pv, cv, rfl, _, _, _⟩ := hwv
  have hx' := hx
  obtain ⟨p1, c1', p2, c2', p3, c3', p8, c8', rfl, rfl, rfl, rfl⟩ := hx.slices
  refine VC.go 100 ?_
  have fin : ∀ (nm2 : ByteArray) (F6 : PH) (S1 : St), True := fun _ _ _ => trivial
  by_cases g3 : a.kind = 3
  · simp only [push_cast, ↓reduceIte, Nat.reduceEqDiff, Nat.reduceAdd, Nat.reduceMul, Nat.reduceSub, Nat.reduceLT, Nat.reduceLeDiff, reduceCtorEq, Nat.reduceMod, Int.reduceEq, Int.reduceLT, Int.reduceLE, Int.reduceToNat, dite_true, h', h0, kl, eq_true g3]
    intro b7
    refine CallV.pure (turned F5 a.name (by omega)) ?_
    rintro _ F6 hF6 rfl
    simp only [push_cast, ↓reduceIte, Nat.reduceEqDiff, Nat.reduceAdd, Nat.reduceMul, Nat.reduceSub, Nat.reduceLT, Nat.reduceLeDiff, reduceCtorEq, Nat.reduceMod, Int.reduceEq, Int.reduceLT, Int.reduceLE, Int.reduceToNat, dite_true]
    refine CallV.sl (turnedAll F6 _ a.vars (hwv'.mono hF6) (by omega)) ?_
    intro v3 F7 m3 hF7 hm3 hv3
    have hs3 := sl_strs hm3 hv3
    clear hm3 hv3
    have hs3' := hs3
    obtain ⟨pz, cz, rfl, _, _, _⟩ := hs3
    have hF57 := PH.le_trans hF6 hF7
    simp only [push_cast, ↓reduceIte, Nat.reduceEqDiff, Nat.reduceAdd, Nat.reduceMul, Nat.reduceSub, Nat.reduceLT, Nat.reduceLeDiff, reduceCtorEq, Nat.reduceMod, Int.reduceEq, Int.reduceLT, Int.reduceLE, Int.reduceToNat, dite_true]
    refine CallV.pure (ih a.body (by omega) F7 _ _ _ _ (hx'.mono hF57) (by omega)) ?_
    rintro _ F8 hF8 ⟨cs8, rfl, hcs8⟩
    obtain ⟨ya, yb, ye, yl, rfl, hy⟩ := RExp_iff.1 hcs8
    have hy' := hy
    obtain ⟨_, _, _, _, _, _, _, _, rfl, rfl, rfl, rfl⟩ := hy.slices
    simp only [push_cast, ↓reduceIte, Nat.reduceEqDiff, Nat.reduceAdd, Nat.reduceMul, Nat.reduceSub, Nat.reduceLT, Nat.reduceLeDiff, reduceCtorEq, Nat.reduceMod, Int.reduceEq, Int.reduceLT, Int.reduceLE, Int.reduceToNat, dite_true]
    intro b97 F9 hF9 hb97
    refine Eff.append (xs := xs7) (ys := .int .i64 a.kind :: .int .i64 a.at_ :: .string (turn a.name) :: .int .i64 a.n :: .slice pz (a.vars.map turn).length cz :: expCells (turnE a.body) _ _ _ _) rfl rfl rfl ty47 rfl ty148 rfl (by decide) rfl rfl (List.Perm.refl _) hr7 (Src.blk hb97 rfl) (by simp [Value.oneCell']) (by simp; omega) (by decide) ?_
    intro v' r' hr'
    obtain ⟨p9, n9, c9, rfl⟩ := hr'.val
    simp only [push_cast, ↓reduceIte, Nat.reduceEqDiff, Nat.reduceAdd, Nat.reduceMul, Nat.reduceSub, Nat.reduceLT, Nat.reduceLeDiff, reduceCtorEq, Nat.reduceMod, Int.reduceEq, Int.reduceLT, Int.reduceLE, Int.reduceToNat, dite_true, e2]
    have hF59 := PH.le_trans hF57 (PH.le_trans hF8 hF9)
    refine hG2 (i + 1, (_, _), F9, r') _ ⟨by simp; omega, PH.le_trans hF5 hF59, hr', ?_⟩ (by simp; omega) (by simp [subk, Eng.look]) (by simp) rfl (subR_refl _)
    dsimp only
    rw [htk]
    exact each_snoc (hea7.mono fun _ _ _ h => h.mono hF59) (alt_turned (by first | exact (if_pos g3).symm | exact (if_neg g3).symm) (hs3'.mono (PH.le_trans hF8 hF9)) (hy'.mono hF9))
  · simp only [push_cast, ↓reduceIte, Nat.reduceEqDiff, Nat.reduceAdd, Nat.reduceMul, Nat.reduceSub, Nat.reduceLT, Nat.reduceLeDiff, reduceCtorEq, Nat.reduceMod, Int.reduceEq, Int.reduceLT, Int.reduceLE, Int.reduceToNat, dite_true, h', h0, kl, g3]
    intro b7
    refine CallV.sl (turnedAll F5 _ a.vars hwv' (by omega)) ?_
    intro v3 F7 m3 hF7 hm3 hv3
    have hs3 := sl_strs hm3 hv3
    clear hm3 hv3
    have hs3' := hs3
    obtain ⟨pz, cz, rfl, _, _, _⟩ := hs3
    have hF57 := hF7
    simp only [push_cast, ↓reduceIte, Nat.reduceEqDiff, Nat.reduceAdd, Nat.reduceMul, Nat.reduceSub, Nat.reduceLT, Nat.reduceLeDiff, reduceCtorEq, Nat.reduceMod, Int.reduceEq, Int.reduceLT, Int.reduceLE, Int.reduceToNat, dite_true]
    refine CallV.pure (ih a.body (by omega) F7 _ _ _ _ (hx'.mono hF57) (by omega)) ?_
    rintro _ F8 hF8 ⟨cs8, rfl, hcs8⟩
    obtain ⟨ya, yb, ye, yl, rfl, hy⟩ := RExp_iff.1 hcs8
    have hy' := hy
    obtain ⟨_, _, _, _, _, _, _, _, rfl, rfl, rfl, rfl⟩ := hy.slices
    simp only [push_cast, ↓reduceIte, Nat.reduceEqDiff, Nat.reduceAdd, Nat.reduceMul, Nat.reduceSub, Nat.reduceLT, Nat.reduceLeDiff, reduceCtorEq, Nat.reduceMod, Int.reduceEq, Int.reduceLT, Int.reduceLE, Int.reduceToNat, dite_true]
    intro b97 F9 hF9 hb97
    refine Eff.append (xs := xs7) (ys := .int .i64 a.kind :: .int .i64 a.at_ :: .string (a.name) :: .int .i64 a.n :: .slice pz (a.vars.map turn).length cz :: expCells (turnE a.body) _ _ _ _) rfl rfl rfl ty47 rfl ty148 rfl (by decide) rfl rfl (List.Perm.refl _) hr7 (Src.blk hb97 rfl) (by simp [Value.oneCell']) (by simp; omega) (by decide) ?_
    intro v' r' hr'
    obtain ⟨p9, n9, c9, rfl⟩ := hr'.val
    simp only [push_cast, ↓reduceIte, Nat.reduceEqDiff, Nat.reduceAdd, Nat.reduceMul, Nat.reduceSub, Nat.reduceLT, Nat.reduceLeDiff, reduceCtorEq, Nat.reduceMod, Int.reduceEq, Int.reduceLT, Int.reduceLE, Int.reduceToNat, dite_true, e2]
    have hF59 := PH.le_trans hF57 (PH.le_trans hF8 hF9)
    refine hG2 (i + 1, (_, _), F9, r') _ ⟨by simp; omega, PH.le_trans hF5 hF59, hr', ?_⟩ (by simp; omega) (by simp [subk, Eng.look]) (by simp) rfl (subR_refl _)
    dsimp only
    rw [htk]
    exact each_snoc (hea7.mono fun _ _ _ h => h.mono hF59) (alt_turned (by first | exact (if_pos g3).symm | exact (if_neg g3).symm) (hs3'.mono (PH.le_trans hF8 hF9)) (hy'.mono hF9))
theorem exp_all (n : Nat) : ∀ e : Exp, e.size = n → ExpT e := by
  induction n using Nat.strongRecOn with
  | _ n ih =>
    intro e he
    exact exp_ok e fun e' h => ih e'.size (by omega) e' rfl
end Go.Proofs.YtoepmdbicdoieaaDoor.M
