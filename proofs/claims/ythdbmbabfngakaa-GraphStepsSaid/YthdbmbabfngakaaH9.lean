/- Graphs: the same graphs, by definition. -/
import Derived.Test.YthdbmbabfngakaaH8
namespace Go.Proofs.Ythdbmbabfngakaa.G
open Go Go.Eng Go.Proofs Go.Proofs.Ythdbmbabfngakaa.T Go.Proofs.Ythdbmbabfngakaa.K
set_option linter.unusedSimpArgs false
set_option linter.unusedVariables false
set_option maxRecDepth 100000
set_option maxHeartbeats 4000000
theorem sameGrR (F : PH) (ar av br bv : Value) (a b : Gr) (ha0 : Ints F ar a.roots) (hb0 : Ints F br b.roots) (ha : Nodes F av a.nodes) (hb : Nodes F bv b.nodes) :
    PFn Try.prog 10 [.agg #[ar, av], .agg #[br, bv]] F (fun v _ => v = .bool (sameGr a b)) := by
  have ha' := ha
  have hb' := hb
  have ha0' := ha0
  have hb0' := hb0
  obtain ⟨pa, ca, rfl, hc1, hc2⟩ := ha.val
  obtain ⟨pb, cb, rfl, _, _⟩ := hb.val
  obtain ⟨pr, cr, rfl, _⟩ := ha0
  obtain ⟨ps, cs, rfl, _⟩ := hb0
  refine Fn.intro (n := 92) (ts := [4]) Try.func10 rfl rfl rfl rfl (by simp) fun B hB => VC.go 3 ?_
  simp only [push_cast, ↓reduceIte, Nat.reduceEqDiff, Nat.reduceAdd, Nat.reduceMul, Nat.reduceSub, Nat.reduceLT, Nat.reduceLeDiff, reduceCtorEq, Nat.reduceMod, Int.reduceEq, Int.reduceLT, Int.reduceLE, Int.reduceToNat, dite_true]
  intro b2 b3
  refine VC.freeze (m := ⟨0, b2, 25, [.slice pr a.roots.length cr, .slice pa a.nodes.length ca]⟩) (M := [⟨1, b3, 25, [.slice ps b.roots.length cs, .slice pb b.nodes.length cb]⟩]) (List.Perm.refl _) fun F1 hF1 hb2 => ?_
  refine VC.freeze (m := ⟨1, b3, 25, [.slice ps b.roots.length cs, .slice pb b.nodes.length cb]⟩) (M := []) (List.Perm.refl _) fun F2 hF2 hb3 => ?_
  have hb2' := hF2 _ _ hb2
  have hF := PH.le_trans hF1 hF2
  refine VC.reL [(4, .v (.bool false)), (3, .v (.pointer (some ⟨b3, 0, none⟩))), (2, .v (.pointer (some ⟨b2, 0, none⟩)))] (by simp [subv, Eng.look, AV.val]) (VC.go 100 ?_)
  have k2 : ∀ F', F2.le F' → F'.cells ⟨b2, 0, none⟩ 2 = some [.slice pr a.roots.length cr, .slice pa a.nodes.length ca] := fun F' h => h.cells (cells_blk hb2' rfl)
  have k3 : ∀ F', F2.le F' → F'.cells ⟨b3, 0, none⟩ 2 = some [.slice ps b.roots.length cs, .slice pb b.nodes.length cb] := fun F' h => h.cells (cells_blk hb3 rfl)
  have q20 := cell_at (k2 F2 (PH.le_refl _)) (o := 0) rfl
  have q21 := cell_at (k2 F2 (PH.le_refl _)) (o := 1) rfl
  have q30 := cell_at (k3 F2 (PH.le_refl _)) (o := 0) rfl
  have q31 := cell_at (k3 F2 (PH.le_refl _)) (o := 1) rfl
  rw [add_own] at q20 q21 q30 q31
  have l2 := k2 F2 (PH.le_refl _)
  have l3 := k3 F2 (PH.le_refl _)
  by_cases hl : a.nodes.length = b.nodes.length
  case neg =>
    have hl' : ¬ (a.nodes.length : Int) = (b.nodes.length : Int) := by omega
    rw [sameGr, decide_eq_false hl]
    simp only [push_cast, ↓reduceIte, Nat.reduceEqDiff, Nat.reduceAdd, Nat.reduceMul, Nat.reduceSub, Nat.reduceLT, Nat.reduceLeDiff, reduceCtorEq, Nat.reduceMod, Int.reduceEq, Int.reduceLT, Int.reduceLE, Int.reduceToNat, dite_true, add_own, q20, q21, q30, q31, hl']
    exact RetOk.p rfl rfl
  have hl' : (a.nodes.length : Int) = (b.nodes.length : Int) := by omega
  simp only [push_cast, ↓reduceIte, Nat.reduceEqDiff, Nat.reduceAdd, Nat.reduceMul, Nat.reduceSub, Nat.reduceLT, Nat.reduceLeDiff, reduceCtorEq, Nat.reduceMod, Int.reduceEq, Int.reduceLT, Int.reduceLE, Int.reduceToNat, dite_true, add_own, q20, q21, q30, q31, l2, l3, eq_true hl']
  refine CallV.pure (sameR F2 _ _ _ _ _ _ a.nodes b.nodes a.roots b.roots rfl rfl (ha'.mono hF) (hb'.mono hF) (ha0'.mono hF) (hb0'.mono hF)) ?_
  rintro _ F3 hF3 rfl
  by_cases hr : sameN a.nodes.length b.nodes.length a.roots b.roots = true
  case neg =>
    have hr' : sameN a.nodes.length b.nodes.length a.roots b.roots = false := by simpa using hr
    rw [sameGr, hr']
    simp only [push_cast, ↓reduceIte, Nat.reduceEqDiff, Nat.reduceAdd, Nat.reduceMul, Nat.reduceSub, Nat.reduceLT, Nat.reduceLeDiff, reduceCtorEq, Nat.reduceMod, Int.reduceEq, Int.reduceLT, Int.reduceLE, Int.reduceToNat, dite_true, hr', Bool.and_false, Bool.false_and]
    exact RetOk.p rfl rfl
  simp only [push_cast, ↓reduceIte, Nat.reduceEqDiff, Nat.reduceAdd, Nat.reduceMul, Nat.reduceSub, Nat.reduceLT, Nat.reduceLeDiff, reduceCtorEq, Nat.reduceMod, Int.reduceEq, Int.reduceLT, Int.reduceLE, Int.reduceToNat, dite_true, hr]
  refine VC.loopM (ι := Nat × PH) (fun i => [(5, .v (.int .i64 i.1)), (3, .v (.pointer (some ⟨b3, 0, none⟩))), (2, .v (.pointer (some ⟨b2, 0, none⟩)))]) (fun _ => []) (fun i => i.2) (fun i => i.1 ≤ a.nodes.length ∧ F3.le i.2 ∧ (((a.nodes.zip b.nodes).take i.1).all fun p => sameNd a.nodes.length b.nodes.length p.1 p.2) = true) (fun i => a.nodes.length - i.1) (0, F3) ⟨Nat.zero_le _, PH.le_refl _, rfl⟩ (by simp [subk, Eng.look]) (List.Sublist.refl _) rfl ?_
  rintro ⟨i, F4⟩ ⟨hi, hF4, ht⟩ G hG
  dsimp only at hi hF4 ht hG ⊢
  have hF24 := PH.le_trans hF3 hF4
  have k21 := cell_at (k2 F4 hF24) (o := 1) rfl
  have k31 := cell_at (k3 F4 hF24) (o := 1) rfl
  rw [add_own] at k21 k31
  refine VC.go 100 ?_
  by_cases h : i < a.nodes.length
  case neg =>
    have h' : ¬ (i : Int) < (a.nodes.length : Int) := by omega
    rw [List.take_of_length_le (by simp; omega)] at ht
    rw [sameGr, decide_eq_true hl, hr, ht]
    simp only [push_cast, ↓reduceIte, Nat.reduceEqDiff, Nat.reduceAdd, Nat.reduceMul, Nat.reduceSub, Nat.reduceLT, Nat.reduceLeDiff, reduceCtorEq, Nat.reduceMod, Int.reduceEq, Int.reduceLT, Int.reduceLE, Int.reduceToNat, dite_true, add_own, k21, h']
    exact RetOk.p rfl rfl
  have hj : i < b.nodes.length := by omega
  have h' : (i : Int) < (a.nodes.length : Int) := by omega
  have h'' : (i : Int) < (b.nodes.length : Int) := by omega
  have h0 : (0 : Int) ≤ (i : Int) := by omega
  have e2 : IntKind.i64.wrap ((i : Int) + 1) = ((i + 1 : Nat) : Int) := wadd i h (Nat.le_trans hc1 hc2)
  have hFF := PH.le_trans hF hF24
  obtain ⟨q, _, cs1, eq, _, _, kl, kr⟩ := (ha'.mono hFF).elem (by decide) (i := i) (a := a.nodes[i]) (List.getElem?_eq_getElem h) RNd.len
  cases eq
  obtain ⟨q', _, cs2, eq, _, _, kl', kr'⟩ := (hb'.mono hFF).elem (by decide) (i := i) (a := b.nodes[i]) (List.getElem?_eq_getElem hj) RNd.len
  cases eq
  obtain ⟨vn, vk, rfl, hn, hk⟩ := kr
  obtain ⟨vn', vk', rfl, hn', hk'⟩ := kr'
  obtain ⟨x, hx⟩ : ∃ x, x = a.nodes[i] := ⟨_, rfl⟩
  obtain ⟨y, hy⟩ : ∃ y, y = b.nodes[i] := ⟨_, rfl⟩
  have fin : sameNd a.nodes.length b.nodes.length x y = false → sameGr a b = false := fun e => by
    rw [hx, hy] at e
    rw [sameGr, zip_no (f := fun p => sameNd a.nodes.length b.nodes.length p.1 p.2) h hj e, Bool.and_false]
  have hz := zip_at h hj (fun p => sameNd a.nodes.length b.nodes.length p.1 p.2)
  rw [← hx] at kl hn hk
  rw [← hy] at kl' hn' hk'
  rw [← hx, ← hy] at hz
  have hn1 := hn
  have hk1 := hk
  have hn2 := hn'
  have hk2 := hk'
  obtain ⟨pn1, cn1, rfl, hn11, hn12, hn13⟩ := hn1
  obtain ⟨pk1, ck1, rfl, _⟩ := hk1
  obtain ⟨pn2, cn2, rfl, hn21, hn22, hn23⟩ := hn2
  obtain ⟨pk2, ck2, rfl, _⟩ := hk2
  simp only [push_cast, ↓reduceIte, Nat.reduceEqDiff, Nat.reduceAdd, Nat.reduceMul, Nat.reduceSub, Nat.reduceLT, Nat.reduceLeDiff, reduceCtorEq, Nat.reduceMod, Int.reduceEq, Int.reduceLT, Int.reduceLE, Int.reduceToNat, dite_true, add_own, k21, h']
  refine VC.drawT (fun S => ∃ i6 i7 b6 b7, S.F = F4 ∧ S.R = [] ∧ subk S.L [(7, .o i7 b7 0), (6, .o i6 b6 0), (5, .v (.int .i64 i)), (3, .v (.pointer (some ⟨b3, 0, none⟩))), (2, .v (.pointer (some ⟨b2, 0, none⟩)))] ∧ S.M.Perm [⟨i6, b6, 34, [.int .i64 x.kind, .int .i64 x.info, .slice pn1 x.nons.length cn1, .slice pk1 x.kids.length ck1]⟩, ⟨i7, b7, 34, [.int .i64 y.kind, .int .i64 y.info, .slice pn2 y.nons.length cn2, .slice pk2 y.kids.length ck2]⟩]) (.q 0 (.q 1 (.q 2 (.q 3 (.q 4 (.q 5 (.q 6 (.q 7 (.q 8 (.q 9 (.e2 10 (.e 11 (.es 12 [5, 6, 7, 8, 9] (.e 13 (.done)))) 11 (.e 10 (.es 12 [5, 6, 7, 8, 9] (.e 13 (.done))))))))))))))) mixed (by rfl) ?_ ?_
  · simp only [push_cast, ↓reduceIte, Nat.reduceEqDiff, Nat.reduceAdd, Nat.reduceMul, Nat.reduceSub, Nat.reduceLT, Nat.reduceLeDiff, reduceCtorEq, Nat.reduceMod, Int.reduceEq, Int.reduceLT, Int.reduceLE, Int.reduceToNat, dite_true, add_own, k21, k31, h', h'', h0, kl, kl']
    exact ⟨fun b6 b7 => ⟨_, _, b6, b7, by simp [subk, Eng.look], List.Perm.refl _⟩, fun b7 b6 => ⟨_, _, b6, b7, by simp [subk, Eng.look], List.Perm.swap _ _ _⟩⟩
  rintro S ⟨i6, i7, b6, b7, hSF, hSR, hL, hM⟩
  obtain ⟨L, M, F', R, nx⟩ := S
  subst hSF hSR
  refine VC.weaken (S' := ⟨[(7, .o i7 b7 0), (6, .o i6 b6 0), (5, .v (.int .i64 i)), (3, .v (.pointer (some ⟨b3, 0, none⟩))), (2, .v (.pointer (some ⟨b2, 0, none⟩)))], M, F', [], 0⟩) ⟨subk_le hL, List.Sublist.refl _, rfl, List.Sublist.refl _⟩ ?_
  refine VC.freeze hM fun F5 hF5 hb6 => ?_
  refine VC.freeze (List.Perm.refl _) fun F6 hF6 hb7 => ?_
  have hb6' := hF6 _ _ hb6
  have hF46 := PH.le_trans hF5 hF6
  dsimp only at hb6' hb7
  refine VC.reL [(7, .v (.pointer (some ⟨b7, 0, none⟩))), (6, .v (.pointer (some ⟨b6, 0, none⟩))), (5, .v (.int .i64 i)), (3, .v (.pointer (some ⟨b3, 0, none⟩))), (2, .v (.pointer (some ⟨b2, 0, none⟩)))] (by simp [subv, Eng.look, AV.val]) (VC.go 100 ?_)
  have c6 : ∀ F' o v, F6.le F' → [Value.int .i64 x.kind, .int .i64 x.info, .slice pn1 x.nons.length cn1, .slice pk1 x.kids.length ck1][o]? = some v → F'.cell ⟨b6, o, none⟩ = some v := fun F' o v hl e => by
    rw [cell_one (hl _ _ hb6')]; simpa using e
  have c7 : ∀ F' o v, F6.le F' → [Value.int .i64 y.kind, .int .i64 y.info, .slice pn2 y.nons.length cn2, .slice pk2 y.kids.length ck2][o]? = some v → F'.cell ⟨b7, o, none⟩ = some v := fun F' o v hl e => by
    rw [cell_one (hl _ _ hb7)]; simpa using e
  have c60 := c6 F6 0 _ (PH.le_refl _) rfl
  have c61 := c6 F6 1 _ (PH.le_refl _) rfl
  have c62 := c6 F6 2 _ (PH.le_refl _) rfl
  have c63 := c6 F6 3 _ (PH.le_refl _) rfl
  have c70 := c7 F6 0 _ (PH.le_refl _) rfl
  have c71 := c7 F6 1 _ (PH.le_refl _) rfl
  have c72 := c7 F6 2 _ (PH.le_refl _) rfl
  have c73 := c7 F6 3 _ (PH.le_refl _) rfl
  have hF26 := PH.le_trans hF24 hF46
  have hF6a := PH.le_trans hF hF26
  have l2 := k2 F6 hF26
  have l3 := k3 F6 hF26
  by_cases g1 : x.kind = y.kind
  case neg =>
    rw [fin (by simp [sameNd, g1])]
    simp only [push_cast, ↓reduceIte, Nat.reduceEqDiff, Nat.reduceAdd, Nat.reduceMul, Nat.reduceSub, Nat.reduceLT, Nat.reduceLeDiff, reduceCtorEq, Nat.reduceMod, Int.reduceEq, Int.reduceLT, Int.reduceLE, Int.reduceToNat, dite_true, add_own, c60, c70, g1]
    exact RetOk.p rfl rfl
  by_cases g2 : x.info = y.info
  case neg =>
    rw [fin (by simp [sameNd, g2])]
    simp only [push_cast, ↓reduceIte, Nat.reduceEqDiff, Nat.reduceAdd, Nat.reduceMul, Nat.reduceSub, Nat.reduceLT, Nat.reduceLeDiff, reduceCtorEq, Nat.reduceMod, Int.reduceEq, Int.reduceLT, Int.reduceLE, Int.reduceToNat, dite_true, add_own, c60, c70, c61, c71, eq_true g1, g2]
    exact RetOk.p rfl rfl
  by_cases g3 : x.nons.length = y.nons.length
  case neg =>
    have g3' : ¬ (x.nons.length : Int) = (y.nons.length : Int) := by omega
    rw [fin (by simp [sameNd, show x.nons ≠ y.nons from fun e => g3 (by rw [e])])]
    simp only [push_cast, ↓reduceIte, Nat.reduceEqDiff, Nat.reduceAdd, Nat.reduceMul, Nat.reduceSub, Nat.reduceLT, Nat.reduceLeDiff, reduceCtorEq, Nat.reduceMod, Int.reduceEq, Int.reduceLT, Int.reduceLE, Int.reduceToNat, dite_true, add_own, c60, c70, c61, c71, c62, c72, eq_true g1, eq_true g2, g3']
    exact RetOk.p rfl rfl
  have g3' : (x.nons.length : Int) = (y.nons.length : Int) := by omega
  simp only [push_cast, ↓reduceIte, Nat.reduceEqDiff, Nat.reduceAdd, Nat.reduceMul, Nat.reduceSub, Nat.reduceLT, Nat.reduceLeDiff, reduceCtorEq, Nat.reduceMod, Int.reduceEq, Int.reduceLT, Int.reduceLE, Int.reduceToNat, dite_true, add_own, c60, c70, c61, c71, c62, c72, c63, c73, l2, l3, eq_true g1, eq_true g2, eq_true g3']
  refine CallV.pure (sameR F6 _ _ _ _ _ _ a.nodes b.nodes x.kids y.kids rfl rfl (ha'.mono hF6a) (hb'.mono hF6a) (hk.mono hF46) (hk'.mono hF46)) ?_
  rintro _ F7 hF7 rfl
  by_cases g4 : sameN a.nodes.length b.nodes.length x.kids y.kids = true
  case neg =>
    have g4' : sameN a.nodes.length b.nodes.length x.kids y.kids = false := by simpa using g4
    rw [fin (by simp [sameNd, g4'])]
    simp only [push_cast, ↓reduceIte, Nat.reduceEqDiff, Nat.reduceAdd, Nat.reduceMul, Nat.reduceSub, Nat.reduceLT, Nat.reduceLeDiff, reduceCtorEq, Nat.reduceMod, Int.reduceEq, Int.reduceLT, Int.reduceLE, Int.reduceToNat, dite_true, g4']
    exact RetOk.p rfl rfl
  simp only [push_cast, ↓reduceIte, Nat.reduceEqDiff, Nat.reduceAdd, Nat.reduceMul, Nat.reduceSub, Nat.reduceLT, Nat.reduceLeDiff, reduceCtorEq, Nat.reduceMod, Int.reduceEq, Int.reduceLT, Int.reduceLE, Int.reduceToNat, dite_true, g4]
  have c62 := c6 F7 2 _ hF7 rfl
  have c72 := c7 F7 2 _ hF7 rfl
  refine VC.loopM (ι := Nat) (fun j => [(8, .v (.int .i64 j)), (7, .v (.pointer (some ⟨b7, 0, none⟩))), (6, .v (.pointer (some ⟨b6, 0, none⟩))), (5, .v (.int .i64 i)), (3, .v (.pointer (some ⟨b3, 0, none⟩))), (2, .v (.pointer (some ⟨b2, 0, none⟩)))]) (fun _ => []) (fun _ => F7) (fun j => j ≤ x.nons.length ∧ x.nons.take j = y.nons.take j) (fun j => x.nons.length - j) 0 ⟨Nat.zero_le _, rfl⟩ (by simp [subk, Eng.look]) (List.Sublist.refl _) rfl ?_
  rintro j ⟨hj1, ht1⟩ G1 hG1
  dsimp only at hG1 ⊢
  refine VC.go 100 ?_
  by_cases hjj : j < x.nons.length
  case neg =>
    have hjj' : ¬ (j : Int) < (x.nons.length : Int) := by omega
    rw [List.take_of_length_le (by omega), List.take_of_length_le (by omega)] at ht1
    simp only [push_cast, ↓reduceIte, Nat.reduceEqDiff, Nat.reduceAdd, Nat.reduceMul, Nat.reduceSub, Nat.reduceLT, Nat.reduceLeDiff, reduceCtorEq, Nat.reduceMod, Int.reduceEq, Int.reduceLT, Int.reduceLE, Int.reduceToNat, dite_true, add_own, c62, hjj', e2]
    refine hG (i + 1, F7) _ ⟨h, PH.le_trans hF4 (PH.le_trans hF46 hF7), ?_⟩ (by simp; omega) (by simp [subk, Eng.look]) (List.Sublist.refl _) rfl rfl
    dsimp only
    rw [hz, ht]
    simp [sameNd, g1, g2, ht1, g4]
  have hjy : j < y.nons.length := by omega
  have j1 : (j : Int) < (x.nons.length : Int) := by omega
  have j2 : (j : Int) < (y.nons.length : Int) := by omega
  have j0 : (0 : Int) ≤ (j : Int) := by omega
  have ej : IntKind.i64.wrap ((j : Int) + 1) = ((j + 1 : Nat) : Int) := wadd j hjj (Nat.le_trans hn11 hn12)
  have hF47 := PH.le_trans hF46 hF7
  obtain ⟨qn1, rfl, hqn1⟩ := (hn13.mono hF47).elem1 (i := j) (v := .int .u64 x.nons[j]) (by simp [hjj])
  obtain ⟨qn2, rfl, hqn2⟩ := (hn23.mono hF47).elem1 (i := j) (v := .int .u64 y.nons[j]) (by simp [hjy])
  simp only [push_cast, ↓reduceIte, Nat.reduceEqDiff, Nat.reduceAdd, Nat.reduceMul, Nat.reduceSub, Nat.reduceLT, Nat.reduceLeDiff, reduceCtorEq, Nat.reduceMod, Int.reduceEq, Int.reduceLT, Int.reduceLE, Int.reduceToNat, dite_true, add_own, c62, j1]
  refine VC.draw (.q 0 (.q 1 (.q 2 (.q 3 (.q 4 (.q 5 (.q 6 (.q 7 (.q 8 (.q 9 (.q 10 (.done)))))))))))) mixed (by rfl) ?_
  by_cases g : x.nons[j] = y.nons[j]
  · simp only [push_cast, ↓reduceIte, Nat.reduceEqDiff, Nat.reduceAdd, Nat.reduceMul, Nat.reduceSub, Nat.reduceLT, Nat.reduceLeDiff, reduceCtorEq, Nat.reduceMod, Int.reduceEq, Int.reduceLT, Int.reduceLE, Int.reduceToNat, dite_true, add_own, c62, c72, j1, j2, j0, hqn1, hqn2, eq_true g]
    refine VC.go 100 ?_
    simp only [push_cast, ↓reduceIte, Nat.reduceEqDiff, Nat.reduceAdd, Nat.reduceMul, Nat.reduceSub, Nat.reduceLT, Nat.reduceLeDiff, reduceCtorEq, Nat.reduceMod, Int.reduceEq, Int.reduceLT, Int.reduceLE, Int.reduceToNat, dite_true, ej]
    exact hG1 (j + 1) _ ⟨hjj, by rw [List.take_succ_eq_append_getElem hjj, List.take_succ_eq_append_getElem hjy, ht1, g]⟩ (by omega) (by simp [subk, Eng.look]) (List.Sublist.refl _) rfl rfl
  · rw [fin (by simp [sameNd, show x.nons ≠ y.nons from fun e => g (by simp only [e])])]
    simp only [push_cast, ↓reduceIte, Nat.reduceEqDiff, Nat.reduceAdd, Nat.reduceMul, Nat.reduceSub, Nat.reduceLT, Nat.reduceLeDiff, reduceCtorEq, Nat.reduceMod, Int.reduceEq, Int.reduceLT, Int.reduceLE, Int.reduceToNat, dite_true, add_own, c62, c72, j1, j2, j0, hqn1, hqn2, g]
    refine VC.go 100 ?_
    simp only [push_cast, ↓reduceIte, Nat.reduceEqDiff, Nat.reduceAdd, Nat.reduceMul, Nat.reduceSub, Nat.reduceLT, Nat.reduceLeDiff, reduceCtorEq, Nat.reduceMod, Int.reduceEq, Int.reduceLT, Int.reduceLE, Int.reduceToNat, dite_true]
    exact RetOk.p rfl rfl
end Go.Proofs.Ythdbmbabfngakaa.G
