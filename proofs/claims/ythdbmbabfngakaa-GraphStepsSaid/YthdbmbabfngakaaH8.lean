/- Graphs: the same graphs. -/
import Derived.Test.YthdbmbabfngakaaH7
namespace Go.Proofs.Ythdbmbabfngakaa.G
open Go Go.Eng Go.Proofs Go.Proofs.Ythdbmbabfngakaa.T Go.Proofs.Ythdbmbabfngakaa.K
set_option linter.unusedSimpArgs false
set_option linter.unusedVariables false
set_option maxRecDepth 100000
set_option maxHeartbeats 4000000
def sameNd (na nb : Nat) (x y : Nd) : Bool := decide (x.kind = y.kind) && decide (x.info = y.info) && decide (x.nons = y.nons) && sameN na nb x.kids y.kids
def sameGr (a b : Gr) : Bool := decide (a.nodes.length = b.nodes.length) && sameN a.nodes.length b.nodes.length a.roots b.roots && (a.nodes.zip b.nodes).all fun p => sameNd a.nodes.length b.nodes.length p.1 p.2
theorem sameGr_refl (a : Gr) : sameGr a a = true := by
  simp only [sameGr, sameNd, sameN, decide_true, Bool.true_and, List.all_eq_true]
  intro p hp
  have : p.1 = p.2 := by
    have : ∀ (l : List Nd), p ∈ l.zip l → p.1 = p.2 := by
      intro l
      induction l with
      | nil => intro h; cases h
      | cons x l ih => intro h; rcases List.mem_cons.1 h with rfl | h; rfl; exact ih h
    exact this _ hp
  rw [this]; simp
theorem likeG (F : PH) (b2 b3 : Nat) (ar av br bv vx vy : Value) (ma mb : List Nd) (x y : List Int) (h1 : ar.oneCell' = true) (h2 : br.oneCell' = true) (ha : Nodes F av ma) (hb : Nodes F bv mb) (hx : Ints F vx x) (hy : Ints F vy y)
    (f2 : F b2 = some (.cells #[ar, av] 25 (0, 0))) (f3 : F b3 = some (.cells #[br, bv] 25 (0, 0))) :
    PFn Try.prog 31 [vx, vy, .pointer (some ⟨b2, 0, none⟩), .pointer (some ⟨b3, 0, none⟩)] F (fun v _ => v = .bool (sameN ma.length mb.length x y)) := by
  have ha' := ha
  have hb' := hb
  obtain ⟨pa, ca, rfl, _, _⟩ := ha.val
  obtain ⟨pb, cb, rfl, _, _⟩ := hb.val
  obtain ⟨px, cx, rfl, hx1, hx2, hx3⟩ := hx
  obtain ⟨py, cy, rfl, hy1, hy2, hy3⟩ := hy
  refine Fn.intro (n := 32) (ts := [6]) Try.func31 rfl rfl rfl rfl (by simp) fun B hB => VC.go 100 ?_
  by_cases hl : x.length = y.length
  case neg =>
    have hl' : ¬ (x.length : Int) = (y.length : Int) := by omega
    rw [sameN_len hl]
    simp only [push_cast, ↓reduceIte, Nat.reduceEqDiff, Nat.reduceAdd, Nat.reduceMul, Nat.reduceSub, Nat.reduceLT, Nat.reduceLeDiff, reduceCtorEq, Nat.reduceMod, Int.reduceEq, Int.reduceLT, Int.reduceLE, Int.reduceToNat, dite_true, hl', h1, h2]
    exact RetOk.p rfl rfl
  have hl' : (x.length : Int) = (y.length : Int) := by omega
  simp only [push_cast, ↓reduceIte, Nat.reduceEqDiff, Nat.reduceAdd, Nat.reduceMul, Nat.reduceSub, Nat.reduceLT, Nat.reduceLeDiff, reduceCtorEq, Nat.reduceMod, Int.reduceEq, Int.reduceLT, Int.reduceLE, Int.reduceToNat, dite_true, eq_true hl', h1, h2]
  refine VC.loopM (ι := Nat × PH) (fun i => [(15, .v (.int .i64 i.1)), (14, .v (.int .i64 x.length)), (3, .v (.pointer (some ⟨b3, 0, none⟩))), (2, .v (.pointer (some ⟨b2, 0, none⟩))), (1, .v (.slice py y.length cy)), (0, .v (.slice px x.length cx))]) (fun _ => []) (fun i => i.2) (fun i => i.1 ≤ x.length ∧ F.le i.2 ∧ (x.take i.1).map (real ma.length) = (y.take i.1).map (real mb.length)) (fun i => x.length - i.1) (0, F) ⟨Nat.zero_le _, PH.le_refl _, rfl⟩ (by simp [subk, Eng.look]) (List.Sublist.refl _) rfl ?_
  rintro ⟨i, F1⟩ ⟨hi, hF1, ht⟩ G hG
  dsimp only at hi hF1 ht hG ⊢
  refine VC.go 100 ?_
  by_cases h : i < x.length
  case neg =>
    have h' : ¬ (i : Int) < (x.length : Int) := by omega
    rw [List.take_of_length_le (by omega), List.take_of_length_le (by omega)] at ht
    rw [sameN, decide_eq_true ht]
    simp only [push_cast, ↓reduceIte, Nat.reduceEqDiff, Nat.reduceAdd, Nat.reduceMul, Nat.reduceSub, Nat.reduceLT, Nat.reduceLeDiff, reduceCtorEq, Nat.reduceMod, Int.reduceEq, Int.reduceLT, Int.reduceLE, Int.reduceToNat, dite_true, h', h1, h2]
    exact RetOk.p rfl rfl
  have hj : i < y.length := by omega
  have h' : (i : Int) < (x.length : Int) := by omega
  have h'' : (i : Int) < (y.length : Int) := by omega
  have h0 : (0 : Int) ≤ (i : Int) := by omega
  obtain ⟨qx, rfl, hqx⟩ := (hx3.mono hF1).elem1 (i := i) (v := .int .i64 x[i]) (by simp [h])
  obtain ⟨qy, rfl, hqy⟩ := (hy3.mono hF1).elem1 (i := i) (v := .int .i64 y[i]) (by simp [hj])
  have k2 : F1.cells ⟨b2, 0, none⟩ 2 = some [ar, .slice pa ma.length ca] := hF1.cells (cells_blk f2 rfl)
  have k3 : F1.cells ⟨b3, 0, none⟩ 2 = some [br, .slice pb mb.length cb] := hF1.cells (cells_blk f3 rfl)
  have e2 : IntKind.i64.wrap ((i : Int) + 1) = ((i + 1 : Nat) : Int) := wadd i h (Nat.le_trans hx1 hx2)
  simp only [push_cast, ↓reduceIte, Nat.reduceEqDiff, Nat.reduceAdd, Nat.reduceMul, Nat.reduceSub, Nat.reduceLT, Nat.reduceLeDiff, reduceCtorEq, Nat.reduceMod, Int.reduceEq, Int.reduceLT, Int.reduceLE, Int.reduceToNat, dite_true, h', h1, h2]
  refine VC.draw (.q 0 (.q 1 (.q 2 (.q 3 (.q 4 (.q 6 (.q 7 (.q 8 (.q 9 (.q 10 (.e 5 (.e 11 (.q 12 (.done)))))))))))))) mixed (by rfl) ?_
  simp only [push_cast, ↓reduceIte, Nat.reduceEqDiff, Nat.reduceAdd, Nat.reduceMul, Nat.reduceSub, Nat.reduceLT, Nat.reduceLeDiff, reduceCtorEq, Nat.reduceMod, Int.reduceEq, Int.reduceLT, Int.reduceLE, Int.reduceToNat, dite_true, h', h'', h0, hqx, hqy, h1, h2, k2, k3]
  refine CallV.pure (realG F1 ar _ ma x[i] h1 (ha'.mono hF1)) ?_
  rintro _ F2 hF2 rfl
  simp only [push_cast, ↓reduceIte, Nat.reduceEqDiff, Nat.reduceAdd, Nat.reduceMul, Nat.reduceSub, Nat.reduceLT, Nat.reduceLeDiff, reduceCtorEq, Nat.reduceMod, Int.reduceEq, Int.reduceLT, Int.reduceLE, Int.reduceToNat, dite_true, h', h'', h0, hqx, hqy, h1, h2]
  refine CallV.pure (realG F2 br _ mb y[i] h2 (hb'.mono (PH.le_trans hF1 hF2))) ?_
  rintro _ F3 hF3 rfl
  by_cases g : real ma.length x[i] = real mb.length y[i]
  · simp only [push_cast, ↓reduceIte, Nat.reduceEqDiff, Nat.reduceAdd, Nat.reduceMul, Nat.reduceSub, Nat.reduceLT, Nat.reduceLeDiff, reduceCtorEq, Nat.reduceMod, Int.reduceEq, Int.reduceLT, Int.reduceLE, Int.reduceToNat, dite_true, eq_true g]
    refine VC.go 100 ?_
    simp only [push_cast, ↓reduceIte, Nat.reduceEqDiff, Nat.reduceAdd, Nat.reduceMul, Nat.reduceSub, Nat.reduceLT, Nat.reduceLeDiff, reduceCtorEq, Nat.reduceMod, Int.reduceEq, Int.reduceLT, Int.reduceLE, Int.reduceToNat, dite_true, e2]
    exact hG (i + 1, F3) _ ⟨h, PH.le_trans hF1 (PH.le_trans hF2 hF3), by dsimp only; rw [List.take_succ_eq_append_getElem h, List.take_succ_eq_append_getElem hj, List.map_append, List.map_append, ht]; simp [g]⟩ (by simp; omega) (by simp [subk, Eng.look]) (List.Sublist.refl _) rfl rfl
  · rw [sameN, decide_eq_false fun e => g (by
      have := congrArg (fun l : List Int => l[i]?) e
      simpa [h, hj] using this)]
    simp only [push_cast, ↓reduceIte, Nat.reduceEqDiff, Nat.reduceAdd, Nat.reduceMul, Nat.reduceSub, Nat.reduceLT, Nat.reduceLeDiff, reduceCtorEq, Nat.reduceMod, Int.reduceEq, Int.reduceLT, Int.reduceLE, Int.reduceToNat, dite_true, g]
    refine VC.go 100 ?_
    simp only [push_cast, ↓reduceIte, Nat.reduceEqDiff, Nat.reduceAdd, Nat.reduceMul, Nat.reduceSub, Nat.reduceLT, Nat.reduceLeDiff, reduceCtorEq, Nat.reduceMod, Int.reduceEq, Int.reduceLT, Int.reduceLE, Int.reduceToNat, dite_true]
    exact RetOk.p rfl rfl
theorem zip_at {a b : List Nd} {i : Nat} (h : i < a.length) (h2 : i < b.length) (f : Nd × Nd → Bool) : ((a.zip b).take (i + 1)).all f = (((a.zip b).take i).all f && f (a[i], b[i])) := by
  have hz : i < (a.zip b).length := by simp; omega
  rw [List.take_succ_eq_append_getElem hz, List.all_append]
  simp
theorem zip_no {a b : List Nd} {i : Nat} (h : i < a.length) (h2 : i < b.length) {f : Nd × Nd → Bool} (hf : f (a[i], b[i]) = false) : (a.zip b).all f = false := by
  have hz : i < (a.zip b).length := by simp; omega
  rw [Bool.eq_false_iff]
  intro e
  have := List.all_eq_true.1 e _ (List.getElem_mem hz)
  rw [List.getElem_zip, hf] at this
  cases this
theorem sameG (F : PH) (ar av br bv : Value) (a b : Gr) (ha0 : Ints F ar a.roots) (hb0 : Ints F br b.roots) (ha : Nodes F av a.nodes) (hb : Nodes F bv b.nodes) :
    PFn Try.prog 15 [.agg #[ar, av], .agg #[br, bv]] F (fun v _ => v = .bool (sameGr a b)) := by
  have ha' := ha
  have hb' := hb
  have ha0' := ha0
  have hb0' := hb0
  obtain ⟨pa, ca, rfl, hc1, hc2⟩ := ha.val
  obtain ⟨pb, cb, rfl, _, _⟩ := hb.val
  obtain ⟨pr, cr, rfl, _⟩ := ha0
  obtain ⟨ps, cs, rfl, _⟩ := hb0
  refine Fn.intro (n := 69) (ts := [4]) Try.func15 rfl rfl rfl rfl (by simp) fun B hB => VC.go 3 ?_
  simp only [push_cast, ↓reduceIte, Nat.reduceEqDiff, Nat.reduceAdd, Nat.reduceMul, Nat.reduceSub, Nat.reduceLT, Nat.reduceLeDiff, reduceCtorEq, Nat.reduceMod, Int.reduceEq, Int.reduceLT, Int.reduceLE, Int.reduceToNat, dite_true]
  intro b2 b3
  refine VC.freeze (m := ⟨0, b2, 25, [.slice pr a.roots.length cr, .slice pa a.nodes.length ca]⟩) (M := [⟨1, b3, 25, [.slice ps b.roots.length cs, .slice pb b.nodes.length cb]⟩]) (List.Perm.refl _) fun F1 hF1 hb2 => ?_
  refine VC.freeze (m := ⟨1, b3, 25, [.slice ps b.roots.length cs, .slice pb b.nodes.length cb]⟩) (M := []) (List.Perm.refl _) fun F2 hF2 hb3 => ?_
  have hb2' := hF2 _ _ hb2
  have hF := PH.le_trans hF1 hF2
  refine VC.reL [(4, .v (.bool false)), (3, .v (.pointer (some ⟨b3, 0, none⟩))), (2, .v (.pointer (some ⟨b2, 0, none⟩)))] (by simp [subv, Eng.look, AV.val]) (VC.go 100 ?_)
  have k2 : ∀ F', F2.le F' → F'.cells ⟨b2, 0, none⟩ 2 = some [.slice pr a.roots.length cr, .slice pa a.nodes.length ca] := fun F' h => h.cells (cells_blk hb2' rfl)
  have k3 : ∀ F', F2.le F' → F'.cells ⟨b3, 0, none⟩ 2 = some [.slice ps b.roots.length cs, .slice pb b.nodes.length cb] := fun F' h => h.cells (cells_blk hb3 rfl)
  have q20 := cell_at (k2 F2 (PH.le_refl _)) (o := 0) rfl
  have q21 := cell_at (k2 F2 (PH.le_refl _)) (o := 1) rfl
  have q30 := cell_at (k3 F2 (PH.le_refl _)) (o := 0) rfl
  have q31 := cell_at (k3 F2 (PH.le_refl _)) (o := 1) rfl
  rw [add_own] at q20 q21 q30 q31
  by_cases hl : a.nodes.length = b.nodes.length
  case neg =>
    have hl' : ¬ (a.nodes.length : Int) = (b.nodes.length : Int) := by omega
    rw [sameGr, decide_eq_false hl]
    simp only [push_cast, ↓reduceIte, Nat.reduceEqDiff, Nat.reduceAdd, Nat.reduceMul, Nat.reduceSub, Nat.reduceLT, Nat.reduceLeDiff, reduceCtorEq, Nat.reduceMod, Int.reduceEq, Int.reduceLT, Int.reduceLE, Int.reduceToNat, dite_true, add_own, q20, q21, q30, q31, hl']
    exact RetOk.p rfl rfl
  have hl' : (a.nodes.length : Int) = (b.nodes.length : Int) := by omega
  simp only [push_cast, ↓reduceIte, Nat.reduceEqDiff, Nat.reduceAdd, Nat.reduceMul, Nat.reduceSub, Nat.reduceLT, Nat.reduceLeDiff, reduceCtorEq, Nat.reduceMod, Int.reduceEq, Int.reduceLT, Int.reduceLE, Int.reduceToNat, dite_true, add_own, q20, q21, q30, q31, eq_true hl']
  refine CallV.pure (likeG F2 b2 b3 _ _ _ _ _ _ a.nodes b.nodes a.roots b.roots rfl rfl (ha'.mono hF) (hb'.mono hF) (ha0'.mono hF) (hb0'.mono hF) hb2' hb3) ?_
  rintro _ F3 hF3 rfl
  by_cases hr : sameN a.nodes.length b.nodes.length a.roots b.roots = true
  case neg =>
    have hr' : sameN a.nodes.length b.nodes.length a.roots b.roots = false := by simpa using hr
    rw [sameGr, hr']
    simp only [push_cast, ↓reduceIte, Nat.reduceEqDiff, Nat.reduceAdd, Nat.reduceMul, Nat.reduceSub, Nat.reduceLT, Nat.reduceLeDiff, reduceCtorEq, Nat.reduceMod, Int.reduceEq, Int.reduceLT, Int.reduceLE, Int.reduceToNat, dite_true, hr', Bool.and_false, Bool.false_and]
    exact RetOk.p rfl rfl
  have k21 := cell_at (k2 F3 hF3) (o := 1) rfl
  have k31 := cell_at (k3 F3 hF3) (o := 1) rfl
  rw [add_own] at k21 k31
  simp only [push_cast, ↓reduceIte, Nat.reduceEqDiff, Nat.reduceAdd, Nat.reduceMul, Nat.reduceSub, Nat.reduceLT, Nat.reduceLeDiff, reduceCtorEq, Nat.reduceMod, Int.reduceEq, Int.reduceLT, Int.reduceLE, Int.reduceToNat, dite_true, hr, add_own, k21]
  refine VC.loopM (ι := Nat × PH) (fun i => [(29, .v (.int .i64 i.1)), (28, .v (.int .i64 a.nodes.length)), (27, .v (.slice pa a.nodes.length ca)), (3, .v (.pointer (some ⟨b3, 0, none⟩))), (5, .v (.func (.func 31) #[] #[.pointer (some ⟨b2, 0, none⟩), .pointer (some ⟨b3, 0, none⟩)]))]) (fun _ => []) (fun i => i.2) (fun i => i.1 ≤ a.nodes.length ∧ F3.le i.2 ∧ (((a.nodes.zip b.nodes).take i.1).all fun p => sameNd a.nodes.length b.nodes.length p.1 p.2) = true) (fun i => a.nodes.length - i.1) (0, F3) ⟨Nat.zero_le _, PH.le_refl _, rfl⟩ (by simp [subk, Eng.look]) (List.Sublist.refl _) rfl ?_
  rintro ⟨i, F4⟩ ⟨hi, hF4, ht⟩ G hG
  dsimp only at hi hF4 ht hG ⊢
  refine VC.go 100 ?_
  by_cases h : i < a.nodes.length
  case neg =>
    have h' : ¬ (i : Int) < (a.nodes.length : Int) := by omega
    rw [List.take_of_length_le (by simp; omega)] at ht
    rw [sameGr, decide_eq_true hl, hr, ht]
    simp only [push_cast, ↓reduceIte, Nat.reduceEqDiff, Nat.reduceAdd, Nat.reduceMul, Nat.reduceSub, Nat.reduceLT, Nat.reduceLeDiff, reduceCtorEq, Nat.reduceMod, Int.reduceEq, Int.reduceLT, Int.reduceLE, Int.reduceToNat, dite_true, h']
    exact RetOk.p rfl rfl
  have hj : i < b.nodes.length := by omega
  have h' : (i : Int) < (a.nodes.length : Int) := by omega
  have h'' : (i : Int) < (b.nodes.length : Int) := by omega
  have h0 : (0 : Int) ≤ (i : Int) := by omega
  have e2 : IntKind.i64.wrap ((i : Int) + 1) = ((i + 1 : Nat) : Int) := wadd i h (Nat.le_trans hc1 hc2)
  have hF24 := PH.le_trans hF3 hF4
  have hFF := PH.le_trans hF hF24
  obtain ⟨q, _, cs1, eq, _, _, kl, kr⟩ := (ha'.mono hFF).elem (by decide) (i := i) (a := a.nodes[i]) (List.getElem?_eq_getElem h) RNd.len
  cases eq
  obtain ⟨q', _, cs2, eq, _, _, kl', kr'⟩ := (hb'.mono hFF).elem (by decide) (i := i) (a := b.nodes[i]) (List.getElem?_eq_getElem hj) RNd.len
  cases eq
  obtain ⟨vn, vk, rfl, hn, hk⟩ := kr
  obtain ⟨vn', vk', rfl, hn', hk'⟩ := kr'
  have hn1 := hn
  have hk1 := hk
  have hn2 := hn'
  have hk2 := hk'
  obtain ⟨_, _, rfl, _⟩ := hn1
  obtain ⟨_, _, rfl, _⟩ := hk1
  obtain ⟨_, _, rfl, _⟩ := hn2
  obtain ⟨_, _, rfl, _⟩ := hk2
  have k31' := cell_at (k3 F4 hF24) (o := 1) rfl
  rw [add_own] at k31'
  have fin : sameNd a.nodes.length b.nodes.length a.nodes[i] b.nodes[i] = false → sameGr a b = false := fun e => by
    rw [sameGr, zip_no (f := fun p => sameNd a.nodes.length b.nodes.length p.1 p.2) h hj e, Bool.and_false]
  by_cases g1 : a.nodes[i].kind = b.nodes[i].kind
  case neg =>
    rw [fin (by simp [sameNd, g1])]
    simp only [push_cast, ↓reduceIte, Nat.reduceEqDiff, Nat.reduceAdd, Nat.reduceMul, Nat.reduceSub, Nat.reduceLT, Nat.reduceLeDiff, reduceCtorEq, Nat.reduceMod, Int.reduceEq, Int.reduceLT, Int.reduceLE, Int.reduceToNat, dite_true, h', h'', h0, kl, kl', add_own, k31']
    intro b7 b8
    simp only [push_cast, ↓reduceIte, Nat.reduceEqDiff, Nat.reduceAdd, Nat.reduceMul, Nat.reduceSub, Nat.reduceLT, Nat.reduceLeDiff, reduceCtorEq, Nat.reduceMod, Int.reduceEq, Int.reduceLT, Int.reduceLE, Int.reduceToNat, dite_true, g1]
    exact RetOk.p rfl rfl
  by_cases g2 : a.nodes[i].info = b.nodes[i].info
  case neg =>
    rw [fin (by simp [sameNd, g2])]
    simp only [push_cast, ↓reduceIte, Nat.reduceEqDiff, Nat.reduceAdd, Nat.reduceMul, Nat.reduceSub, Nat.reduceLT, Nat.reduceLeDiff, reduceCtorEq, Nat.reduceMod, Int.reduceEq, Int.reduceLT, Int.reduceLE, Int.reduceToNat, dite_true, h', h'', h0, kl, kl', add_own, k31']
    intro b7 b8
    simp only [push_cast, ↓reduceIte, Nat.reduceEqDiff, Nat.reduceAdd, Nat.reduceMul, Nat.reduceSub, Nat.reduceLT, Nat.reduceLeDiff, reduceCtorEq, Nat.reduceMod, Int.reduceEq, Int.reduceLT, Int.reduceLE, Int.reduceToNat, dite_true, eq_true g1, g2]
    exact RetOk.p rfl rfl
  simp only [push_cast, ↓reduceIte, Nat.reduceEqDiff, Nat.reduceAdd, Nat.reduceMul, Nat.reduceSub, Nat.reduceLT, Nat.reduceLeDiff, reduceCtorEq, Nat.reduceMod, Int.reduceEq, Int.reduceLT, Int.reduceLE, Int.reduceToNat, dite_true, h', h'', h0, kl, kl', add_own, k31']
  intro b7 b8
  simp only [push_cast, ↓reduceIte, Nat.reduceEqDiff, Nat.reduceAdd, Nat.reduceMul, Nat.reduceSub, Nat.reduceLT, Nat.reduceLeDiff, reduceCtorEq, Nat.reduceMod, Int.reduceEq, Int.reduceLT, Int.reduceLE, Int.reduceToNat, dite_true, eq_true g1, eq_true g2]
  refine CallV.pure (equal F4 _ _ a.nodes[i].nons b.nodes[i].nons hn hn') ?_
  rintro _ F5 hF5 rfl
  by_cases g3 : a.nodes[i].nons = b.nodes[i].nons
  case neg =>
    rw [fin (by simp [sameNd, g3])]
    simp only [push_cast, ↓reduceIte, Nat.reduceEqDiff, Nat.reduceAdd, Nat.reduceMul, Nat.reduceSub, Nat.reduceLT, Nat.reduceLeDiff, reduceCtorEq, Nat.reduceMod, Int.reduceEq, Int.reduceLT, Int.reduceLE, Int.reduceToNat, dite_true, g3]
    exact RetOk.p rfl rfl
  simp only [push_cast, ↓reduceIte, Nat.reduceEqDiff, Nat.reduceAdd, Nat.reduceMul, Nat.reduceSub, Nat.reduceLT, Nat.reduceLeDiff, reduceCtorEq, Nat.reduceMod, Int.reduceEq, Int.reduceLT, Int.reduceLE, Int.reduceToNat, dite_true, eq_true g3]
  have hFF5 := PH.le_trans hFF hF5
  refine CallV.pure (likeG F5 b2 b3 _ _ _ _ _ _ a.nodes b.nodes a.nodes[i].kids b.nodes[i].kids rfl rfl (ha'.mono hFF5) (hb'.mono hFF5) (hk.mono hF5) (hk'.mono hF5) (PH.le_trans hF24 hF5 _ _ hb2') (PH.le_trans hF24 hF5 _ _ hb3)) ?_
  rintro _ F6 hF6 rfl
  by_cases g4 : sameN a.nodes.length b.nodes.length a.nodes[i].kids b.nodes[i].kids = true
  case neg =>
    have g4' : sameN a.nodes.length b.nodes.length a.nodes[i].kids b.nodes[i].kids = false := by simpa using g4
    rw [fin (by simp [sameNd, g4'])]
    simp only [push_cast, ↓reduceIte, Nat.reduceEqDiff, Nat.reduceAdd, Nat.reduceMul, Nat.reduceSub, Nat.reduceLT, Nat.reduceLeDiff, reduceCtorEq, Nat.reduceMod, Int.reduceEq, Int.reduceLT, Int.reduceLE, Int.reduceToNat, dite_true, g4']
    exact RetOk.p rfl rfl
  simp only [push_cast, ↓reduceIte, Nat.reduceEqDiff, Nat.reduceAdd, Nat.reduceMul, Nat.reduceSub, Nat.reduceLT, Nat.reduceLeDiff, reduceCtorEq, Nat.reduceMod, Int.reduceEq, Int.reduceLT, Int.reduceLE, Int.reduceToNat, dite_true, g4, e2]
  refine hG (i + 1, F6) _ ⟨h, PH.le_trans hF4 (PH.le_trans hF5 hF6), ?_⟩ (by simp; omega) (by simp [subk, Eng.look]) (by simp) rfl rfl
  dsimp only
  rw [zip_at h hj, ht]
  simp [sameNd, g1, g2, g3, g4]
end Go.Proofs.Ythdbmbabfngakaa.G
