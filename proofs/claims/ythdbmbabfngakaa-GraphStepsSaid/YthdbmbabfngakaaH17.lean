/- Graphs: in the order of meeting, by definition. -/
import Derived.Test.YthdbmbabfngakaaH16
namespace Go.Proofs.Ythdbmbabfngakaa.G
open Go Go.Eng Go.Proofs Go.Proofs.Ythdbmbabfngakaa.T Go.Proofs.Ythdbmbabfngakaa.K
set_option linter.unusedSimpArgs false
set_option linter.unusedVariables false
set_option maxRecDepth 100000
set_option maxHeartbeats 4000000
def namedF (n : Nat) (f : Nat → Int) (y : Int) : Int := if real n y < 0 then real n y else f (real n y).toNat
theorem namedR (F : PH) (ar av vl vnum : Value) (g : Gr) (l : List Int) (f : Nat → Int) (h1 : ar.oneCell' = true) (ha : Nodes F av g.nodes) (hl : Ints F vl l) (hnum : Ints F vnum ((List.range g.nodes.length).map f)) (hlen : l.length ≤ 1000000) :
    RowFn Try.prog 26 [.agg #[ar, av], vl, vnum] F 3 1 ((l.map (namedF g.nodes.length f)).map (.int .i64)) := by
  have ha' := ha
  obtain ⟨pa, ca, rfl, _, _⟩ := ha.val
  obtain ⟨pl, cl, rfl, hl1, hl2, hl3⟩ := hl
  obtain ⟨pn, cn, rfl, hn1, hn2, hn3⟩ := hnum
  simp only [List.length_map, List.length_range, List.map_map] at hn1 hn3
  rw [show ((List.range g.nodes.length).map f).length = g.nodes.length from by simp]
  refine Fn.intro (n := 33) (ts := [6]) Try.func26 rfl rfl rfl rfl (by simp) fun B hB => VC.emp (VC.go 100 ?_)
  simp only [push_cast, ↓reduceIte, Nat.reduceEqDiff, Nat.reduceAdd, Nat.reduceMul, Nat.reduceSub, Nat.reduceLT, Nat.reduceLeDiff, reduceCtorEq, Nat.reduceMod, Int.reduceEq, Int.reduceLT, Int.reduceLE, Int.reduceToNat, dite_true, h1]
  intro b3
  refine VC.loopW (ι := Nat × Value × PH × PH) (fun i => [(8, .v (.int .i64 i.1)), (7, .v i.2.1), (3, .o 0 b3 0), (2, .v (.slice pn g.nodes.length cn)), (1, .v (.slice pl l.length cl))]) (fun _ => [⟨0, b3, 25, [ar, .slice pa g.nodes.length ca]⟩]) (fun i => i.2.2.2) (fun i => [i.2.2.1])
    (fun i => i.1 ≤ l.length ∧ F.le i.2.2.2 ∧ Row i.2.2.1 3 1 i.2.1 (((l.take i.1).map (namedF g.nodes.length f)).map (.int .i64))) (fun i => l.length - i.1) (0, .slice none 0 0, PH.emp, F) ⟨Nat.zero_le _, PH.le_refl _, Row.nil _ _⟩ (by simp [subk, Eng.look]) (List.Sublist.refl _) rfl (subR_refl _) ?_
  rintro ⟨i, vi, ri, F1⟩ ⟨hi, hF1, hri⟩ G hG
  dsimp only at hi hF1 hri hG ⊢
  refine VC.go 100 ?_
  by_cases h : i < l.length
  case neg =>
    have h' : ¬ (i : Int) < (l.length : Int) := by omega
    rw [List.take_of_length_le (by omega)] at hri
    simp only [push_cast, ↓reduceIte, Nat.reduceEqDiff, Nat.reduceAdd, Nat.reduceMul, Nat.reduceSub, Nat.reduceLT, Nat.reduceLeDiff, reduceCtorEq, Nat.reduceMod, Int.reduceEq, Int.reduceLT, Int.reduceLE, Int.reduceToNat, dite_true, h']
    exact RetOk.r rfl (.refl _) ⟨ri, rfl, hri⟩
  have h' : (i : Int) < (l.length : Int) := by omega
  have h0 : (0 : Int) ≤ (i : Int) := by omega
  have ew : IntKind.i64.wrap ((i : Int) + 1) = ((i + 1 : Nat) : Int) := wadd i h (Nat.le_trans hl1 hl2)
  obtain ⟨ql, rfl, hql⟩ := (hl3.mono hF1).elem1 (i := i) (v := .int .i64 l[i]) (by simp [h])
  have hstep : ((l.take (i + 1)).map (namedF g.nodes.length f)).map (Value.int .i64) = ((l.take i).map (namedF g.nodes.length f)).map (.int .i64) ++ [.int .i64 (namedF g.nodes.length f l[i])] := by
    rw [List.take_succ_eq_append_getElem h, List.map_append, List.map_append]; rfl
  obtain ⟨pv, mv, cv, rfl, hmv, _⟩ := hri.len
  simp only [push_cast, ↓reduceIte, Nat.reduceEqDiff, Nat.reduceAdd, Nat.reduceMul, Nat.reduceSub, Nat.reduceLT, Nat.reduceLeDiff, reduceCtorEq, Nat.reduceMod, Int.reduceEq, Int.reduceLT, Int.reduceLE, Int.reduceToNat, dite_true, h']
  refine VC.draw (.q 0 (.q 1 (.q 2 (.q 3 (.q 4 (.e 5 (.q 6 (.done)))))))) mixed (by rfl) ?_
  simp only [push_cast, ↓reduceIte, Nat.reduceEqDiff, Nat.reduceAdd, Nat.reduceMul, Nat.reduceSub, Nat.reduceLT, Nat.reduceLeDiff, reduceCtorEq, Nat.reduceMod, Int.reduceEq, Int.reduceLT, Int.reduceLE, Int.reduceToNat, dite_true, h', h0, hql, h1]
  refine CallV.pure (realR F1 ar _ g.nodes l[i] h1 (ha'.mono hF1)) ?_
  rintro _ F2 hF2 rfl
  obtain ⟨z, hz⟩ : ∃ z, z = real g.nodes.length l[i] := ⟨_, rfl⟩
  have hfin : ∀ (y : Int), y = namedF g.nodes.length f l[i] → ∀ (b : Nat) (F3 : PH) (S' : St), F2.le F3 → ∀ (v' : Value) (r' : PH), Row r' 3 1 v' (((l.take i).map (namedF g.nodes.length f)).map (.int .i64) ++ [.int .i64 y]) → subk S'.L [(8, .v (.int .i64 ((i + 1 : Nat) : Int))), (7, .v v'), (3, .o 0 b3 0), (2, .v (.slice pn g.nodes.length cn)), (1, .v (.slice (some ql) l.length cl))] → [⟨0, b3, 25, [ar, .slice pa g.nodes.length ca]⟩].Sublist S'.M → S'.F = F3 → S'.R = [r'] → G S' := by
    intro y hy b F3 S' hF3 v' r' hr' k1 k2 k3 k4
    refine hG (i + 1, v', r', F3) S' ⟨h, PH.le_trans hF1 (PH.le_trans hF2 hF3), ?_⟩ (by simp; omega) k1 k2 k3 (by rw [k4]; exact subR_refl _)
    dsimp only
    rw [hstep, ← hy]
    exact hr'
  rw [← hz]
  have hzr : z = -1 ∨ (0 ≤ z ∧ z < g.nodes.length) := by
    rw [hz]; unfold real; split
    · exact .inl rfl
    · exact .inr ⟨by omega, by omega⟩
  rcases hzr with rfl | ⟨hz0, hzn⟩
  · simp only [push_cast, ↓reduceIte, Nat.reduceEqDiff, Nat.reduceAdd, Nat.reduceMul, Nat.reduceSub, Nat.reduceLT, Nat.reduceLeDiff, reduceCtorEq, Nat.reduceMod, Int.reduceEq, Int.reduceLT, Int.reduceLE, Int.reduceToNat, dite_true]
    refine VC.go 100 ?_
    simp only [push_cast, ↓reduceIte, Nat.reduceEqDiff, Nat.reduceAdd, Nat.reduceMul, Nat.reduceSub, Nat.reduceLT, Nat.reduceLeDiff, reduceCtorEq, Nat.reduceMod, Int.reduceEq, Int.reduceLT, Int.reduceLE, Int.reduceToNat, dite_true]
    intro b30 F3 hF3 hb30
    refine Eff.append (ys := [.int .i64 (-1)]) rfl rfl rfl ty22 rfl ty3 rfl (by decide) rfl rfl (List.Perm.refl _) hri (Src.blk hb30 rfl) (by simp [Value.oneCell']) (by simp; omega) (by decide) ?_
    intro v2 r2 hr2
    simp only [push_cast, ↓reduceIte, Nat.reduceEqDiff, Nat.reduceAdd, Nat.reduceMul, Nat.reduceSub, Nat.reduceLT, Nat.reduceLeDiff, reduceCtorEq, Nat.reduceMod, Int.reduceEq, Int.reduceLT, Int.reduceLE, Int.reduceToNat, dite_true, ew]
    exact hfin (-1) (by unfold namedF; rw [← hz, if_pos (by omega)]) 0 F3 _ hF3 v2 r2 hr2 (by simp [subk, Eng.look]) (List.Sublist.refl _) rfl rfl
  obtain ⟨j, rfl⟩ : ∃ j : Nat, z = j := ⟨z.toNat, by omega⟩
  have hj : j < g.nodes.length := by omega
  have hz0' : ¬ (j : Int) < 0 := by omega
  obtain ⟨qn, rfl, hqn⟩ := (hn3.mono (PH.le_trans hF1 hF2)).elem1 (i := j) (v := .int .i64 (f j)) (by simp [hj])
  simp only [push_cast, ↓reduceIte, Nat.reduceEqDiff, Nat.reduceAdd, Nat.reduceMul, Nat.reduceSub, Nat.reduceLT, Nat.reduceLeDiff, reduceCtorEq, Nat.reduceMod, Int.reduceEq, Int.reduceLT, Int.reduceLE, Int.reduceToNat, dite_true, hz0]
  refine VC.go 100 ?_
  simp only [push_cast, ↓reduceIte, Nat.reduceEqDiff, Nat.reduceAdd, Nat.reduceMul, Nat.reduceSub, Nat.reduceLT, Nat.reduceLeDiff, reduceCtorEq, Nat.reduceMod, Int.reduceEq, Int.reduceLT, Int.reduceLE, Int.reduceToNat, dite_true, hz0, hzn, hqn]
  intro b30 F3 hF3 hb30
  refine Eff.append (ys := [.int .i64 (f j)]) rfl rfl rfl ty22 rfl ty3 rfl (by decide) rfl rfl (List.Perm.refl _) hri (Src.blk hb30 rfl) (by simp [Value.oneCell']) (by simp; omega) (by decide) ?_
  intro v2 r2 hr2
  simp only [push_cast, ↓reduceIte, Nat.reduceEqDiff, Nat.reduceAdd, Nat.reduceMul, Nat.reduceSub, Nat.reduceLT, Nat.reduceLeDiff, reduceCtorEq, Nat.reduceMod, Int.reduceEq, Int.reduceLT, Int.reduceLE, Int.reduceToNat, dite_true, ew]
  exact hfin (f j) (by unfold namedF; rw [← hz, if_neg hz0']; rfl) 0 F3 _ hF3 v2 r2 hr2 (by simp [subk, Eng.look]) (List.Sublist.refl _) rfl rfl
def fnum (g : Gr) (k : Nat) : Int := if (k : Int) ∈ order g then idx (order g) k else 0
theorem named_idx (g : Gr) (l : List Int) (h : ∀ y ∈ l, 0 ≤ real g.nodes.length y → real g.nodes.length y ∈ order g) : l.map (namedF g.nodes.length (fnum g)) = l.map (idx (order g)) := by
  refine List.map_congr_left fun y hy => ?_
  rw [← idx_real g y]
  unfold namedF
  by_cases hz : real g.nodes.length y < 0
  · rw [if_pos hz, idx_neg (order_met g) hz]
    unfold real at hz ⊢
    split
    · rfl
    · rename_i c; rw [if_neg c] at hz; omega
  · rw [if_neg hz]
    have hm := h y hy (by omega)
    unfold fnum
    rw [show (((real g.nodes.length y).toNat : Nat) : Int) = real g.nodes.length y from by omega, if_pos hm]
theorem each_snoc {α : Type} {R : α → List Value → Prop} : ∀ {l : List α} {xs ys : List Value} {a : α}, Each R l xs → R a ys → Each R (l ++ [a]) (xs ++ ys)
  | [], xs, ys, a, h1, h2 => by simp only [Each] at h1; subst h1; exact ⟨ys, [], by simp, h2, rfl⟩
  | b :: l, xs, ys, a, ⟨c, zs, e, h1, h3⟩, h2 => by
    subst e
    exact ⟨c, zs ++ ys, by simp, h1, each_snoc h3 h2⟩
theorem row_sle {α : Type} {R : α → List Value → Prop} {r F : PH} {t : TypeId} {sz : Nat} {v : Value} {xs : List Value} {l : List α} (hpos : 0 < sz) (hsz : ∀ a c, R a c → c.length = sz) (hr : Row r t sz v xs) (he : Each R l xs) (hl : r.le F) : SlE F sz R v l := by
  obtain ⟨m, h1, h2⟩ := hr.sl hl
  have h3 := Each.len hsz he
  rw [h1] at h3
  have hm : m = l.length := Nat.eq_of_mul_eq_mul_right hpos h3
  subst hm
  exact ⟨xs, h2, he⟩
structure RSt where
  i : Nat
  xs : List Value
  vx : Value
  rx : PH
  F : PH
theorem nodup_take {l : List Int} (h : l.Nodup) {i : Nat} (hi : i < l.length) : l[i] ∉ l.take i := fun hm => by
  obtain ⟨j, hj, e⟩ := List.getElem_of_mem hm
  simp only [List.length_take] at hj
  rw [List.getElem_take] at e
  have := (List.getElem_inj h).1 e
  omega
theorem idx_at {l : List Int} (h : l.Nodup) {i : Nat} (hi : i < l.length) : idx l l[i] = i := by
  rw [idx, if_pos (List.getElem_mem hi), List.Nodup.idxOf_getElem h]
theorem normR (F : PH) (vg : Value) (g : Gr) (hg : Gra F vg g) (hok : Okg g) : PFn Try.prog 12 [vg] F (fun v F' => Gra F' v (norm g)) := by
  obtain ⟨vr, vn, rfl, hvr, hvn⟩ := hg
  have hvr' := hvr
  have hvn' := hvn
  obtain ⟨pr, cr, rfl, hr1, hr2, hr3⟩ := hvr
  obtain ⟨pn, cn, rfl, hn1, hn2⟩ := hvn.val
  have hn := hok.nodes
  have hnmax : g.nodes.length ≤ maxLen := Nat.le_trans hn1 hn2
  refine Fn.intro (n := 88) (ts := [.cell 2 25]) Try.func12 rfl rfl rfl rfl (by simp) fun B hB => VC.emp (VC.go 100 ?_)
  simp only [push_cast, ↓reduceIte, Nat.reduceEqDiff, Nat.reduceAdd, Nat.reduceMul, Nat.reduceSub, Nat.reduceLT, Nat.reduceLeDiff, reduceCtorEq, Nat.reduceMod, Int.reduceEq, Int.reduceLT, Int.reduceLE, Int.reduceToNat, dite_true]
  intro b1 b2
  refine Eff.makeSlice (m := g.nodes.length) rfl ty49 rfl ty4 rfl rfl (by simp; omega) hnmax ?_
  intro bh
  rw [show (madeCells _ _).toList = rngB g.nodes.length (fun _ => false) from made_rngB _]
  simp only [push_cast, ↓reduceIte, Nat.reduceEqDiff, Nat.reduceAdd, Nat.reduceMul, Nat.reduceSub, Nat.reduceLT, Nat.reduceLeDiff, reduceCtorEq, Nat.reduceMod, Int.reduceEq, Int.reduceLT, Int.reduceLE, Int.reduceToNat, dite_true]
  refine VC.loopW (ι := Nat × Value × PH × PH) (fun i => [(5, .v (.int .i64 i.1)), (4, .s 2 bh 0 g.nodes.length g.nodes.length), (3, .v i.2.1), (2, .o 1 b2 0), (1, .o 0 b1 0)]) (fun i => [⟨0, b1, 25, [.slice pr g.roots.length cr, .slice pn g.nodes.length cn]⟩, ⟨1, b2, 25, [.slice none 0 0, .slice none 0 0]⟩, ⟨2, bh, 4, hasOf g.nodes.length (visits g (full g) ((g.roots.map (real g.nodes.length)).take i.1) [])⟩]) (fun i => i.2.2.2) (fun i => [i.2.2.1])
    (fun i => i.1 ≤ g.roots.length ∧ F.le i.2.2.2 ∧ Row i.2.2.1 3 1 i.2.1 ((visits g (full g) ((g.roots.map (real g.nodes.length)).take i.1) []).map (.int .i64))) (fun i => g.roots.length - i.1) (0, .slice none 0 0, PH.emp, F) ⟨Nat.zero_le _, PH.le_refl _, by simpa [visits] using Row.nil _ _⟩ (by simp [subk, Eng.look]) (by simp [visits, hasOf]) rfl (subR_refl _) ?_
  rintro ⟨i, vi, ri, F1⟩ ⟨hi, hF1, hri⟩ G hG
  dsimp only at hi hF1 hri hG ⊢
  obtain ⟨pv, mv, cv, rfl, hmv, hmv1, hmv2⟩ := hri.len
  by_cases h : i < g.roots.length
  · have h' : (i : Int) < (g.roots.length : Int) := by omega
    have h0 : (0 : Int) ≤ (i : Int) := by omega
    have ew : IntKind.i64.wrap ((i : Int) + 1) = ((i + 1 : Nat) : Int) := wadd i h (Nat.le_trans hr1 hr2)
    obtain ⟨qk, rfl, hqk⟩ := (hr3.mono hF1).elem1 (i := i) (v := .int .i64 g.roots[i]) (by simp [h])
    obtain ⟨hvm1, l', hvl⟩ := visits_met g (full g) ((g.roots.map (real g.nodes.length)).take i) [] (fun y hy => reals_roots g y (List.mem_of_mem_take hy)) (Met.nil _)
    have hnext : visits g (full g) ((g.roots.map (real g.nodes.length)).take (i + 1)) [] = visit g (full g) (real g.nodes.length g.roots[i]) (visits g (full g) ((g.roots.map (real g.nodes.length)).take i) []) := by
      have hi' : i < (g.roots.map (real g.nodes.length)).length := by rw [List.length_map]; exact h
      rw [List.take_succ_eq_append_getElem hi', visits, List.foldl_append]
      simp only [List.foldl_cons, List.foldl_nil, List.getElem_map]
    refine VC.go 100 ?_
    simp only [push_cast, ↓reduceIte, Nat.reduceEqDiff, Nat.reduceAdd, Nat.reduceMul, Nat.reduceSub, Nat.reduceLT, Nat.reduceLeDiff, reduceCtorEq, Nat.reduceMod, Int.reduceEq, Int.reduceLT, Int.reduceLE, Int.reduceToNat, dite_true, h']
    refine VC.draw (.q 0 (.q 1 (.q 2 (.q 3 (.q 4 (.q 5 (.q 6 (.q 7 (.es 8 [0, 1, 2, 3, 4, 5, 6, 7] (.e 9 (.done))))))))))) mixed (by rfl) ?_
    simp only [push_cast, ↓reduceIte, Nat.reduceEqDiff, Nat.reduceAdd, Nat.reduceMul, Nat.reduceSub, Nat.reduceLT, Nat.reduceLeDiff, reduceCtorEq, Nat.reduceMod, Int.reduceEq, Int.reduceLT, Int.reduceLE, Int.reduceToNat, dite_true, h', h0, hqk]
    refine CallV.ownGen (i := 2) (R1 := [ri]) (Rf := []) (Q' := fun v F' cs' R'' => ∃ r', cs' = hasOf g.nodes.length (visits g (full g) ((g.roots.map (real g.nodes.length)).take (i + 1)) []) ∧ R'' = [r'] ∧ Row r' 3 1 v ((visits g (full g) ((g.roots.map (real g.nodes.length)).take (i + 1)) []).map (.int .i64))) rfl (List.Perm.refl _) (meetR g F _ _ bh rfl hvn' hn (full g) F1 g.roots[i] _ _ ri hF1 hvm1 (by simp [full]; omega) hri) ?_ ?_
    · rintro v F' R' ⟨r', rfl, h2⟩
      rw [← hnext] at h2 ⊢
      exact ⟨_, _, rfl, r', rfl, rfl, h2⟩
    rintro v F4 cs' R'' hF4 ⟨r4, rfl, rfl, hr4⟩
    have hqk4 := hF4.cell hqk
    obtain ⟨p4, m4, c4, rfl, _⟩ := hr4.len
    simp only [push_cast, ↓reduceIte, Nat.reduceEqDiff, Nat.reduceAdd, Nat.reduceMul, Nat.reduceSub, Nat.reduceLT, Nat.reduceLeDiff, reduceCtorEq, Nat.reduceMod, Int.reduceEq, Int.reduceLT, Int.reduceLE, Int.reduceToNat, dite_true, h', h0, hqk4]
    refine VC.go 100 ?_
    simp only [push_cast, ↓reduceIte, Nat.reduceEqDiff, Nat.reduceAdd, Nat.reduceMul, Nat.reduceSub, Nat.reduceLT, Nat.reduceLeDiff, reduceCtorEq, Nat.reduceMod, Int.reduceEq, Int.reduceLT, Int.reduceLE, Int.reduceToNat, dite_true, ew]
    exact hG (i + 1, .slice p4 m4 c4, r4, F4) _ ⟨h, PH.le_trans hF1 hF4, hr4⟩ (by simp; omega) (by simp [subk, Eng.look]) (List.Sublist.refl _) rfl (subR_refl _)
  have h' : ¬ (i : Int) < (g.roots.length : Int) := by omega
  have hord : visits g (full g) ((g.roots.map (real g.nodes.length)).take i) [] = order g := by rw [List.take_of_length_le (by rw [List.length_map]; omega)]; rfl
  rw [hord] at hri hmv ⊢
  obtain rfl : mv = (order g).length := by simpa using hmv.symm
  have hol := (order_met g).len
  refine VC.go 5 ?_
  simp only [push_cast, ↓reduceIte, Nat.reduceEqDiff, Nat.reduceAdd, Nat.reduceMul, Nat.reduceSub, Nat.reduceLT, Nat.reduceLeDiff, reduceCtorEq, Nat.reduceMod, Int.reduceEq, Int.reduceLT, Int.reduceLE, Int.reduceToNat, dite_true, h']
  refine VC.freezeR (List.Perm.refl _) fun F2 hF2 hri2 => VC.go 100 ?_
  have hmet := Row.ints hri hri2
  obtain ⟨pm, cm, em, hm1, hm2, hm3⟩ := hmet
  cases em
  have hF02 := PH.le_trans hF1 hF2
  simp only [push_cast, ↓reduceIte, Nat.reduceEqDiff, Nat.reduceAdd, Nat.reduceMul, Nat.reduceSub, Nat.reduceLT, Nat.reduceLeDiff, reduceCtorEq, Nat.reduceMod, Int.reduceEq, Int.reduceLT, Int.reduceLE, Int.reduceToNat, dite_true]
  refine Eff.makeSlice (m := g.nodes.length) rfl ty22 rfl ty3 rfl rfl (by simp; omega) hnmax ?_
  intro bn
  rw [show (madeCells _ _).toList = rng g.nodes.length (fun _ => 0) from made_rng _]
  simp only [push_cast, ↓reduceIte, Nat.reduceEqDiff, Nat.reduceAdd, Nat.reduceMul, Nat.reduceSub, Nat.reduceLT, Nat.reduceLeDiff, reduceCtorEq, Nat.reduceMod, Int.reduceEq, Int.reduceLT, Int.reduceLE, Int.reduceToNat, dite_true]
  refine VC.loopM (ι := Nat) (fun i => [(7, .v (.int .i64 i)), (6, .s 3 bn 0 g.nodes.length g.nodes.length), (3, .v (.slice pv (order g).length cv)), (2, .o 1 b2 0), (1, .o 0 b1 0)]) (fun i => [⟨0, b1, 25, [.slice pr g.roots.length cr, .slice pn g.nodes.length cn]⟩, ⟨1, b2, 25, [.slice none 0 0, .slice none 0 0]⟩, ⟨3, bn, 3, rng g.nodes.length (fun k => if (k : Int) ∈ (order g).take i then idx (order g) k else 0)⟩]) (fun _ => F2)
    (fun i => i ≤ (order g).length) (fun i => (order g).length - i) 0 (Nat.zero_le _) (by simp [subk, Eng.look]) (by simp) rfl ?_
  intro i2 hi2 G2 hG2
  dsimp only at hG2 ⊢
  by_cases h2 : i2 < (order g).length
  · have h2' : (i2 : Int) < ((order g).length : Int) := by omega
    have h20 : (0 : Int) ≤ (i2 : Int) := by omega
    have ew : IntKind.i64.wrap ((i2 : Int) + 1) = ((i2 + 1 : Nat) : Int) := wadd i2 h2 (Nat.le_trans hmv1 hmv2)
    obtain ⟨j, hj, ej⟩ := order_some g h2
    have hj' : (j : Int) < (g.nodes.length : Int) := by omega
    have hj0 : (0 : Int) ≤ (j : Int) := by omega
    obtain ⟨qm, rfl, hqm⟩ := hm3.elem1 (i := i2) (v := .int .i64 j) (by rw [List.getElem?_map, List.getElem?_eq_getElem h2, ej]; rfl)
    have hlt : j < (rng g.nodes.length (fun k => if (k : Int) ∈ (order g).take i2 then idx (order g) k else 0)).length := by rw [rng_len]; exact hj
    have hset : (rng g.nodes.length (fun k => if (k : Int) ∈ (order g).take i2 then idx (order g) k else 0)).set j (.int .i64 i2) = rng g.nodes.length (fun k => if (k : Int) ∈ (order g).take (i2 + 1) then idx (order g) k else 0) := by
      rw [rng_set]
      congr 1
      funext y
      dsimp only [upd]
      rw [List.take_succ_eq_append_getElem h2]
      by_cases e : y = j
      · subst e
        rw [if_pos rfl, if_pos (List.mem_append_right _ (by rw [ej]; exact List.mem_singleton_self _)), ← ej, idx_at (order_met g).nodup h2]
      · rw [if_neg e]
        have : ¬ (y : Int) = (order g)[i2] := by rw [ej]; omega
        simp only [List.mem_append, List.mem_singleton, this, or_false]
    obtain ⟨c0, hc0⟩ : ∃ c0, c0 = rng g.nodes.length (fun k => if (k : Int) ∈ (order g).take i2 then idx (order g) k else 0) := ⟨_, rfl⟩
    rw [← hc0] at hlt hset ⊢
    refine VC.go 100 ?_
    simp only [push_cast, ↓reduceIte, Nat.reduceEqDiff, Nat.reduceAdd, Nat.reduceMul, Nat.reduceSub, Nat.reduceLT, Nat.reduceLeDiff, reduceCtorEq, Nat.reduceMod, Int.reduceEq, Int.reduceLT, Int.reduceLE, Int.reduceToNat, dite_true, h2', h20, hqm, hj', hj0, hlt, hset, ew]
    exact hG2 (i2 + 1) _ h2 (by omega) (by simp [subk, Eng.look]) (List.Sublist.refl _) rfl rfl
  have h2' : ¬ (i2 : Int) < ((order g).length : Int) := by omega
  rw [List.take_of_length_le (show (order g).length ≤ i2 from by omega)]
  refine VC.go 5 ?_
  simp only [push_cast, ↓reduceIte, Nat.reduceEqDiff, Nat.reduceAdd, Nat.reduceMul, Nat.reduceSub, Nat.reduceLT, Nat.reduceLeDiff, reduceCtorEq, Nat.reduceMod, Int.reduceEq, Int.reduceLT, Int.reduceLE, Int.reduceToNat, dite_true, h2']
  have hnum : rng g.nodes.length (fun k => if (k : Int) ∈ order g then idx (order g) k else 0) = ((List.range g.nodes.length).map (fnum g)).map (.int .i64) := by rw [List.map_map]; rfl
  rw [hnum]
  refine VC.freeze (m := ⟨3, bn, 3, _⟩) (M := [⟨0, b1, 25, [.slice pr g.roots.length cr, .slice pn g.nodes.length cn]⟩, ⟨1, b2, 25, [.slice none 0 0, .slice none 0 0]⟩]) (List.perm_append_comm (l₁ := [_, _]) (l₂ := [_])) fun F3 hF3 hbn => ?_
  dsimp only at hbn
  refine VC.emp (VC.reL [(6, .v (.slice (some ⟨bn, 0, none⟩) g.nodes.length g.nodes.length)), (3, .v (.slice pv (order g).length cv)), (2, .o 1 b2 0), (1, .o 0 b1 0)] (by simp [subv, Eng.look, AV.val]) (VC.go 100 ?_))
  have hnumI : Ints F3 (.slice (some ⟨bn, 0, none⟩) g.nodes.length g.nodes.length) ((List.range g.nodes.length).map (fnum g)) := ⟨some ⟨bn, 0, none⟩, g.nodes.length, by simp, by simp, hnmax, Src.blk hbn (by simp)⟩
  have hF03 := PH.le_trans hF02 hF3
  simp only [push_cast, ↓reduceIte, Nat.reduceEqDiff, Nat.reduceAdd, Nat.reduceMul, Nat.reduceSub, Nat.reduceLT, Nat.reduceLeDiff, reduceCtorEq, Nat.reduceMod, Int.reduceEq, Int.reduceLT, Int.reduceLE, Int.reduceToNat, dite_true]
  refine CallV.sl (namedR F3 _ _ _ _ g g.roots (fnum g) rfl (hvn'.mono hF03) (hvr'.mono hF03) hnumI hok.roots) ?_
  intro vr2 F4 mr2 hF4 hmr2 hvr2
  rw [named_idx g g.roots (fun y hy h => order_roots g hy h)] at hvr2 hmr2
  obtain rfl : mr2 = (norm g).roots.length := by simpa [norm] using hmr2.symm
  have hvr2' : Ints F4 vr2 (norm g).roots := hvr2
  obtain ⟨pr2, cr2, rfl, _⟩ := hvr2
  simp only [push_cast, ↓reduceIte, Nat.reduceEqDiff, Nat.reduceAdd, Nat.reduceMul, Nat.reduceSub, Nat.reduceLT, Nat.reduceLeDiff, reduceCtorEq, Nat.reduceMod, Int.reduceEq, Int.reduceLT, Int.reduceLE, Int.reduceToNat, dite_true]
  intro b8
  refine VC.loopW (ι := RSt) (fun s => [(9, .v (.int .i64 s.i)), (8, .o 4 b8 0), (6, .v (.slice (some ⟨bn, 0, none⟩) g.nodes.length g.nodes.length)), (3, .v (.slice pv (order g).length cv)), (2, .o 1 b2 0), (1, .o 0 b1 0)]) (fun s => [⟨0, b1, 25, [.slice pr g.roots.length cr, .slice pn g.nodes.length cn]⟩, ⟨1, b2, 25, [.slice none 0 0, .slice none 0 0]⟩, ⟨4, b8, 25, [.slice pr2 (norm g).roots.length cr2, s.vx]⟩]) (fun s => s.F) (fun s => [s.rx])
    (fun s => s.i ≤ (order g).length ∧ F4.le s.F ∧ Row s.rx 34 4 s.vx s.xs ∧ Each (RNd s.F) ((norm g).nodes.take s.i) s.xs) (fun s => (order g).length - s.i) ⟨0, [], .slice none 0 0, PH.emp, F4⟩ ⟨Nat.zero_le _, PH.le_refl _, Row.nil _ _, rfl⟩ (by simp [subk, Eng.look]) (List.Sublist.refl _) rfl (subR_refl _) ?_
  rintro ⟨i4, xs, vx, rx, F5⟩ ⟨hi4, hF5, hrx, hxs⟩ G4 hG4
  dsimp only at hi4 hF5 hrx hxs hG4 ⊢
  have hF25 : F2.le F5 := PH.le_trans hF3 (PH.le_trans hF4 hF5)
  have hF05 : F.le F5 := PH.le_trans hF02 hF25
  have hF35 : F3.le F5 := PH.le_trans hF4 hF5
  obtain ⟨px, mx, cx, rfl, hmx, hmx1, hmx2⟩ := hrx.len
  by_cases h4 : i4 < (order g).length
  case neg =>
    have h4' : ¬ (i4 : Int) < ((order g).length : Int) := by omega
    rw [List.take_of_length_le (by rw [norm_len]; omega)] at hxs
    refine VC.freezeR (List.Perm.refl _) fun F6 hF6 hrx6 => VC.go 100 ?_
    simp only [push_cast, ↓reduceIte, Nat.reduceEqDiff, Nat.reduceAdd, Nat.reduceMul, Nat.reduceSub, Nat.reduceLT, Nat.reduceLeDiff, reduceCtorEq, Nat.reduceMod, Int.reduceEq, Int.reduceLT, Int.reduceLE, Int.reduceToNat, dite_true, h4']
    refine RetOk.r (vs := [_]) (by simp only [push_cast, ↓reduceIte, Nat.reduceEqDiff, Nat.reduceAdd, Nat.reduceMul, Nat.reduceSub, Nat.reduceLT, Nat.reduceLeDiff, reduceCtorEq, Nat.reduceMod, Int.reduceEq, Int.reduceLT, Int.reduceLE, Int.reduceToNat, dite_true, rvals, rval1]; rfl) (.sub (List.nil_sublist _)) ⟨rfl, _, _, rfl, hvr2'.mono (PH.le_trans hF5 hF6), ?_⟩
    exact row_sle (by decide) (fun _ _ h => RNd.len _ _ h) hrx (hxs.mono fun _ _ _ h => h.mono hF6) hrx6
  have h4' : (i4 : Int) < ((order g).length : Int) := by omega
  have h40 : (0 : Int) ≤ (i4 : Int) := by omega
  have ew : IntKind.i64.wrap ((i4 : Int) + 1) = ((i4 + 1 : Nat) : Int) := wadd i4 h4 (Nat.le_trans hmv1 hmv2)
  obtain ⟨j, hj, ej⟩ := order_some g h4
  have hj' : (j : Int) < (g.nodes.length : Int) := by omega
  have hj0 : (0 : Int) ≤ (j : Int) := by omega
  have hnode := norm_node g h4 hj ej
  have hjo : (j : Int) ∈ order g := by rw [← ej]; exact List.getElem_mem h4
  obtain ⟨qm, rfl, hqm⟩ := (hm3.mono hF25).elem1 (i := i4) (v := .int .i64 j) (by rw [List.getElem?_map, List.getElem?_eq_getElem h4, ej]; rfl)
  obtain ⟨m, hmdef⟩ : ∃ m, m = g.nodes[j] := ⟨_, rfl⟩
  have hmm : m ∈ g.nodes := by rw [hmdef]; exact List.getElem_mem hj
  obtain ⟨q, _, cs, eq, _, _, kl, kr⟩ := (hvn'.mono hF05).elem (by decide) (i := j) (a := g.nodes[j]) (List.getElem?_eq_getElem hj) RNd.len
  cases eq
  rw [← hmdef] at kr hnode
  obtain ⟨un, uk, rfl, hun, huk⟩ := kr
  have huk' := huk
  obtain ⟨pun, cun, rfl, _, _, hun3⟩ := hun
  obtain ⟨puk, cuk, rfl, _⟩ := huk
  refine VC.go 100 ?_
  simp only [push_cast, ↓reduceIte, Nat.reduceEqDiff, Nat.reduceAdd, Nat.reduceMul, Nat.reduceSub, Nat.reduceLT, Nat.reduceLeDiff, reduceCtorEq, Nat.reduceMod, Int.reduceEq, Int.reduceLT, Int.reduceLE, Int.reduceToNat, dite_true, h4']
  refine VC.draw (.q 0 (.q 1 (.q 2 (.q 3 (.q 4 (.q 5 (.q 6 (.q 7 (.e 8 (.e 9 (.done))))))))))) mixed (by rfl) ?_
  simp only [push_cast, ↓reduceIte, Nat.reduceEqDiff, Nat.reduceAdd, Nat.reduceMul, Nat.reduceSub, Nat.reduceLT, Nat.reduceLeDiff, reduceCtorEq, Nat.reduceMod, Int.reduceEq, Int.reduceLT, Int.reduceLE, Int.reduceToNat, dite_true, h4', h40, hqm, hj', hj0, kl]
  intro b10
  refine VC.go 100 ?_
  simp only [push_cast, ↓reduceIte, Nat.reduceEqDiff, Nat.reduceAdd, Nat.reduceMul, Nat.reduceSub, Nat.reduceLT, Nat.reduceLeDiff, reduceCtorEq, Nat.reduceMod, Int.reduceEq, Int.reduceLT, Int.reduceLE, Int.reduceToNat, dite_true]
  refine VC.draw (.q 0 (.q 1 (.q 2 (.q 3 (.q 4 (.q 5 (.q 7 (.q 8 (.q 10 (.q 11 (.q 12 (.q 13 (.e 6 (.e 9 (.e 14 (.e 15 (.e 16 (.e 17 (.q 18 (.e 19 (.done))))))))))))))))))))) mixed (by rfl) ?_
  simp only [push_cast, ↓reduceIte, Nat.reduceEqDiff, Nat.reduceAdd, Nat.reduceMul, Nat.reduceSub, Nat.reduceLT, Nat.reduceLeDiff, reduceCtorEq, Nat.reduceMod, Int.reduceEq, Int.reduceLT, Int.reduceLE, Int.reduceToNat, dite_true]
  intro b74
  refine Eff.appendB (xs := []) rfl rfl rfl ty32 rfl ty40 rfl (by decide) rfl rfl (List.Perm.refl _) (Row.begin _ _ _) hun3 (by simp [Value.oneCell']) (by have := hok.nons m hmm; simp; unfold maxLen; omega) (by have := hok.nons m hmm; simp; omega) ?_
  intro vu ru hru
  rw [List.nil_append] at hru
  obtain ⟨pu, mu, cu, rfl, _⟩ := hru.len
  simp only [push_cast, ↓reduceIte, Nat.reduceEqDiff, Nat.reduceAdd, Nat.reduceMul, Nat.reduceSub, Nat.reduceLT, Nat.reduceLeDiff, reduceCtorEq, Nat.reduceMod, Int.reduceEq, Int.reduceLT, Int.reduceLE, Int.reduceToNat, dite_true]
  refine CallV.sl (namedR F5 _ _ _ _ g m.kids (fnum g) rfl (hvn'.mono hF05) huk' (hnumI.mono hF35) (hok.kids m hmm)) ?_
  intro vk F6 mk hF6 hmk hvk
  have hkin : ∀ y ∈ m.kids, 0 ≤ real g.nodes.length y → real g.nodes.length y ∈ order g := fun y hy h => order_kids g hjo (by unfold kidsOf; simp [hj, ← hmdef, hy]) h
  rw [named_idx g m.kids hkin] at hvk hmk
  obtain rfl : mk = (m.kids.map (idx (order g))).length := by simpa using hmk.symm
  have hvk' : Ints F6 vk (m.kids.map (idx (order g))) := hvk
  obtain ⟨pk, ck, rfl, _⟩ := hvk
  simp only [push_cast, ↓reduceIte, Nat.reduceEqDiff, Nat.reduceAdd, Nat.reduceMul, Nat.reduceSub, Nat.reduceLT, Nat.reduceLeDiff, reduceCtorEq, Nat.reduceMod, Int.reduceEq, Int.reduceLT, Int.reduceLE, Int.reduceToNat, dite_true]
  intro b84 F7 hF7 hb84
  refine Eff.append (ys := [.int .i64 m.kind, .int .i64 m.info, .slice pu mu cu, .slice pk (m.kids.map (idx (order g))).length ck]) rfl rfl rfl ty23 rfl ty34 rfl (by decide) rfl rfl (List.Perm.swap _ _ _) hrx (Src.blk hb84 rfl) (by simp [Value.oneCell']) (by have := Each.len (fun _ _ h => RNd.len _ _ h) hxs; simp at this ⊢; omega) (by decide) ?_
  intro vx2 rx2 hrx2
  obtain ⟨px2, mx2, cx2, rfl, _⟩ := hrx2.len
  simp only [push_cast, ↓reduceIte, Nat.reduceEqDiff, Nat.reduceAdd, Nat.reduceMul, Nat.reduceSub, Nat.reduceLT, Nat.reduceLeDiff, reduceCtorEq, Nat.reduceMod, Int.reduceEq, Int.reduceLT, Int.reduceLE, Int.reduceToNat, dite_true]
  refine VC.freezeR (List.Perm.swap _ _ _) fun F8 hF8 hru8 => VC.go 100 ?_
  have hF58 : F5.le F8 := PH.le_trans hF6 (PH.le_trans hF7 hF8)
  have hU := Row.us hru hru8
  have hi1 : i4 < (norm g).nodes.length := by rw [norm_len]; exact h4
  simp only [push_cast, ↓reduceIte, Nat.reduceEqDiff, Nat.reduceAdd, Nat.reduceMul, Nat.reduceSub, Nat.reduceLT, Nat.reduceLeDiff, reduceCtorEq, Nat.reduceMod, Int.reduceEq, Int.reduceLT, Int.reduceLE, Int.reduceToNat, dite_true, ew]
  refine hG4 ⟨i4 + 1, _, .slice px2 mx2 cx2, rx2, F8⟩ _ ⟨h4, PH.le_trans hF5 hF58, hrx2, ?_⟩ (by simp; omega) (by simp [subk, Eng.look]) (by simp) rfl (subR_refl _)
  dsimp only
  rw [List.take_succ_eq_append_getElem hi1, hnode]
  exact each_snoc (hxs.mono fun _ _ _ h => h.mono hF58) ⟨_, _, rfl, hU, hvk'.mono (PH.le_trans hF7 hF8)⟩
end Go.Proofs.Ythdbmbabfngakaa.G
