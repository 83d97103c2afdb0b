/- Graphs: rounds that leave out what is on the way, by definition. -/
import Derived.Test.YthdbmbabfngakaaH17
namespace Go.Proofs.Ythdbmbabfngakaa.G
open Go Go.Eng Go.Proofs Go.Proofs.Ythdbmbabfngakaa.T Go.Proofs.Ythdbmbabfngakaa.K
set_option linter.unusedSimpArgs false
set_option linter.unusedVariables false
set_option maxRecDepth 100000
set_option maxHeartbeats 4000000
theorem endG (F : PH) (ar av : Value) (g : Gr) (k : Int) (h1 : ar.oneCell' = true) (ha : Nodes F av g.nodes) (hok : Okg g) (hs : Small g) (hk : k < g.nodes.length) :
    PFn Try.prog 30 [.agg #[ar, av], .int .i64 k] F (fun v _ => v = .int .i64 (put g k)) :=
  endR F ar av g.nodes (nx g) k h1 ha hk hok.nodes (fun k _ _ => nx_lt hs k) fun F1 hF1 k h0 hk => leadsR F1 ar av g k h1 (ha.mono hF1) hs h0 hk
abbrev putNd (g : Gr) (m : Nd) : Nd := { m with kids := m.kids.map (put g) }
/-- Whether anything was moved: in the roots and the first nodes; and then in the first Kids. -/
def chgN (x : Gr) (i : Nat) : Bool := moves (put x) x.roots || (x.nodes.take i).any fun m => moves (put x) m.kids
def chg (x : Gr) (C : Bool) (l : List Int) : Bool := C || moves (put x) l
theorem chg_nil (x : Gr) (C : Bool) : chg x C [] = C := by simp [chg, moves]
theorem chg_snoc (x : Gr) (C : Bool) (l : List Int) (k : Int) : chg x C (l ++ [k]) = (chg x C l || !decide (put x k = k)) := by rw [chg, moves_snoc, ← Bool.or_assoc]; rfl
theorem chgN_zero (x : Gr) : chgN x 0 = moves (put x) x.roots := by simp [chgN]
theorem chgN_succ (x : Gr) {i : Nat} (h : i < x.nodes.length) : chgN x (i + 1) = chg x (chgN x i) x.nodes[i].kids := by
  rw [chgN, List.take_succ_eq_append_getElem h, List.any_append, chg, chgN]
  simp [Bool.or_assoc]
theorem chgN_all (x : Gr) {i : Nat} (h : x.nodes.length ≤ i) : chgN x i = turned x := by rw [chgN, List.take_of_length_le h]; rfl
structure TSt where
  g : Gr
  ch : Bool
  f : Nat
  vr : Value
  vn : Value
  F : PH
theorem shortR (F : PH) (vg : Value) (g : Gr) (hg : Gra F vg g) (hok : Okg g) : PFn Try.prog 14 [vg] F (fun v F' => Gra F' v (short g)) := by
  have hok1 := hok.norm
  have hsm1 : Small (norm g) := norm_small hok.nat
  have hg' := hg
  obtain ⟨vr0, vn0, rfl, hvr0, hvn0⟩ := hg
  obtain ⟨pr0, cr0, rfl, _⟩ := hvr0
  obtain ⟨pn0, cn0, rfl, _⟩ := hvn0.val
  refine Fn.intro (n := 104) (ts := [.cell 2 25]) Try.func14 rfl rfl rfl rfl (by simp) fun B hB => VC.go 100 ?_
  simp only [push_cast, ↓reduceIte, Nat.reduceEqDiff, Nat.reduceAdd, Nat.reduceMul, Nat.reduceSub, Nat.reduceLT, Nat.reduceLeDiff, reduceCtorEq, Nat.reduceMod, Int.reduceEq, Int.reduceLT, Int.reduceLE, Int.reduceToNat, dite_true]
  intro b1 b2
  refine CallV.pure (normR F _ g hg' hok) ?_
  rintro _ F1 hF1 ⟨vr, vn, rfl, hvr, hvn⟩
  have hgra : Gra F1 (.agg #[vr, vn]) (norm g) := ⟨vr, vn, rfl, hvr, hvn⟩
  obtain ⟨pr, cr, rfl, _⟩ := hvr
  obtain ⟨pn, cn, rfl, _⟩ := hvn.val
  obtain ⟨N, hN⟩ : ∃ N, N = (norm g).nodes.length := ⟨_, rfl⟩
  simp only [push_cast, ↓reduceIte, Nat.reduceEqDiff, Nat.reduceAdd, Nat.reduceMul, Nat.reduceSub, Nat.reduceLT, Nat.reduceLeDiff, reduceCtorEq, Nat.reduceMod, Int.reduceEq, Int.reduceLT, Int.reduceLE, Int.reduceToNat, dite_true]
  refine VC.loopM (ι := TSt) (fun s => [(3, .v (.bool s.ch)), (2, .o 1 b2 0), (1, .o 0 b1 0)]) (fun s => [⟨0, b1, 25, [s.vr, s.vn]⟩, ⟨1, b2, 25, [.slice none 0 0, .slice none 0 0]⟩]) (fun s => s.F)
    (fun s => F1.le s.F ∧ Gra s.F (.agg #[s.vr, s.vn]) s.g ∧ Okg s.g ∧ Small s.g ∧ s.g.nodes.length = N ∧ (s.ch = true → rounds s.f s.g = rounds (N + 2) (norm g) ∧ (Clean s.g ∨ N < s.f + busy s.g)) ∧ (s.ch = false → s.g = rounds (N + 2) (norm g)))
    (fun s => if s.ch then s.f + 1 else 0) ⟨norm g, true, N + 2, .slice pr (norm g).roots.length cr, .slice pn (norm g).nodes.length cn, F1⟩ ⟨PH.le_refl _, hgra, hok1, hsm1, hN.symm, fun _ => ⟨rfl, .inr (by dsimp only; omega)⟩, fun e => nomatch e⟩ (by simp [subk, Eng.look]) (List.Sublist.refl _) rfl ?_
  rintro ⟨x, ch, f, vr, vn, F2⟩ ⟨hF2, hx, hox, hsx, hxN, hT, hD⟩ G hG
  dsimp only at hF2 hx hox hsx hxN hT hD hG ⊢
  have hx' := hx
  obtain ⟨_, _, e, hvr, hvn⟩ := hx
  cases e
  have hvr' := hvr
  have hvn' := hvn
  obtain ⟨pr, cr, rfl, hr1, hr2, hr3⟩ := hvr
  obtain ⟨pn, cn, rfl, hn1, hn2⟩ := hvn.val
  cases ch with
  | false =>
    obtain rfl := hD rfl
    refine VC.go 100 ?_
    simp only [push_cast, ↓reduceIte, Nat.reduceEqDiff, Nat.reduceAdd, Nat.reduceMul, Nat.reduceSub, Nat.reduceLT, Nat.reduceLeDiff, reduceCtorEq, Nat.reduceMod, Int.reduceEq, Int.reduceLT, Int.reduceLE, Int.reduceToNat, dite_true]
    refine CallV.pure (normR F2 _ _ hx' hox) ?_
    rintro v F4 hF4 hgr
    have hgr' := hgr
    obtain ⟨_, _, rfl, h1, h2⟩ := hgr
    obtain ⟨_, _, rfl, _⟩ := h1
    obtain ⟨_, _, rfl, _⟩ := h2.val
    simp only [push_cast, ↓reduceIte, Nat.reduceEqDiff, Nat.reduceAdd, Nat.reduceMul, Nat.reduceSub, Nat.reduceLT, Nat.reduceLeDiff, reduceCtorEq, Nat.reduceMod, Int.reduceEq, Int.reduceLT, Int.reduceLE, Int.reduceToNat, dite_true]
    refine RetOk.r (vs := [_]) (by simp only [push_cast, ↓reduceIte, Nat.reduceEqDiff, Nat.reduceAdd, Nat.reduceMul, Nat.reduceSub, Nat.reduceLT, Nat.reduceLeDiff, reduceCtorEq, Nat.reduceMod, Int.reduceEq, Int.reduceLT, Int.reduceLE, Int.reduceToNat, dite_true, rvals, rval1]; rfl) (.sub (List.nil_sublist _)) ⟨rfl, ?_⟩
    unfold short
    rw [← hN]
    exact hgr'
  | true =>
  obtain ⟨hT1, hT2⟩ := hT rfl
  refine VC.emp (VC.go 100 ?_)
  simp only [push_cast, ↓reduceIte, Nat.reduceEqDiff, Nat.reduceAdd, Nat.reduceMul, Nat.reduceSub, Nat.reduceLT, Nat.reduceLeDiff, reduceCtorEq, Nat.reduceMod, Int.reduceEq, Int.reduceLT, Int.reduceLE, Int.reduceToNat, dite_true]
  intro b4
  refine VC.loopW (ι := Nat × Value × PH × PH) (fun i => [(5, .v (.int .i64 i.1)), (4, .o 2 b4 0), (3, .v (.bool (moves (put x) (x.roots.take i.1)))), (2, .o 1 b2 0), (1, .o 0 b1 0)]) (fun i => [⟨0, b1, 25, [.slice pr x.roots.length cr, .slice pn x.nodes.length cn]⟩, ⟨1, b2, 25, [.slice none 0 0, .slice none 0 0]⟩, ⟨2, b4, 25, [i.2.1, .slice none 0 0]⟩]) (fun i => i.2.2.2) (fun i => [i.2.2.1])
    (fun i => i.1 ≤ x.roots.length ∧ F2.le i.2.2.2 ∧ Row i.2.2.1 3 1 i.2.1 (((x.roots.take i.1).map (put x)).map (.int .i64))) (fun i => x.roots.length - i.1) (0, .slice none 0 0, PH.emp, F2) ⟨Nat.zero_le _, PH.le_refl _, Row.nil _ _⟩ (by simp [subk, Eng.look, moves]) (List.Sublist.refl _) rfl (subR_refl _) ?_
  rintro ⟨i, vi, ri, F3⟩ ⟨hi, hF3, hri⟩ G1 hG1
  dsimp only at hi hF3 hri hG1 ⊢
  obtain ⟨pv, mv, cv, rfl, hmv, _⟩ := hri.len
  by_cases h : i < x.roots.length
  · have h' : (i : Int) < (x.roots.length : Int) := by omega
    have h0 : (0 : Int) ≤ (i : Int) := by omega
    have ew : IntKind.i64.wrap ((i : Int) + 1) = ((i + 1 : Nat) : Int) := wadd i h (Nat.le_trans hr1 hr2)
    obtain ⟨ql, rfl, hql⟩ := (hr3.mono hF3).elem1 (i := i) (v := .int .i64 x.roots[i]) (by simp [h])
    refine VC.go 100 ?_
    simp only [push_cast, ↓reduceIte, Nat.reduceEqDiff, Nat.reduceAdd, Nat.reduceMul, Nat.reduceSub, Nat.reduceLT, Nat.reduceLeDiff, reduceCtorEq, Nat.reduceMod, Int.reduceEq, Int.reduceLT, Int.reduceLE, Int.reduceToNat, dite_true, h']
    refine VC.draw (.q 0 (.q 1 (.q 2 (.q 3 (.q 4 (.q 5 (.e 6 (.q 7 (.done))))))))) mixed (by rfl) ?_
    simp only [push_cast, ↓reduceIte, Nat.reduceEqDiff, Nat.reduceAdd, Nat.reduceMul, Nat.reduceSub, Nat.reduceLT, Nat.reduceLeDiff, reduceCtorEq, Nat.reduceMod, Int.reduceEq, Int.reduceLT, Int.reduceLE, Int.reduceToNat, dite_true, h', h0, hql]
    refine CallV.pure (endG F3 _ _ x x.roots[i] rfl (hvn'.mono hF3) hox hsx (hsx.roots _ (List.getElem_mem h))) ?_
    rintro _ F4 hF4 rfl
    have hql4 := hF4.cell hql
    simp only [push_cast, ↓reduceIte, Nat.reduceEqDiff, Nat.reduceAdd, Nat.reduceMul, Nat.reduceSub, Nat.reduceLT, Nat.reduceLeDiff, reduceCtorEq, Nat.reduceMod, Int.reduceEq, Int.reduceLT, Int.reduceLE, Int.reduceToNat, dite_true]
    refine VC.go 100 ?_
    have hch : moves (put x) (x.roots.take (i + 1)) = (moves (put x) (x.roots.take i) || !decide (put x x.roots[i] = x.roots[i])) := by rw [List.take_succ_eq_append_getElem h, moves_snoc]
    have hfin : ∀ (b5 : Nat) (F5 : PH) (S' : St), F4.le F5 → ∀ (v' : Value) (r' : PH), Row r' 3 1 v' (((x.roots.take i).map (put x)).map (.int .i64) ++ [.int .i64 (put x x.roots[i])]) → subk S'.L [(5, .v (.int .i64 ((i + 1 : Nat) : Int))), (4, .o 2 b4 0), (3, .v (.bool (moves (put x) (x.roots.take (i + 1))))), (2, .o 1 b2 0), (1, .o 0 b1 0)] → [⟨0, b1, 25, [.slice (some ql) x.roots.length cr, .slice pn x.nodes.length cn]⟩, ⟨1, b2, 25, [.slice none 0 0, .slice none 0 0]⟩, ⟨2, b4, 25, [v', .slice none 0 0]⟩].Sublist S'.M → S'.F = F5 → S'.R = [r'] → G1 S' := by
      intro b5 F5 S' hF5 v' r' hr' k1 k2 k3 k4
      refine hG1 (i + 1, v', r', F5) S' ⟨h, PH.le_trans hF3 (PH.le_trans hF4 hF5), ?_⟩ (by simp; omega) k1 k2 k3 (by rw [k4]; exact subR_refl _)
      dsimp only
      rw [List.take_succ_eq_append_getElem h, List.map_append, List.map_append]
      exact hr'
    by_cases hm : moves (put x) (x.roots.take i) = true
    · simp only [push_cast, ↓reduceIte, Nat.reduceEqDiff, Nat.reduceAdd, Nat.reduceMul, Nat.reduceSub, Nat.reduceLT, Nat.reduceLeDiff, reduceCtorEq, Nat.reduceMod, Int.reduceEq, Int.reduceLT, Int.reduceLE, Int.reduceToNat, dite_true, hm]
      intro b43 F5 hF5 hb43
      refine Eff.append (ys := [.int .i64 (put x x.roots[i])]) rfl rfl rfl ty22 rfl ty3 rfl (by decide) rfl rfl (List.Perm.refl _) hri (Src.blk hb43 rfl) (by simp [Value.oneCell']) (by have := hox.roots; simp; omega) (by decide) ?_
      intro v5 r5 hr5
      obtain ⟨p5, m5, c5, rfl, _⟩ := hr5.len
      simp only [push_cast, ↓reduceIte, Nat.reduceEqDiff, Nat.reduceAdd, Nat.reduceMul, Nat.reduceSub, Nat.reduceLT, Nat.reduceLeDiff, reduceCtorEq, Nat.reduceMod, Int.reduceEq, Int.reduceLT, Int.reduceLE, Int.reduceToNat, dite_true, ew]
      exact hfin 0 F5 _ hF5 _ r5 hr5 (by rw [hch, hm]; simp [subk, Eng.look]) (List.Sublist.refl _) rfl rfl
    · have hm' : moves (put x) (x.roots.take i) = false := by simpa using hm
      by_cases he : put x x.roots[i] = x.roots[i]
      · simp only [push_cast, ↓reduceIte, Nat.reduceEqDiff, Nat.reduceAdd, Nat.reduceMul, Nat.reduceSub, Nat.reduceLT, Nat.reduceLeDiff, reduceCtorEq, Nat.reduceMod, Int.reduceEq, Int.reduceLT, Int.reduceLE, Int.reduceToNat, dite_true, hm', h', h0, hql4, eq_true he]
        intro b43 F5 hF5 hb43
        refine Eff.append (ys := [.int .i64 (put x x.roots[i])]) rfl rfl rfl ty22 rfl ty3 rfl (by decide) rfl rfl (List.Perm.refl _) hri (Src.blk hb43 rfl) (by simp [Value.oneCell']) (by have := hox.roots; simp; omega) (by decide) ?_
        intro v5 r5 hr5
        obtain ⟨p5, m5, c5, rfl, _⟩ := hr5.len
        simp only [push_cast, ↓reduceIte, Nat.reduceEqDiff, Nat.reduceAdd, Nat.reduceMul, Nat.reduceSub, Nat.reduceLT, Nat.reduceLeDiff, reduceCtorEq, Nat.reduceMod, Int.reduceEq, Int.reduceLT, Int.reduceLE, Int.reduceToNat, dite_true, ew]
        exact hfin 0 F5 _ hF5 _ r5 hr5 (by rw [hch, hm']; simp [subk, Eng.look, he]) (List.Sublist.refl _) rfl rfl
      · simp only [push_cast, ↓reduceIte, Nat.reduceEqDiff, Nat.reduceAdd, Nat.reduceMul, Nat.reduceSub, Nat.reduceLT, Nat.reduceLeDiff, reduceCtorEq, Nat.reduceMod, Int.reduceEq, Int.reduceLT, Int.reduceLE, Int.reduceToNat, dite_true, hm', h', h0, hql4, he]
        intro b43 F5 hF5 hb43
        refine Eff.append (ys := [.int .i64 (put x x.roots[i])]) rfl rfl rfl ty22 rfl ty3 rfl (by decide) rfl rfl (List.Perm.refl _) hri (Src.blk hb43 rfl) (by simp [Value.oneCell']) (by have := hox.roots; simp; omega) (by decide) ?_
        intro v5 r5 hr5
        obtain ⟨p5, m5, c5, rfl, _⟩ := hr5.len
        simp only [push_cast, ↓reduceIte, Nat.reduceEqDiff, Nat.reduceAdd, Nat.reduceMul, Nat.reduceSub, Nat.reduceLT, Nat.reduceLeDiff, reduceCtorEq, Nat.reduceMod, Int.reduceEq, Int.reduceLT, Int.reduceLE, Int.reduceToNat, dite_true, ew]
        exact hfin 0 F5 _ hF5 _ r5 hr5 (by rw [hch, hm']; simp [subk, Eng.look, he]) (List.Sublist.refl _) rfl rfl
  have h' : ¬ (i : Int) < (x.roots.length : Int) := by omega
  rw [List.take_of_length_le (show x.roots.length ≤ i from by omega)] at hri ⊢
  refine VC.go 5 ?_
  simp only [push_cast, ↓reduceIte, Nat.reduceEqDiff, Nat.reduceAdd, Nat.reduceMul, Nat.reduceSub, Nat.reduceLT, Nat.reduceLeDiff, reduceCtorEq, Nat.reduceMod, Int.reduceEq, Int.reduceLT, Int.reduceLE, Int.reduceToNat, dite_true, h']
  refine VC.freezeR (List.Perm.refl _) fun F4 hF4 hri4 => VC.emp (VC.go 100 ?_)
  simp only [push_cast, ↓reduceIte, Nat.reduceEqDiff, Nat.reduceAdd, Nat.reduceMul, Nat.reduceSub, Nat.reduceLT, Nat.reduceLeDiff, reduceCtorEq, Nat.reduceMod, Int.reduceEq, Int.reduceLT, Int.reduceLE, Int.reduceToNat, dite_true]
  have hR4 : Ints F4 (.slice pv mv cv) (round x).roots := Row.ints hri hri4
  have hnmax : x.nodes.length ≤ maxLen := Nat.le_trans hn1 hn2
  refine VC.loopW (ι := RSt) (fun s => [(7, .v (.int .i64 s.i)), (4, .o 2 b4 0), (3, .v (.bool (chgN x s.i))), (2, .o 1 b2 0), (1, .o 0 b1 0)]) (fun s => [⟨0, b1, 25, [.slice pr x.roots.length cr, .slice pn x.nodes.length cn]⟩, ⟨1, b2, 25, [.slice none 0 0, .slice none 0 0]⟩, ⟨2, b4, 25, [.slice pv mv cv, s.vx]⟩]) (fun s => s.F) (fun s => [s.rx])
    (fun s => s.i ≤ x.nodes.length ∧ F4.le s.F ∧ Row s.rx 34 4 s.vx s.xs ∧ Each (RNd s.F) ((x.nodes.take s.i).map (putNd x)) s.xs) (fun s => x.nodes.length - s.i) ⟨0, [], .slice none 0 0, PH.emp, F4⟩ ⟨Nat.zero_le _, PH.le_refl _, Row.nil _ _, rfl⟩ (by simp [subk, Eng.look, chgN_zero]) (List.Sublist.refl _) rfl (subR_refl _) ?_
  rintro ⟨i2, xs, vx, rx, F5⟩ ⟨hi2, hF5, hrx, hxs⟩ G2 hG2
  dsimp only at hi2 hF5 hrx hxs hG2 ⊢
  obtain ⟨px, mx, cx, rfl, hmx, _⟩ := hrx.len
  have hF25 : F2.le F5 := PH.le_trans hF3 (PH.le_trans hF4 hF5)
  by_cases h2 : i2 < x.nodes.length
  case neg =>
    have h2' : ¬ (i2 : Int) < (x.nodes.length : Int) := by omega
    rw [List.take_of_length_le (show x.nodes.length ≤ i2 from by omega)] at hxs
    rw [chgN_all x (by omega)]
    refine VC.freezeR (List.Perm.refl _) fun F6 hF6 hrx6 => VC.go 100 ?_
    have hN6 : Nodes F6 (.slice px mx cx) (round x).nodes := row_sle (by decide) (fun _ _ h => RNd.len _ _ h) hrx (hxs.mono fun _ _ _ h => h.mono hF6) hrx6
    have hG6 : Gra F6 (.agg #[.slice pv mv cv, .slice px mx cx]) (round x) := ⟨_, _, rfl, hR4.mono (PH.le_trans hF5 hF6), hN6⟩
    have hF26 := PH.le_trans hF25 hF6
    simp only [push_cast, ↓reduceIte, Nat.reduceEqDiff, Nat.reduceAdd, Nat.reduceMul, Nat.reduceSub, Nat.reduceLT, Nat.reduceLeDiff, reduceCtorEq, Nat.reduceMod, Int.reduceEq, Int.reduceLT, Int.reduceLE, Int.reduceToNat, dite_true, h2']
    by_cases hc : Clean x
    · have ht : turned x = false := turned_no.2 hc
      rw [round_clean hc] at hG6
      rw [ht]
      refine hG ⟨x, false, 0, .slice pv mv cv, .slice px mx cx, F6⟩ _ ⟨PH.le_trans hF2 hF26, hG6, hox, hsx, hxN, fun e => (nomatch e), fun _ => ?_⟩ (by simp) (by simp [subk, Eng.look]) (by simp) rfl rfl
      rw [← hT1, rounds_clean hc]
    · have ht : turned x = true := by
        cases e : turned x with
        | true => rfl
        | false => exact absurd (turned_no.1 e) hc
      have hf : N < f + busy x := hT2.resolve_left hc
      have hbl := busy_le x
      obtain ⟨f', rfl⟩ : ∃ f', f = f' + 1 := ⟨f - 1, by omega⟩
      rw [ht]
      refine hG ⟨round x, true, f', .slice pv mv cv, .slice px mx cx, F6⟩ _ ⟨PH.le_trans hF2 hF26, hG6, hox.round, round_small hsx, by rw [round_len]; exact hxN, fun _ => ⟨?_, ?_⟩, fun e => (nomatch e)⟩ (by simp) (by simp [subk, Eng.look]) (by simp) rfl rfl
      · rw [← hT1]
        show rounds f' (round x) = rounds (f' + 1) x
        rw [rounds, if_neg hc]
      · by_cases hc2 : Clean (round x)
        · exact .inl hc2
        · have := busy_more hsx hc2
          exact .inr (by dsimp only; omega)
  have h2' : (i2 : Int) < (x.nodes.length : Int) := by omega
  have h20 : (0 : Int) ≤ (i2 : Int) := by omega
  have ew2 : IntKind.i64.wrap ((i2 : Int) + 1) = ((i2 + 1 : Nat) : Int) := wadd i2 h2 hnmax
  obtain ⟨q, _, cs, eq, _, _, kl, kr⟩ := (hvn'.mono hF25).elem (by decide) (i := i2) (a := x.nodes[i2]) (List.getElem?_eq_getElem h2) RNd.len
  cases eq
  obtain ⟨m, hmdef⟩ : ∃ m, m = x.nodes[i2] := ⟨_, rfl⟩
  have hmm : m ∈ x.nodes := by rw [hmdef]; exact List.getElem_mem h2
  have hsucc := chgN_succ x h2
  rw [← hmdef] at kr hsucc
  obtain ⟨un, uk, rfl, hun, huk⟩ := kr
  have hun' := hun
  obtain ⟨pun, cun, rfl, _⟩ := hun
  obtain ⟨puk, cuk, rfl, huk1, huk2, huk3⟩ := huk
  refine VC.emp (VC.go 100 ?_)
  simp only [push_cast, ↓reduceIte, Nat.reduceEqDiff, Nat.reduceAdd, Nat.reduceMul, Nat.reduceSub, Nat.reduceLT, Nat.reduceLeDiff, reduceCtorEq, Nat.reduceMod, Int.reduceEq, Int.reduceLT, Int.reduceLE, Int.reduceToNat, dite_true, h2', h20, kl]
  intro b8 b9
  refine VC.loopW (ι := Nat × Value × PH × PH) (fun i => [(10, .v (.int .i64 i.1)), (9, .o 4 b9 0), (8, .o 3 b8 0), (7, .v (.int .i64 i2)), (4, .o 2 b4 0), (3, .v (.bool (chg x (chgN x i2) (m.kids.take i.1)))), (2, .o 1 b2 0), (1, .o 0 b1 0)]) (fun i => [⟨0, b1, 25, [.slice pr x.roots.length cr, .slice (some q) x.nodes.length cn]⟩, ⟨1, b2, 25, [.slice none 0 0, .slice none 0 0]⟩, ⟨2, b4, 25, [.slice pv mv cv, .slice px mx cx]⟩, ⟨3, b8, 34, [.int .i64 m.kind, .int .i64 m.info, .slice pun m.nons.length cun, .slice puk m.kids.length cuk]⟩, ⟨4, b9, 34, [.int .i64 m.kind, .int .i64 m.info, .slice pun m.nons.length cun, i.2.1]⟩]) (fun i => i.2.2.2) (fun i => [i.2.2.1, rx])
    (fun i => i.1 ≤ m.kids.length ∧ F5.le i.2.2.2 ∧ Row i.2.2.1 3 1 i.2.1 (((m.kids.take i.1).map (put x)).map (.int .i64))) (fun i => m.kids.length - i.1) (0, .slice none 0 0, PH.emp, F5) ⟨Nat.zero_le _, PH.le_refl _, Row.nil _ _⟩ (by simp [subk, Eng.look, chg_nil]) (List.Sublist.refl _) rfl (subR_refl _) ?_
  rintro ⟨j, vk, rk, F6⟩ ⟨hj, hF6, hrk⟩ G3 hG3
  dsimp only at hj hF6 hrk hG3 ⊢
  obtain ⟨pk, mk, ck, rfl, hmk, _⟩ := hrk.len
  by_cases h : j < m.kids.length
  · have h' : (j : Int) < (m.kids.length : Int) := by omega
    have h0 : (0 : Int) ≤ (j : Int) := by omega
    have ew : IntKind.i64.wrap ((j : Int) + 1) = ((j + 1 : Nat) : Int) := wadd j h (Nat.le_trans huk1 huk2)
    obtain ⟨ql, rfl, hql⟩ := (huk3.mono hF6).elem1 (i := j) (v := .int .i64 m.kids[j]) (by simp [h])
    refine VC.go 100 ?_
    simp only [push_cast, ↓reduceIte, Nat.reduceEqDiff, Nat.reduceAdd, Nat.reduceMul, Nat.reduceSub, Nat.reduceLT, Nat.reduceLeDiff, reduceCtorEq, Nat.reduceMod, Int.reduceEq, Int.reduceLT, Int.reduceLE, Int.reduceToNat, dite_true, h']
    refine VC.draw (.q 0 (.q 1 (.q 2 (.q 3 (.q 4 (.q 5 (.e 6 (.q 7 (.done))))))))) mixed (by rfl) ?_
    simp only [push_cast, ↓reduceIte, Nat.reduceEqDiff, Nat.reduceAdd, Nat.reduceMul, Nat.reduceSub, Nat.reduceLT, Nat.reduceLeDiff, reduceCtorEq, Nat.reduceMod, Int.reduceEq, Int.reduceLT, Int.reduceLE, Int.reduceToNat, dite_true, h', h0, hql]
    refine CallV.pure (endG F6 _ _ x m.kids[j] rfl (hvn'.mono (PH.le_trans hF25 hF6)) hox hsx (hsx.kids m hmm _ (List.getElem_mem h))) ?_
    rintro _ F7 hF7 rfl
    have hql7 := hF7.cell hql
    simp only [push_cast, ↓reduceIte, Nat.reduceEqDiff, Nat.reduceAdd, Nat.reduceMul, Nat.reduceSub, Nat.reduceLT, Nat.reduceLeDiff, reduceCtorEq, Nat.reduceMod, Int.reduceEq, Int.reduceLT, Int.reduceLE, Int.reduceToNat, dite_true]
    refine VC.go 100 ?_
    have hch : chg x (chgN x i2) (m.kids.take (j + 1)) = (chg x (chgN x i2) (m.kids.take j) || !decide (put x m.kids[j] = m.kids[j])) := by rw [List.take_succ_eq_append_getElem h, chg_snoc]
    have hfin : ∀ (F8 : PH) (S' : St), F7.le F8 → ∀ (v' : Value) (r' : PH), Row r' 3 1 v' (((m.kids.take j).map (put x)).map (.int .i64) ++ [.int .i64 (put x m.kids[j])]) → subk S'.L [(10, .v (.int .i64 ((j + 1 : Nat) : Int))), (9, .o 4 b9 0), (8, .o 3 b8 0), (7, .v (.int .i64 i2)), (4, .o 2 b4 0), (3, .v (.bool (chg x (chgN x i2) (m.kids.take (j + 1))))), (2, .o 1 b2 0), (1, .o 0 b1 0)] → [⟨0, b1, 25, [.slice pr x.roots.length cr, .slice (some q) x.nodes.length cn]⟩, ⟨1, b2, 25, [.slice none 0 0, .slice none 0 0]⟩, ⟨2, b4, 25, [.slice pv mv cv, .slice px mx cx]⟩, ⟨3, b8, 34, [.int .i64 m.kind, .int .i64 m.info, .slice pun m.nons.length cun, .slice (some ql) m.kids.length cuk]⟩, ⟨4, b9, 34, [.int .i64 m.kind, .int .i64 m.info, .slice pun m.nons.length cun, v']⟩].Sublist S'.M → S'.F = F8 → S'.R = [r', rx] → G3 S' := by
      intro F8 S' hF8 v' r' hr' k1 k2 k3 k4
      refine hG3 (j + 1, v', r', F8) S' ⟨h, PH.le_trans hF6 (PH.le_trans hF7 hF8), ?_⟩ (by simp; omega) k1 k2 k3 (by rw [k4]; exact subR_refl _)
      dsimp only
      rw [List.take_succ_eq_append_getElem h, List.map_append, List.map_append]
      exact hr'
    by_cases hm : chg x (chgN x i2) (m.kids.take j) = true
    · simp only [push_cast, ↓reduceIte, Nat.reduceEqDiff, Nat.reduceAdd, Nat.reduceMul, Nat.reduceSub, Nat.reduceLT, Nat.reduceLeDiff, reduceCtorEq, Nat.reduceMod, Int.reduceEq, Int.reduceLT, Int.reduceLE, Int.reduceToNat, dite_true, hm]
      intro b43 F8 hF8 hb43
      refine Eff.append (ys := [.int .i64 (put x m.kids[j])]) rfl rfl rfl ty22 rfl ty3 rfl (by decide) rfl rfl (List.Perm.refl _) hrk (Src.blk hb43 rfl) (by simp [Value.oneCell']) (by have := hox.kids m hmm; simp; omega) (by decide) ?_
      intro v5 r5 hr5
      obtain ⟨p5, m5, c5, rfl, _⟩ := hr5.len
      simp only [push_cast, ↓reduceIte, Nat.reduceEqDiff, Nat.reduceAdd, Nat.reduceMul, Nat.reduceSub, Nat.reduceLT, Nat.reduceLeDiff, reduceCtorEq, Nat.reduceMod, Int.reduceEq, Int.reduceLT, Int.reduceLE, Int.reduceToNat, dite_true, ew]
      exact hfin F8 _ hF8 _ r5 hr5 (by rw [hch, hm]; simp [subk, Eng.look]) (List.Sublist.refl _) rfl rfl
    · have hm' : chg x (chgN x i2) (m.kids.take j) = false := by simpa using hm
      by_cases he : put x m.kids[j] = m.kids[j]
      · simp only [push_cast, ↓reduceIte, Nat.reduceEqDiff, Nat.reduceAdd, Nat.reduceMul, Nat.reduceSub, Nat.reduceLT, Nat.reduceLeDiff, reduceCtorEq, Nat.reduceMod, Int.reduceEq, Int.reduceLT, Int.reduceLE, Int.reduceToNat, dite_true, hm', h', h0, hql7, eq_true he]
        intro b43 F8 hF8 hb43
        refine Eff.append (ys := [.int .i64 (put x m.kids[j])]) rfl rfl rfl ty22 rfl ty3 rfl (by decide) rfl rfl (List.Perm.refl _) hrk (Src.blk hb43 rfl) (by simp [Value.oneCell']) (by have := hox.kids m hmm; simp; omega) (by decide) ?_
        intro v5 r5 hr5
        obtain ⟨p5, m5, c5, rfl, _⟩ := hr5.len
        simp only [push_cast, ↓reduceIte, Nat.reduceEqDiff, Nat.reduceAdd, Nat.reduceMul, Nat.reduceSub, Nat.reduceLT, Nat.reduceLeDiff, reduceCtorEq, Nat.reduceMod, Int.reduceEq, Int.reduceLT, Int.reduceLE, Int.reduceToNat, dite_true, ew]
        exact hfin F8 _ hF8 _ r5 hr5 (by rw [hch, hm']; simp [subk, Eng.look, he]) (List.Sublist.refl _) rfl rfl
      · simp only [push_cast, ↓reduceIte, Nat.reduceEqDiff, Nat.reduceAdd, Nat.reduceMul, Nat.reduceSub, Nat.reduceLT, Nat.reduceLeDiff, reduceCtorEq, Nat.reduceMod, Int.reduceEq, Int.reduceLT, Int.reduceLE, Int.reduceToNat, dite_true, hm', h', h0, hql7, he]
        intro b43 F8 hF8 hb43
        refine Eff.append (ys := [.int .i64 (put x m.kids[j])]) rfl rfl rfl ty22 rfl ty3 rfl (by decide) rfl rfl (List.Perm.refl _) hrk (Src.blk hb43 rfl) (by simp [Value.oneCell']) (by have := hox.kids m hmm; simp; omega) (by decide) ?_
        intro v5 r5 hr5
        obtain ⟨p5, m5, c5, rfl, _⟩ := hr5.len
        simp only [push_cast, ↓reduceIte, Nat.reduceEqDiff, Nat.reduceAdd, Nat.reduceMul, Nat.reduceSub, Nat.reduceLT, Nat.reduceLeDiff, reduceCtorEq, Nat.reduceMod, Int.reduceEq, Int.reduceLT, Int.reduceLE, Int.reduceToNat, dite_true, ew]
        exact hfin F8 _ hF8 _ r5 hr5 (by rw [hch, hm']; simp [subk, Eng.look, he]) (List.Sublist.refl _) rfl rfl
  have h' : ¬ (j : Int) < (m.kids.length : Int) := by omega
  rw [List.take_of_length_le (show m.kids.length ≤ j from by omega)] at hrk ⊢
  rw [← hsucc]
  refine VC.go 5 ?_
  simp only [push_cast, ↓reduceIte, Nat.reduceEqDiff, Nat.reduceAdd, Nat.reduceMul, Nat.reduceSub, Nat.reduceLT, Nat.reduceLeDiff, reduceCtorEq, Nat.reduceMod, Int.reduceEq, Int.reduceLT, Int.reduceLE, Int.reduceToNat, dite_true, h']
  refine VC.freezeR (List.Perm.refl _) fun F7 hF7 hrk7 => VC.go 100 ?_
  have hK := Row.ints hrk hrk7
  simp only [push_cast, ↓reduceIte, Nat.reduceEqDiff, Nat.reduceAdd, Nat.reduceMul, Nat.reduceSub, Nat.reduceLT, Nat.reduceLeDiff, reduceCtorEq, Nat.reduceMod, Int.reduceEq, Int.reduceLT, Int.reduceLE, Int.reduceToNat, dite_true]
  intro b98 F8 hF8 hb98
  refine Eff.append (ys := [.int .i64 m.kind, .int .i64 m.info, .slice pun m.nons.length cun, .slice pk mk ck]) rfl rfl rfl ty23 rfl ty34 rfl (by decide) rfl rfl (List.Perm.refl _) hrx (Src.blk hb98 rfl) (by simp [Value.oneCell']) (by have := Each.len (fun _ _ h => RNd.len _ _ h) hxs; have := hox.nodes; simp at *; omega) (by decide) ?_
  intro vx2 rx2 hrx2
  obtain ⟨px2, mx2, cx2, rfl, _⟩ := hrx2.len
  have hF58 : F5.le F8 := PH.le_trans hF6 (PH.le_trans hF7 hF8)
  simp only [push_cast, ↓reduceIte, Nat.reduceEqDiff, Nat.reduceAdd, Nat.reduceMul, Nat.reduceSub, Nat.reduceLT, Nat.reduceLeDiff, reduceCtorEq, Nat.reduceMod, Int.reduceEq, Int.reduceLT, Int.reduceLE, Int.reduceToNat, dite_true, ew2]
  refine hG2 ⟨i2 + 1, _, .slice px2 mx2 cx2, rx2, F8⟩ _ ⟨h2, PH.le_trans hF5 hF58, hrx2, ?_⟩ (by simp; omega) (by simp [subk, Eng.look]) (by simp) rfl (subR_refl _)
  dsimp only
  rw [List.take_succ_eq_append_getElem h2, ← hmdef, List.map_append]
  exact each_snoc (hxs.mono fun _ _ _ h => h.mono hF58) ⟨_, _, rfl, hun'.mono hF58, hK.mono hF8⟩
end Go.Proofs.Ythdbmbabfngakaa.G
