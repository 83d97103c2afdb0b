/- Texts: reading them. (Written by gen/r234.py.) -/
import Derived.Test.YtoepmdbicdoieaaDoorR3
namespace Go.Proofs.YtoepmdbicdoieaaDoor.X
open Go Go.Eng Go.Proofs Go.Proofs.YtoepmdbicdoieaaDoor.T Go.Proofs.YtoepmdbicdoieaaDoor.K
set_option linter.unusedSimpArgs false
set_option linter.unusedVariables false
set_option maxRecDepth 100000
set_option maxHeartbeats 8000000
abbrev progZ : List Value := [.slice none 0 0, .slice none 0 0]
theorem parse (s : ByteArray) (F : PH) : PFn Tryd.prog 15 [.string s] F
    (fun v F' => ∃ vd vb a e ds bl, v = .tuple #[.agg #[vd, vb], .int .i64 a, .int .i64 e] ∧ Dats F' vd ds ∧ SlE F' 11 (RBind F') vb bl ∧ (e = 0 → sizeBs bl ≤ 700000) ∧ ParseR s ds bl a e) := by
  refine Fn.intro (n := 89) (ts := [.cell 2 25, 3, 4]) Tryd.func15 rfl rfl rfl rfl (by simp) fun B hB => ?_
  refine VC.go 6 ?_
  simp only [push_cast, ↓reduceIte, Nat.reduceEqDiff, Nat.reduceAdd, Nat.reduceMul, Nat.reduceSub, Nat.reduceLT, Nat.reduceLeDiff, reduceCtorEq, Nat.reduceMod, Int.reduceEq, Int.reduceLT, Int.reduceLE, Int.reduceToNat, dite_true]
  intro b2
  refine CallV.pure (scan s F) ?_
  rintro _ F1 hF1 ⟨sl, rfl, htok, hfew, hshort⟩
  obtain ⟨⟨l, a0, e0⟩, hsc⟩ : ∃ r, r = scanAll s := ⟨_, rfl⟩
  rw [← hsc] at htok hfew hshort ⊢
  dsimp only at htok hfew hshort ⊢
  have htok' := htok
  obtain ⟨pt, ct, rfl, ht1, ht2⟩ := htok.val
  have hl1 : Giv F1 (.slice pt l.length ct) l := ⟨htok', hfew, hshort⟩
  simp only [push_cast, ↓reduceIte, Nat.reduceEqDiff, Nat.reduceAdd, Nat.reduceMul, Nat.reduceSub, Nat.reduceLT, Nat.reduceLeDiff, reduceCtorEq, Nat.reduceMod, Int.reduceEq, Int.reduceLT, Int.reduceLE, Int.reduceToNat, dite_true]
  by_cases h0 : e0 = 0
  case neg =>
    refine VC.go 100 ?_
    simp only [push_cast, ↓reduceIte, Nat.reduceEqDiff, Nat.reduceAdd, Nat.reduceMul, Nat.reduceSub, Nat.reduceLT, Nat.reduceLeDiff, reduceCtorEq, Nat.reduceMod, Int.reduceEq, Int.reduceLT, Int.reduceLE, Int.reduceToNat, dite_true, h0]
    refine ⟨[_, _, _], [], (by simp only [push_cast, ↓reduceIte, Nat.reduceEqDiff, Nat.reduceAdd, Nat.reduceMul, Nat.reduceSub, Nat.reduceLT, Nat.reduceLeDiff, reduceCtorEq, Nat.reduceMod, Int.reduceEq, Int.reduceLT, Int.reduceLE, Int.reduceToNat, dite_true, rvals, rval1] <;> rfl), .sub (List.nil_sublist _), rfl, ?_⟩
    exact ⟨_, _, _, _, [], [], rfl, nil_sle _ _ _, nil_sle _ _ _, fun _ => Nat.zero_le _, by unfold ParseR; rw [← hsc, if_neg h0]; exact ⟨rfl, rfl, rfl, rfl⟩⟩
  subst h0
  refine VC.go 8 ?_
  simp only [push_cast, ↓reduceIte, Nat.reduceEqDiff, Nat.reduceAdd, Nat.reduceMul, Nat.reduceSub, Nat.reduceLT, Nat.reduceLeDiff, reduceCtorEq, Nat.reduceMod, Int.reduceEq, Int.reduceLT, Int.reduceLE, Int.reduceToNat, dite_true]
  intro b8 b9
  refine VC.cutMR (ι := Rd × List Dat × Value × PH) (fun i => [(9, .o 2 b9 0), (8, .o 1 b8 0), (4, .v (.int .i64 0)), (3, .v (.int .i64 0)), (2, .o 0 b2 0)]) (fun i => [⟨0, b2, 25, progZ⟩, ⟨1, b8, 97, rdC (.slice pt l.length ct) s.size i.1⟩, ⟨2, b9, 25, [i.2.2.1, (.slice none 0 0)]⟩]) (fun i => i.2.2.2) (fun _ => []) (fun i => F1.le i.2.2.2 ∧ i.1.at_ ≤ l.length ∧ Dats i.2.2.2 i.2.2.1 i.2.1 ∧ DatasR l s.size ⟨0, false, 0, 0⟩ i.2.1 i.1) ?_ ?_
  · intro G2 hG2
    refine VC.go 100 ?_
    simp only [push_cast, ↓reduceIte, Nat.reduceEqDiff, Nat.reduceAdd, Nat.reduceMul, Nat.reduceSub, Nat.reduceLT, Nat.reduceLeDiff, reduceCtorEq, Nat.reduceMod, Int.reduceEq, Int.reduceLT, Int.reduceLE, Int.reduceToNat, dite_true]
    refine VC.emp ?_
    refine VC.loopMR (ι := Rd × List Dat × Value × PH × PH) (fun i => [(9, .o 2 b9 0), (8, .o 1 b8 0), (4, .v (.int .i64 0)), (3, .v (.int .i64 0)), (2, .o 0 b2 0)]) (fun i => [⟨0, b2, 25, progZ⟩, ⟨1, b8, 97, rdC (.slice pt l.length ct) s.size i.1⟩, ⟨2, b9, 25, [i.2.2.1, (.slice none 0 0)]⟩]) (fun i => i.2.2.2.1) (fun i => [i.2.2.2.2]) (fun i => F1.le i.2.2.2.1 ∧ i.1.at_ ≤ l.length ∧ i.2.1.length ≤ i.1.at_ ∧ (∃ xs, Row i.2.2.2.2 72 3 i.2.2.1 xs ∧ Each RDat i.2.1 xs) ∧ ∀ ms u, DatasR l s.size i.1 ms u → DatasR l s.size ⟨0, false, 0, 0⟩ (i.2.1 ++ ms) u) (fun i => l.length - i.1.at_) (⟨0, false, 0, 0⟩, [], .slice none 0 0, F1, PH.emp) ⟨PH.le_refl _, Nat.zero_le _, Nat.zero_le _, ⟨[], Row.nil _ _, rfl⟩, fun _ _ q => q⟩ (by simp [subk, Eng.look]) (List.Sublist.refl _) rfl (subR_refl _) ?_
    rintro ⟨r, ds, v, F2, row⟩ ⟨hF2, hr, hlen, ⟨xs, hrow, hea⟩, hdm⟩ G hG
    dsimp only at hF2 hr hlen hrow hea hdm hG ⊢
    have hxl := Each.len (fun _ _ h => RDat.len h) hea
    obtain ⟨pD, nD, cD, rfl⟩ := hrow.val
    refine VC.go 3 ?_
    simp only [push_cast, ↓reduceIte, Nat.reduceEqDiff, Nat.reduceAdd, Nat.reduceMul, Nat.reduceSub, Nat.reduceLT, Nat.reduceLeDiff, reduceCtorEq, Nat.reduceMod, Int.reduceEq, Int.reduceLT, Int.reduceLE, Int.reduceToNat, dite_true]
    refine CallV.own (i := 1) rfl (is_ F2 b8 (.slice pt l.length ct) l s.size r ⟨#[100, 97, 116, 97]⟩ (hl1.mono hF2) hr) ?_
    rintro _ F3 _ hF3 ⟨rfl, rfl⟩
    have hF13 := PH.le_trans hF2 hF3
    cases hk : isR l s.size r ⟨#[100, 97, 116, 97]⟩ with
    | false =>
      simp only [push_cast, ↓reduceIte, Nat.reduceEqDiff, Nat.reduceAdd, Nat.reduceMul, Nat.reduceSub, Nat.reduceLT, Nat.reduceLeDiff, reduceCtorEq, Nat.reduceMod, Int.reduceEq, Int.reduceLT, Int.reduceLE, Int.reduceToNat, dite_true]
      refine VC.freezeR (List.Perm.refl _) fun F4 hF4 hrF => ?_
      refine VC.go 100 ?_
      simp only [push_cast, ↓reduceIte, Nat.reduceEqDiff, Nat.reduceAdd, Nat.reduceMul, Nat.reduceSub, Nat.reduceLT, Nat.reduceLeDiff, reduceCtorEq, Nat.reduceMod, Int.reduceEq, Int.reduceLT, Int.reduceLE, Int.reduceToNat, dite_true]
      exact hG2 (r, ds, .slice pD nD cD, F4) _ ⟨PH.le_trans hF13 hF4, hr, row_sle (by decide) (fun _ _ h => RDat.len h) hrow hea hrF, by have := hdm [] r (.done hk); rwa [List.append_nil] at this⟩ (by simp [subk, Eng.look]) (List.Sublist.refl _) rfl ⟨[], List.nil_sublist _, .refl _⟩
    | true =>
    obtain ⟨g1, g2, g3⟩ := go_on (isR_k hk)
    simp only [push_cast, ↓reduceIte, Nat.reduceEqDiff, Nat.reduceAdd, Nat.reduceMul, Nat.reduceSub, Nat.reduceLT, Nat.reduceLeDiff, reduceCtorEq, Nat.reduceMod, Int.reduceEq, Int.reduceLT, Int.reduceLE, Int.reduceToNat, dite_true]
    refine VC.go 100 ?_
    simp only [push_cast, ↓reduceIte, Nat.reduceEqDiff, Nat.reduceAdd, Nat.reduceMul, Nat.reduceSub, Nat.reduceLT, Nat.reduceLeDiff, reduceCtorEq, Nat.reduceMod, Int.reduceEq, Int.reduceLT, Int.reduceLE, Int.reduceToNat, dite_true]
    refine CallV.own (i := 1) rfl (on F3 b8 (.slice pt l.length ct) l s.size r (hl1.mono hF13) hr) ?_
    rintro _ F4 _ hF4 rfl
    have hF14 := PH.le_trans hF13 hF4
    simp only [push_cast, ↓reduceIte, Nat.reduceEqDiff, Nat.reduceAdd, Nat.reduceMul, Nat.reduceSub, Nat.reduceLT, Nat.reduceLeDiff, reduceCtorEq, Nat.reduceMod, Int.reduceEq, Int.reduceLT, Int.reduceLE, Int.reduceToNat, dite_true]
    refine CallV.own (i := 1) rfl (kind F4 b8 (.slice pt l.length ct) l s.size (onR r) 2 (hl1.mono hF14) g1.lt) ?_
    rintro _ F5 _ hF5 ⟨rfl, rfl⟩
    have hF15 := PH.le_trans hF14 hF5
    obtain ⟨g4, _⟩ := go_kind (l := l) (e := s.size) (r := onR r) (k := 2) (by decide) g1.lt
    obtain ⟨t1, ht1⟩ : ∃ t1, t1 = kindT l s.size (onR r) 2 := ⟨_, rfl⟩
    obtain ⟨s1, hs1⟩ : ∃ s1, s1 = kindR l s.size (onR r) 2 := ⟨_, rfl⟩
    rw [← hs1] at g4
    rw [← ht1, ← hs1]
    simp only [push_cast, ↓reduceIte, Nat.reduceEqDiff, Nat.reduceAdd, Nat.reduceMul, Nat.reduceSub, Nat.reduceLT, Nat.reduceLeDiff, reduceCtorEq, Nat.reduceMod, Int.reduceEq, Int.reduceLT, Int.reduceLE, Int.reduceToNat, dite_true]
    intro b10
    refine CallV.own (i := 1) rfl (kind F5 b8 (.slice pt l.length ct) l s.size s1 4 (hl1.mono hF15) g4.lt) ?_
    rintro _ F6 _ hF6 ⟨rfl, rfl⟩
    have hF16 := PH.le_trans hF15 hF6
    obtain ⟨g5, _⟩ := go_kind (l := l) (e := s.size) (r := s1) (k := 4) (by decide) g4.lt
    obtain ⟨t2, ht2⟩ : ∃ t2, t2 = kindT l s.size s1 4 := ⟨_, rfl⟩
    obtain ⟨s2, hs2⟩ : ∃ s2, s2 = kindR l s.size s1 4 := ⟨_, rfl⟩
    rw [← hs2] at g5
    rw [← ht2, ← hs2]
    simp only [push_cast, ↓reduceIte, Nat.reduceEqDiff, Nat.reduceAdd, Nat.reduceMul, Nat.reduceSub, Nat.reduceLT, Nat.reduceLeDiff, reduceCtorEq, Nat.reduceMod, Int.reduceEq, Int.reduceLT, Int.reduceLE, Int.reduceToNat, dite_true]
    intro b11
    refine CallV.own (i := 1) rfl (want F6 b8 (.slice pt l.length ct) l s.size s2 ⟨#[59]⟩ (hl1.mono hF16) g5.lt) ?_
    rintro _ F7 _ hF7 rfl
    have hF17 := PH.le_trans hF16 hF7
    have g6 := go_want (l := l) (e := s.size) (r := s2) (s := ⟨#[59]⟩) g5.lt
    obtain ⟨s3, hs3⟩ : ∃ s3, s3 = wantR l s.size s2 ⟨#[59]⟩ := ⟨_, rfl⟩
    rw [← hs3] at g6 ⊢
    have q1 := g4.le
    have q2 := g5.le
    have q3 := g6.le
    have q4 := g6.lt
    simp only [push_cast, ↓reduceIte, Nat.reduceEqDiff, Nat.reduceAdd, Nat.reduceMul, Nat.reduceSub, Nat.reduceLT, Nat.reduceLeDiff, reduceCtorEq, Nat.reduceMod, Int.reduceEq, Int.reduceLT, Int.reduceLE, Int.reduceToNat, dite_true]
    intro b48 F8 hF8 hb48
    refine Eff.append (xs := xs) (ys := [.string t1.tx, .int .i64 t2.n, .int .i64 t1.at_]) rfl rfl rfl ty22 rfl ty72 rfl (by decide) rfl rfl (List.Perm.refl _) hrow (Src.blk hb48 rfl) (by simp [Value.oneCell']) (by simp; omega) (by decide) ?_
    intro v' r' hr'
    obtain ⟨p6, n6, c6, rfl⟩ := hr'.val
    simp only [push_cast, ↓reduceIte, Nat.reduceEqDiff, Nat.reduceAdd, Nat.reduceMul, Nat.reduceSub, Nat.reduceLT, Nat.reduceLeDiff, reduceCtorEq, Nat.reduceMod, Int.reduceEq, Int.reduceLT, Int.reduceLE, Int.reduceToNat, dite_true]
    refine hG (s3, ds ++ [⟨t1.tx, t2.n, t1.at_⟩], .slice p6 n6 c6, F8, r') _ ⟨PH.le_trans hF17 hF8, q4, by simp; omega, ⟨_, hr', each_snoc hea (show RDat ⟨t1.tx, t2.n, t1.at_⟩ _ from rfl)⟩, fun ms u q => by
      dsimp only at q ⊢
      rw [List.append_assoc]
      refine hdm _ _ ?_
      have hm := DatasR.more (ds := ms) (s := u) hk (by rw [← hs1, ← hs2, ← hs3]; exact q)
      rw [← hs1, ← ht1, ← ht2] at hm
      exact hm⟩ (by simp; omega) (by simp [subk, Eng.look]) (.cons_cons _ (.cons_cons _ (.cons_cons _ (List.nil_sublist _)))) rfl (subR_refl _)
  rintro ⟨r, ds, vd, F2⟩ ⟨hF2, hr, hds, hdr⟩
  dsimp only at hF2 hr hds hdr ⊢
  have hds' := hds
  obtain ⟨pd, cd, rfl, _, _⟩ := hds.val
  have hl2 := hl1.mono hF2
  refine VC.go 1 ?_
  simp only [push_cast, ↓reduceIte, Nat.reduceEqDiff, Nat.reduceAdd, Nat.reduceMul, Nat.reduceSub, Nat.reduceLT, Nat.reduceLeDiff, reduceCtorEq, Nat.reduceMod, Int.reduceEq, Int.reduceLT, Int.reduceLE, Int.reduceToNat, dite_true]
  refine VC.cutMR (ι := Rd × List Bind × Value × PH) (fun i => [(9, .o 2 b9 0), (8, .o 1 b8 0), (4, .v (.int .i64 0)), (3, .v (.int .i64 0)), (2, .o 0 b2 0)]) (fun i => [⟨0, b2, 25, progZ⟩, ⟨1, b8, 97, rdC (.slice pt l.length ct) s.size i.1⟩, ⟨2, b9, 25, [(.slice pd ds.length cd), i.2.2.1]⟩]) (fun i => i.2.2.2) (fun _ => []) (fun i => F2.le i.2.2.2 ∧ i.1.at_ ≤ l.length ∧ SlE i.2.2.2 11 (RBind i.2.2.2) i.2.2.1 i.2.1 ∧ (i.1.bad = false → sizeBs i.2.1 ≤ 700000) ∧ TopsR l s.size (BindR (expRel 60) l s.size) r i.2.1 i.1) ?_ ?_
  · intro G2 hG2
    refine VC.go 100 ?_
    simp only [push_cast, ↓reduceIte, Nat.reduceEqDiff, Nat.reduceAdd, Nat.reduceMul, Nat.reduceSub, Nat.reduceLT, Nat.reduceLeDiff, reduceCtorEq, Nat.reduceMod, Int.reduceEq, Int.reduceLT, Int.reduceLE, Int.reduceToNat, dite_true]
    refine VC.emp ?_
    refine VC.loopMR (ι := Rd × List Bind × Value × PH × PH) (fun i => [(9, .o 2 b9 0), (8, .o 1 b8 0), (4, .v (.int .i64 0)), (3, .v (.int .i64 0)), (2, .o 0 b2 0)]) (fun i => [⟨0, b2, 25, progZ⟩, ⟨1, b8, 97, rdC (.slice pt l.length ct) s.size i.1⟩, ⟨2, b9, 25, [(.slice pd ds.length cd), i.2.2.1]⟩]) (fun i => i.2.2.2.1) (fun i => [i.2.2.2.2]) (fun i => F2.le i.2.2.2.1 ∧ i.1.at_ ≤ l.length ∧ (∃ xs, Row i.2.2.2.2 53 11 i.2.2.1 xs ∧ Each (RBind i.2.2.2.1) i.2.1 xs) ∧ i.2.1.length ≤ l.length + 1 ∧ (i.1.bad = false → sizeBs i.2.1 ≤ 40 * i.1.at_ ∧ i.2.1.length ≤ i.1.at_) ∧ ∀ ms u, TopsR l s.size (BindR (expRel 60) l s.size) i.1 ms u → TopsR l s.size (BindR (expRel 60) l s.size) r (i.2.1 ++ ms) u) (fun i => 2 * (l.length - i.1.at_) + (if i.1.bad then 0 else 1)) (r, [], .slice none 0 0, F2, PH.emp) ⟨PH.le_refl _, hr, ⟨[], Row.nil _ _, rfl⟩, Nat.zero_le _, fun _ => ⟨Nat.zero_le _, Nat.zero_le _⟩, fun _ _ q => q⟩ (by simp [subk, Eng.look]) (List.Sublist.refl _) rfl (subR_refl _) ?_
    rintro ⟨q, bl, v, F3, row⟩ ⟨hF3, hq, ⟨xs, hrow, hea⟩, hlen, hc, htm⟩ G hG
    dsimp only at hF3 hq hrow hea hlen hc htm hG ⊢
    have hxl := Each.len (fun _ _ h => RBind.len h) hea
    obtain ⟨pD, nD, cD, rfl⟩ := hrow.val
    have stop : (q.bad = true ∨ l.length ≤ q.at_) → ∀ F4 S', F3.le F4 → row.le F4 → subk S'.L [(9, .o 2 b9 0), (8, .o 1 b8 0), (4, .v (.int .i64 0)), (3, .v (.int .i64 0)), (2, .o 0 b2 0)] → ([⟨0, b2, 25, progZ⟩, ⟨1, b8, 97, rdC (.slice pt l.length ct) s.size q⟩, ⟨2, b9, 25, [(.slice pd ds.length cd), (.slice pD nD cD)]⟩]).Sublist S'.M → S'.F = F4 → G2 S' := fun hst F4 S' k1 k2 k3 k4 k5 =>
      hG2 (q, bl, .slice pD nD cD, F4) S' ⟨PH.le_trans hF3 k1, hq, row_sle (by decide) (fun _ _ h => RBind.len h) hrow (hea.mono fun _ _ _ h => h.mono k1) k2, (fun hb => by have := (hc hb).1; dsimp only; omega), by have := htm [] q (.done hst); rwa [List.append_nil] at this⟩ k3 k4 k5 ⟨[], List.nil_sublist _, .refl _⟩
    refine VC.go 3 ?_
    refine VC.draw (.q 0 (.q 1 (.q 2 (.q 3 (.q 4 (.q 5 (.q 6 (.q 7 (.q 8 (.q 9 (.q 10 (.q 11 (.q 12 (.q 13 (.q 14 (.q 15 (.q 16 (.done)))))))))))))))))) mixed (by rfl) ?_
    cases hb : q.bad with
    | true =>
      simp only [push_cast, ↓reduceIte, Nat.reduceEqDiff, Nat.reduceAdd, Nat.reduceMul, Nat.reduceSub, Nat.reduceLT, Nat.reduceLeDiff, reduceCtorEq, Nat.reduceMod, Int.reduceEq, Int.reduceLT, Int.reduceLE, Int.reduceToNat, dite_true, hb]
      refine VC.freezeR (List.Perm.refl _) fun F4 hF4 hrF => ?_
      refine VC.go 100 ?_
      simp only [push_cast, ↓reduceIte, Nat.reduceEqDiff, Nat.reduceAdd, Nat.reduceMul, Nat.reduceSub, Nat.reduceLT, Nat.reduceLeDiff, reduceCtorEq, Nat.reduceMod, Int.reduceEq, Int.reduceLT, Int.reduceLE, Int.reduceToNat, dite_true]
      exact stop (.inl hb) F4 _ hF4 hrF (by simp [subk, Eng.look]) (List.Sublist.refl _) rfl
    | false =>
    by_cases h : q.at_ < l.length
    case neg =>
      have h' : ¬ (q.at_ : Int) < (l.length : Int) := by omega
      simp only [push_cast, ↓reduceIte, Nat.reduceEqDiff, Nat.reduceAdd, Nat.reduceMul, Nat.reduceSub, Nat.reduceLT, Nat.reduceLeDiff, reduceCtorEq, Nat.reduceMod, Int.reduceEq, Int.reduceLT, Int.reduceLE, Int.reduceToNat, dite_true, hb, h']
      refine VC.freezeR (List.Perm.refl _) fun F4 hF4 hrF => ?_
      refine VC.go 100 ?_
      simp only [push_cast, ↓reduceIte, Nat.reduceEqDiff, Nat.reduceAdd, Nat.reduceMul, Nat.reduceSub, Nat.reduceLT, Nat.reduceLeDiff, reduceCtorEq, Nat.reduceMod, Int.reduceEq, Int.reduceLT, Int.reduceLE, Int.reduceToNat, dite_true]
      exact stop (.inr (by omega)) F4 _ hF4 hrF (by simp [subk, Eng.look]) (List.Sublist.refl _) rfl
    have h' : (q.at_ : Int) < (l.length : Int) := by omega
    have hc2 := hc hb
    simp only [push_cast, ↓reduceIte, Nat.reduceEqDiff, Nat.reduceAdd, Nat.reduceMul, Nat.reduceSub, Nat.reduceLT, Nat.reduceLeDiff, reduceCtorEq, Nat.reduceMod, Int.reduceEq, Int.reduceLT, Int.reduceLE, Int.reduceToNat, dite_true, hb, h']
    refine VC.go 100 ?_
    simp only [push_cast, ↓reduceIte, Nat.reduceEqDiff, Nat.reduceAdd, Nat.reduceMul, Nat.reduceSub, Nat.reduceLT, Nat.reduceLeDiff, reduceCtorEq, Nat.reduceMod, Int.reduceEq, Int.reduceLT, Int.reduceLE, Int.reduceToNat, dite_true]
    refine VC.draw (.q 0 (.q 1 (.q 2 (.es 3 [0, 1, 2] (.e 4 (.e 5 (.q 6 (.e 7 (.done))))))))) mixed (by rfl) ?_
    simp only [push_cast, ↓reduceIte, Nat.reduceEqDiff, Nat.reduceAdd, Nat.reduceMul, Nat.reduceSub, Nat.reduceLT, Nat.reduceLeDiff, reduceCtorEq, Nat.reduceMod, Int.reduceEq, Int.reduceLT, Int.reduceLE, Int.reduceToNat, dite_true]
    refine CallV.own (i := 1) rfl (bind (exp_all 1 (by decide)) F3 b8 (.slice pt l.length ct) l s.size q (hl2.mono hF3) hq) ?_
    rintro _ F4 _ hF4 ⟨q2, y, cs, rfl, rfl, gB, hy, hcB, hoB, hyr⟩
    have hyo := RBind.one hy
    have hyl := RBind.len hy
    have hyR := hy
    obtain ⟨wY, cY, rfl, hwY, hcYe⟩ := RBind_iff.1 hy
    obtain ⟨pwY, cwY, rfl, _, _, _⟩ := hwY
    obtain ⟨xaY, xbY, xeY, xlY, rfl, hXY⟩ := RExp_iff.1 hcYe
    obtain ⟨_, _, _, _, _, _, _, _, rfl, rfl, rfl, rfl⟩ := hXY.slices
    simp only [push_cast, ↓reduceIte, Nat.reduceEqDiff, Nat.reduceAdd, Nat.reduceMul, Nat.reduceSub, Nat.reduceLT, Nat.reduceLeDiff, reduceCtorEq, Nat.reduceMod, Int.reduceEq, Int.reduceLT, Int.reduceLE, Int.reduceToNat, dite_true]
    intro bB F5 hF5 hbB
    refine Eff.append (xs := xs) (ys := _) rfl rfl rfl ty23 rfl ty53 rfl (by decide) rfl rfl (List.Perm.refl _) hrow (Src.blk hbB rfl) hyo (by simp; omega) (by decide) ?_
    intro v' r' hr'
    obtain ⟨p6, n6, c6, rfl⟩ := hr'.val
    have gl := gB.le
    have gt := gB.lt
    simp only [push_cast, ↓reduceIte, Nat.reduceEqDiff, Nat.reduceAdd, Nat.reduceMul, Nat.reduceSub, Nat.reduceLT, Nat.reduceLeDiff, reduceCtorEq, Nat.reduceMod, Int.reduceEq, Int.reduceLT, Int.reduceLE, Int.reduceToNat, dite_true]
    refine VC.go 100 ?_
    simp only [push_cast, ↓reduceIte, Nat.reduceEqDiff, Nat.reduceAdd, Nat.reduceMul, Nat.reduceSub, Nat.reduceLT, Nat.reduceLeDiff, reduceCtorEq, Nat.reduceMod, Int.reduceEq, Int.reduceLT, Int.reduceLE, Int.reduceToNat, dite_true]
    refine hG (q2, bl ++ [y], .slice p6 n6 c6, F5, r') _ ⟨PH.le_trans hF3 (PH.le_trans hF4 hF5), gt, ⟨_, hr', each_snoc (hea.mono fun _ _ _ h => h.mono (PH.le_trans hF4 hF5)) (hyR.mono hF5)⟩, by simp; omega, fun hb' => ?_, fun ms u w => by dsimp only; rw [List.append_assoc]; exact htm _ _ (.more hb h hyr w)⟩ ?_ (by simp [subk, Eng.look]) (List.Sublist.refl _) rfl (subR_refl _)
    · have q1 := hcB hb'
      have q2 := hoB hb'
      dsimp only
      rw [sizeBs_append]
      simp only [sizeBs, List.length_append, List.length_singleton]
      omega
    · dsimp only
      rw [hb]
      cases hbH : q2.bad with
      | true => simp; omega
      | false => have := hoB hbH; simp; omega
  rintro ⟨q, bl, vb, F3⟩ ⟨hF3, hq, hbl, hc, htr⟩
  dsimp only at hF3 hq hbl hc htr ⊢
  have hbl' := hbl
  obtain ⟨pb, cb, rfl, _, _⟩ := hbl.val
  refine VC.go 100 ?_
  cases hb : q.bad with
  | true =>
    simp only [push_cast, ↓reduceIte, Nat.reduceEqDiff, Nat.reduceAdd, Nat.reduceMul, Nat.reduceSub, Nat.reduceLT, Nat.reduceLeDiff, reduceCtorEq, Nat.reduceMod, Int.reduceEq, Int.reduceLT, Int.reduceLE, Int.reduceToNat, dite_true, hb]
    refine VC.draw (.q 1 (.q 2 (.q 3 (.q 4 (.q 5 (.q 6 (.q 7 (.q 8 (.e 0 (.es 9 [1, 2, 3, 4, 5, 6, 7, 8] (.q 10 (.q 11 (.done)))))))))))))  mixed (by rfl) ?_
    simp only [push_cast, ↓reduceIte, Nat.reduceEqDiff, Nat.reduceAdd, Nat.reduceMul, Nat.reduceSub, Nat.reduceLT, Nat.reduceLeDiff, reduceCtorEq, Nat.reduceMod, Int.reduceEq, Int.reduceLT, Int.reduceLE, Int.reduceToNat, dite_true]
    refine VC.go 100 ?_
    simp only [push_cast, ↓reduceIte, Nat.reduceEqDiff, Nat.reduceAdd, Nat.reduceMul, Nat.reduceSub, Nat.reduceLT, Nat.reduceLeDiff, reduceCtorEq, Nat.reduceMod, Int.reduceEq, Int.reduceLT, Int.reduceLE, Int.reduceToNat, dite_true]
    refine ⟨[_, _, _], [], (by simp only [push_cast, ↓reduceIte, Nat.reduceEqDiff, Nat.reduceAdd, Nat.reduceMul, Nat.reduceSub, Nat.reduceLT, Nat.reduceLeDiff, reduceCtorEq, Nat.reduceMod, Int.reduceEq, Int.reduceLT, Int.reduceLE, Int.reduceToNat, dite_true, rvals, rval1] <;> rfl), .sub (List.nil_sublist _), rfl, ?_⟩
    exact ⟨_, _, _, _, [], [], rfl, nil_sle _ _ _, nil_sle _ _ _, fun _ => Nat.zero_le _, by unfold ParseR; rw [← hsc, if_pos rfl]; exact ⟨ds, r, bl, q, hdr, htr, by rw [if_pos hb]; exact ⟨rfl, rfl, rfl, rfl⟩⟩⟩
  | false =>
    simp only [push_cast, ↓reduceIte, Nat.reduceEqDiff, Nat.reduceAdd, Nat.reduceMul, Nat.reduceSub, Nat.reduceLT, Nat.reduceLeDiff, reduceCtorEq, Nat.reduceMod, Int.reduceEq, Int.reduceLT, Int.reduceLE, Int.reduceToNat, dite_true, hb]
    refine ⟨[_, _, _], [], (by simp only [push_cast, ↓reduceIte, Nat.reduceEqDiff, Nat.reduceAdd, Nat.reduceMul, Nat.reduceSub, Nat.reduceLT, Nat.reduceLeDiff, reduceCtorEq, Nat.reduceMod, Int.reduceEq, Int.reduceLT, Int.reduceLE, Int.reduceToNat, dite_true, rvals, rval1] <;> rfl), .sub (List.nil_sublist _), rfl, ?_⟩
    exact ⟨_, _, _, _, ds, bl, rfl, hds'.mono' hF3, hbl', fun _ => hc hb, by unfold ParseR; rw [← hsc, if_pos rfl]; exact ⟨ds, r, bl, q, hdr, htr, by rw [if_neg (by rw [hb]; decide)]; exact ⟨rfl, rfl, rfl, rfl⟩⟩⟩
end Go.Proofs.YtoepmdbicdoieaaDoor.X
