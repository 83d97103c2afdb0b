/- A bind more: the walk. -/
import Derived.Test.YtjeidgjhkjnkeaaDoorM4
import Derived.Test.YtjeidgjhkjnkeaaDoorM2
namespace Go.Proofs.YtjeidgjhkjnkeaaDoor.M
open Go Go.Eng Go.Proofs Go.Proofs.YtjeidgjhkjnkeaaDoor.T Go.Proofs.YtjeidgjhkjnkeaaDoor.K
open Go.Proofs.YtjeidgjhkjnkeaaDoor.P (Table)
set_option linter.unusedSimpArgs false
set_option linter.unusedVariables false
set_option maxRecDepth 100000
set_option maxHeartbeats 4000000
theorem names (bl : List Bind) (F : PH) (vb : Value) (s : ByteArray) (hbs : SlE F 11 (RBind F) vb bl) :
    PFn Tryd.prog 13 [vb, .string s] F (fun v _ => v = .bool (hasB (bl.map Bind.name) s)) := by
  have hb' := hbs
  obtain ⟨pb, cb, rfl, hb1, hb2⟩ := hbs.val
  obtain ⟨own, ho⟩ : ∃ own, own = bl.map Bind.name := ⟨_, rfl⟩
  have hol : own.length = bl.length := by rw [ho]; simp
  rw [← ho]
  refine Fn.intro (n := 19) (ts := [4]) Tryd.func13 rfl rfl rfl rfl (by simp) fun B hB => VC.go 100 ?_
  simp only [push_cast, ↓reduceIte, Nat.reduceEqDiff, Nat.reduceAdd, Nat.reduceMul, Nat.reduceSub, Nat.reduceLT, Nat.reduceLeDiff, reduceCtorEq, Nat.reduceMod, Int.reduceEq, Int.reduceLT, Int.reduceLE, Int.reduceToNat, dite_true]
  refine VC.loopL (fun i : Nat => [(5, .v (.int .i64 i)), (1, .v (.string s)), (0, .v (.slice pb bl.length cb))]) (fun i => i ≤ bl.length ∧ hasB (own.take i) s = false) (fun i => bl.length - i) 0 ⟨Nat.zero_le _, by simp [hasB]⟩ (by simp [subk, Eng.look]) ?_
  intro i ⟨hi, ht⟩ G hG
  refine VC.go 100 ?_
  by_cases h : i < bl.length
  case neg =>
    have h' : ¬ (i : Int) < (bl.length : Int) := by omega
    rw [List.take_of_length_le (by omega)] at ht
    simp only [push_cast, ↓reduceIte, Nat.reduceEqDiff, Nat.reduceAdd, Nat.reduceMul, Nat.reduceSub, Nat.reduceLT, Nat.reduceLeDiff, reduceCtorEq, Nat.reduceMod, Int.reduceEq, Int.reduceLT, Int.reduceLE, Int.reduceToNat, dite_true, h']
    rw [ht]
    exact RetOk.p rfl rfl
  have h' : (i : Int) < (bl.length : Int) := by omega
  have h0 : (0 : Int) ≤ (i : Int) := by omega
  have hio : i < own.length := by omega
  have e2 : IntKind.i64.wrap ((i : Int) + 1) = ((i + 1 : Nat) : Int) := wadd i h (Nat.le_trans hb1 hb2)
  obtain ⟨q, _, cs, eq, _, _, kl, kr⟩ := hb'.elem (by decide) (i := i) (a := bl[i]) (List.getElem?_eq_getElem h) (fun _ _ h => h.len)
  cases eq
  have hnj : (bl[i]).name = own[i] := by subst ho; simp
  obtain ⟨wv, cc, rfl, hwv, hcc⟩ := RBind_iff.1 kr
  obtain ⟨xa, xb, xe, xl, rfl, hx⟩ := RExp_iff.1 hcc
  obtain ⟨pv, cv, rfl, _, _, _⟩ := hwv
  obtain ⟨_, _, _, _, _, _, _, _, rfl, rfl, rfl, rfl⟩ := hx.slices
  have k0 := cell_at kl (o := 0) rfl
  have hts : hasB (own.take (i + 1)) s = decide (own[i] = s) := by rw [List.take_succ_eq_append_getElem hio, hasB_snoc, ht]; simp
  by_cases g : own[i] = s
  · simp only [push_cast, ↓reduceIte, Nat.reduceEqDiff, Nat.reduceAdd, Nat.reduceMul, Nat.reduceSub, Nat.reduceLT, Nat.reduceLeDiff, reduceCtorEq, Nat.reduceMod, Int.reduceEq, Int.reduceLT, Int.reduceLE, Int.reduceToNat, dite_true, h', h0, k0, hnj, eq_true g]
    have : hasB own s = true := by
      rw [← List.take_append_drop (i + 1) own, P.hasB_append, hts, decide_eq_true g]; rfl
    rw [this]
    exact RetOk.p rfl rfl
  · simp only [push_cast, ↓reduceIte, Nat.reduceEqDiff, Nat.reduceAdd, Nat.reduceMul, Nat.reduceSub, Nat.reduceLT, Nat.reduceLeDiff, reduceCtorEq, Nat.reduceMod, Int.reduceEq, Int.reduceLT, Int.reduceLE, Int.reduceToNat, dite_true, h', h0, k0, hnj, g, e2]
    exact hG (i + 1) _ ⟨by omega, by rw [hts, decide_eq_false g]⟩ (by omega) (by simp [subk, Eng.look]) (by simp) rfl rfl
theorem RBind.one {F : PH} {b : Bind} {cs : List Value} (h : RBind F b cs) : ∀ u ∈ cs, u.oneCell' = true := by
  obtain ⟨wv, cc, rfl, hwv, hcc⟩ := RBind_iff.1 h
  obtain ⟨xa, xb, xe, xl, rfl, hx⟩ := RExp_iff.1 hcc
  obtain ⟨pv, cv, rfl, _, _, _⟩ := hwv
  obtain ⟨_, _, _, _, _, _, _, _, rfl, rfl, rfl, rfl⟩ := hx.slices
  intro u hu
  simp only [expCells, List.mem_cons, List.not_mem_nil, or_false] at hu
  rcases hu with rfl | rfl | rfl | rfl | rfl | rfl | rfl | rfl | rfl | rfl | rfl <;> rfl
theorem each_one {α : Type} {R : α → List Value → Prop} (hR : ∀ a c, R a c → ∀ u ∈ c, u.oneCell' = true) : ∀ {l : List α} {xs : List Value}, Each R l xs → ∀ u ∈ xs, u.oneCell' = true
  | [], xs, h => by cases h; simp
  | a :: l, xs, h => by
    obtain ⟨c, r, rfl, h1, h2⟩ := h
    intro u hu
    rcases List.mem_append.1 hu with hu | hu
    · exact hR _ _ h1 u hu
    · exact each_one hR h2 u hu
theorem sizeBs_append : ∀ (a b : List Bind), sizeBs (a ++ b) = sizeBs a + sizeBs b
  | [], b => by simp [sizeBs]
  | x :: a, b => by simp only [List.cons_append, sizeBs, sizeBs_append a b]; omega
theorem bind_more {F : PH} {s : ByteArray} {b28 b31 : Nat} (h1 : F b28 = some (.cells #[.string xB] 9 (0, 0))) (h2 : F b31 = some (.cells #[.string s, .int .i64 0] 37 (0, 0))) :
    RBind F (moreB s) (.string s :: .int .i64 12345 :: .slice (some ⟨b28, 0, none⟩) 1 1 :: expCells (moreB s).body (.slice (some ⟨b31, 0, none⟩) 1 1) (.slice none 0 0) (.slice none 0 0) (.slice none 0 0)) :=
  RBind_iff.2 ⟨_, _, rfl, strs_blk (l := [xB]) h1 one_max, RExp_iff.2 ⟨_, _, _, _, rfl, ⟨⟨_, _, rfl, Nat.le_refl _, one_max, Src.blk h2 rfl⟩, nil_sle _ _ _, nil_sle _ _ _, nil_sle _ _ _⟩⟩⟩
theorem law_more (ds : List Dat) (bl : List Bind) (F : PH) (vd vb : Value) (s : ByteArray) (hd : Dats F vd ds) (hbs : SlE F 11 (RBind F) vb bl) (hT : Table F) (hs : sizeBs bl ≤ 2000000) (hs2 : s.size ≤ 2000000) :
    PFn Tryd.prog 6 [.agg #[vd, vb], .string s] F (fun v _ => v = .bool true) := by
  have hd' := hd
  have hb' := hbs
  obtain ⟨pd, cd, rfl, _, _⟩ := hd.val
  obtain ⟨pb, cb, rfl, hb1, hb2⟩ := hbs.val
  refine Fn.intro (n := 78) (ts := [4]) Tryd.func6 rfl rfl rfl rfl (by simp) fun B hB => VC.go 100 ?_
  simp only [push_cast, ↓reduceIte, Nat.reduceEqDiff, Nat.reduceAdd, Nat.reduceMul, Nat.reduceSub, Nat.reduceLT, Nat.reduceLeDiff, reduceCtorEq, Nat.reduceMod, Int.reduceEq, Int.reduceLT, Int.reduceLE, Int.reduceToNat, dite_true]
  intro b
  refine CallV.pure (P.check ds bl F _ _ hd' hb' hT (by omega)) ?_
  rintro _ F1 hF1 rfl
  simp only [push_cast, ↓reduceIte, Nat.reduceEqDiff, Nat.reduceAdd, Nat.reduceMul, Nat.reduceSub, Nat.reduceLT, Nat.reduceLeDiff, reduceCtorEq, Nat.reduceMod, Int.reduceEq, Int.reduceLT, Int.reduceLE, Int.reduceToNat, dite_true]
  refine CallV.pure (P.awake F1 (hT.mono hF1)) ?_
  rintro _ F2 hF2 rfl
  have hFF2 := PH.le_trans hF1 hF2
  by_cases h0 : (checkC ds bl).e = 0
  case neg =>
    simp only [push_cast, ↓reduceIte, Nat.reduceEqDiff, Nat.reduceAdd, Nat.reduceMul, Nat.reduceSub, Nat.reduceLT, Nat.reduceLeDiff, reduceCtorEq, Nat.reduceMod, Int.reduceEq, Int.reduceLT, Int.reduceLE, Int.reduceToNat, dite_true, h0]
    refine CallV.pure (P.awake F2 (hT.mono hFF2)) ?_
    rintro _ F3 hF3 rfl
    simp only [push_cast, ↓reduceIte, Nat.reduceEqDiff, Nat.reduceAdd, Nat.reduceMul, Nat.reduceSub, Nat.reduceLT, Nat.reduceLeDiff, reduceCtorEq, Nat.reduceMod, Int.reduceEq, Int.reduceLT, Int.reduceLE, Int.reduceToNat, dite_true, h0]
    exact RetOk.p rfl rfl
  obtain ⟨hat, hmore⟩ := more_law h0 s
  simp only [push_cast, ↓reduceIte, Nat.reduceEqDiff, Nat.reduceAdd, Nat.reduceMul, Nat.reduceSub, Nat.reduceLT, Nat.reduceLeDiff, reduceCtorEq, Nat.reduceMod, Int.reduceEq, Int.reduceLT, Int.reduceLE, Int.reduceToNat, dite_true, h0, hat]
  intro b28 F3 hF3 hb28 b31 F4 hF4 hb31 b7
  have hFF4 := PH.le_trans hFF2 (PH.le_trans hF3 hF4)
  have hbF4 := hb'.mono hFF4 (fun _ _ _ h => h.mono hFF4)
  obtain ⟨xsb, ⟨_, _, ebs, _, _, hsrc⟩, hea⟩ := hbF4
  cases ebs
  have hxl := Each.len (fun _ _ h => RBind.len h) hea
  have hbc := sizeBs_count bl
  refine VC.drawT (fun S => ∃ b8 v43 r, F4.le S.F ∧ Row r 46 11 v43 (xsb ++ (.string s :: .int .i64 12345 :: .slice (some ⟨b28, 0, none⟩) 1 1 :: expCells (moreB s).body (.slice (some ⟨b31, 0, none⟩) 1 1) (.slice none 0 0) (.slice none 0 0) (.slice none 0 0))) ∧ S.M = [⟨0, b, 25, [.slice pd ds.length cd, .slice pb bl.length cb]⟩, ⟨1, b7, 46, .string s :: .int .i64 12345 :: .slice (some ⟨b28, 0, none⟩) 1 1 :: expCells (moreB s).body (.slice (some ⟨b31, 0, none⟩) 1 1) (.slice none 0 0) (.slice none 0 0) (.slice none 0 0)⟩, ⟨2, b8, 25, [.slice pd ds.length cd, v43]⟩] ∧ S.R = [r] ∧ subk S.L [(8, .o 2 b8 0), (5, .v (.int .i64 0)), (2, .o 0 b 0), (1, .v (.string s))]) (.q 0 (.q 1 (.q 3 (.q 4 (.q 6 (.e3 2 (.e3 5 (.e2 7 (.e2 8 (.e2 9 (.e 10 (.e 11 (.done))) 10 (.e 9 (.e 11 (.done)))) 10 (.e 8 (.e 9 (.e 11 (.done))))) 10 (.e 7 (.e 8 (.e 9 (.e 11 (.done)))))) 7 (.e2 5 (.e2 8 (.e2 9 (.e 10 (.e 11 (.done))) 10 (.e 9 (.e 11 (.done)))) 10 (.e 8 (.e 9 (.e 11 (.done))))) 10 (.e 5 (.e 8 (.e 9 (.e 11 (.done)))))) 10 (.e2 5 (.e 7 (.e 8 (.e 9 (.e 11 (.done))))) 7 (.e 5 (.e 8 (.e 9 (.e 11 (.done))))))) 7 (.e2 2 (.e2 5 (.e2 8 (.e2 9 (.e 10 (.e 11 (.done))) 10 (.e 9 (.e 11 (.done)))) 10 (.e 8 (.e 9 (.e 11 (.done))))) 10 (.e 5 (.e 8 (.e 9 (.e 11 (.done)))))) 10 (.e 2 (.e 5 (.e 8 (.e 9 (.e 11 (.done))))))) 10 (.e2 2 (.e2 5 (.e 7 (.e 8 (.e 9 (.e 11 (.done))))) 7 (.e 5 (.e 8 (.e 9 (.e 11 (.done)))))) 7 (.e 2 (.e 5 (.e 8 (.e 9 (.e 11 (.done))))))))))))) mixed (by rfl) ?_ ?_
  · simp only [push_cast, ↓reduceIte, Nat.reduceEqDiff, Nat.reduceAdd, Nat.reduceMul, Nat.reduceSub, Nat.reduceLT, Nat.reduceLeDiff, reduceCtorEq, Nat.reduceMod, Int.reduceEq, Int.reduceLT, Int.reduceLE, Int.reduceToNat, dite_true]
    repeat' first
      | exact ⟨_, _, _, by assumption, by assumption, rfl, rfl, by simp [subk, Eng.look]⟩
      | refine And.intro ?_ ?_
      | intro (b' : Nat) (F' : PH) (hF' : PH.le _ F') hbk'
      | intro (b' : Nat)
      | (refine Eff.append (xs := []) (ys := xsb) rfl rfl rfl ty23 rfl ty46 rfl (by decide) rfl rfl (List.Perm.refl _) (Row.begin _ _ _) (hsrc.mono (by first | exact PH.le_refl _ | assumption)) (each_one (fun _ _ h => RBind.one h) hea) (by simp; omega) (by decide) ?_
         intro v1 r1 hr1
         obtain ⟨_, _, _, rfl⟩ := hr1.val
         simp only [push_cast, ↓reduceIte, Nat.reduceEqDiff, Nat.reduceAdd, Nat.reduceMul, Nat.reduceSub, Nat.reduceLT, Nat.reduceLeDiff, reduceCtorEq, Nat.reduceMod, Int.reduceEq, Int.reduceLT, Int.reduceLE, Int.reduceToNat, dite_true])
      | (refine Eff.append (xs := [] ++ xsb) (ys := (.string s :: .int .i64 12345 :: .slice (some ⟨b28, 0, none⟩) 1 1 :: expCells (moreB s).body (.slice (some ⟨b31, 0, none⟩) 1 1) (.slice none 0 0) (.slice none 0 0) (.slice none 0 0))) rfl rfl rfl ty23 rfl ty46 rfl (by decide) rfl rfl (List.Perm.refl _) (by assumption) (Src.blk (by assumption) rfl) (by simp [Value.oneCell']) (by simp; omega) (by decide) ?_
         intro v1 r1 hr1
         rw [List.nil_append] at hr1
         obtain ⟨_, _, _, rfl⟩ := hr1.val
         simp only [push_cast, ↓reduceIte, Nat.reduceEqDiff, Nat.reduceAdd, Nat.reduceMul, Nat.reduceSub, Nat.reduceLT, Nat.reduceLeDiff, reduceCtorEq, Nat.reduceMod, Int.reduceEq, Int.reduceLT, Int.reduceLE, Int.reduceToNat, dite_true])
  rintro ⟨L, M, F5, R, nx⟩ ⟨b8, v43, r, hF5, hr, rfl, rfl, hL⟩
  dsimp only at hF5 hL ⊢
  obtain ⟨p43, n43, c43, rfl⟩ := hr.val
  have hFF5 := PH.le_trans hFF4 hF5
  refine VC.weaken (S' := ⟨[(8, .o 2 b8 0), (5, .v (.int .i64 0)), (2, .o 0 b 0), (1, .v (.string s))], _, _, _, 0⟩) ⟨subk_le hL, List.Sublist.refl _, rfl, List.Sublist.refl _⟩ ?_
  clear hL
  refine VC.go 100 ?_
  simp only [push_cast, ↓reduceIte, Nat.reduceEqDiff, Nat.reduceAdd, Nat.reduceMul, Nat.reduceSub, Nat.reduceLT, Nat.reduceLeDiff, reduceCtorEq, Nat.reduceMod, Int.reduceEq, Int.reduceLT, Int.reduceLE, Int.reduceToNat, dite_true]
  refine CallV.lendPure (r := r) (Rf := []) (Q := fun v => v = .tuple #[.int .i64 (checkC ds (bl ++ [moreB s])).at_, .int .i64 (checkC ds (bl ++ [moreB s])).e]) (List.Perm.refl _) ⟨_, Tryd.func8, rfl, rfl⟩ (fun hdj => ?_) ?_
  · have hle : F5.le (F5.or r) := PH.or_left _ _
    have h28 := hb28
    have hnew : RBind (F5.or r) (moreB s) (.string s :: .int .i64 12345 :: .slice (some ⟨b28, 0, none⟩) 1 1 :: expCells (moreB s).body (.slice (some ⟨b31, 0, none⟩) 1 1) (.slice none 0 0) (.slice none 0 0) (.slice none 0 0)) := bind_more (hle _ _ (hF5 _ _ (hF4 _ _ hb28))) (hle _ _ (hF5 _ _ hb31))
    refine P.check ds (bl ++ [moreB s]) _ _ _ (hd'.mono' (PH.le_trans hFF5 hle)) (row_sle (by decide) (fun _ _ h => RBind.len h) hr (each_snoc (hea.mono fun _ _ _ h => h.mono (PH.le_trans hF5 hle)) hnew) (PH.or_right hdj)) (hT.mono (PH.le_trans hFF5 hle)) ?_
    have hx : xB.size = 1 := rfl
    have e1 : sizeBs [moreB s] = 2 * s.size + 8 := by
      simp only [sizeBs, moreB, Bind.size, Exp.size, sizeS, sizeA, sizeEs, sizeLs, hx]; omega
    rw [sizeBs_append, e1]
    omega
  rintro _ F6 hF6 rfl
  rw [hmore]
  have hFF6 := PH.le_trans hFF5 hF6
  by_cases g1 : s = ⟨#[]⟩
  · rw [if_pos g1]
    simp only [push_cast, ↓reduceIte, Nat.reduceEqDiff, Nat.reduceAdd, Nat.reduceMul, Nat.reduceSub, Nat.reduceLT, Nat.reduceLeDiff, reduceCtorEq, Nat.reduceMod, Int.reduceEq, Int.reduceLT, Int.reduceLE, Int.reduceToNat, dite_true, eq_true g1]
    exact RetOk.p rfl rfl
  rw [if_neg g1]
  simp only [push_cast, ↓reduceIte, Nat.reduceEqDiff, Nat.reduceAdd, Nat.reduceMul, Nat.reduceSub, Nat.reduceLT, Nat.reduceLeDiff, reduceCtorEq, Nat.reduceMod, Int.reduceEq, Int.reduceLT, Int.reduceLE, Int.reduceToNat, dite_true, g1]
  refine CallV.pure (names bl F6 _ s (hb'.mono hFF6 (fun _ _ _ h => h.mono hFF6))) ?_
  rintro _ F7 hF7 rfl
  cases hh : hasB (bl.map Bind.name) s
  · simp only [push_cast, ↓reduceIte, Nat.reduceEqDiff, Nat.reduceAdd, Nat.reduceMul, Nat.reduceSub, Nat.reduceLT, Nat.reduceLeDiff, reduceCtorEq, Nat.reduceMod, Int.reduceEq, Int.reduceLT, Int.reduceLE, Int.reduceToNat, dite_true]
    exact RetOk.p rfl rfl
  · simp only [push_cast, ↓reduceIte, Nat.reduceEqDiff, Nat.reduceAdd, Nat.reduceMul, Nat.reduceSub, Nat.reduceLT, Nat.reduceLeDiff, reduceCtorEq, Nat.reduceMod, Int.reduceEq, Int.reduceLT, Int.reduceLE, Int.reduceToNat, dite_true]
    exact RetOk.p rfl rfl
end Go.Proofs.YtjeidgjhkjnkeaaDoor.M
