/- What is laid for a form: the document's answer, and the law. -/
import Derived.Test.YtlgfajdedmajcaaC1
import Derived.Test.YtlgfajdedmajcaaV0
namespace Go.Proofs.Ytlgfajdedmajcaa.V
open Go Go.Eng Go.Proofs Go.Proofs.Ytlgfajdedmajcaa.T
set_option linter.unusedSimpArgs false
set_option maxRecDepth 100000
theorem plainB_mk {e : Exp} (h : e.kind = 1) (h0 : (e.atoms.length : Int) = 0) : plainB e = true := by
  simp only [plainB, h, h0, decide_true, Bool.and_self]
theorem reffield (F : PH) (f : List ByteArray × Exp) (v va vb ve vl : Value) (hv : Strs F v f.1) (h : ExpAt F f.2 va vb ve vl) : PFn Try.prog 17 [.agg (v :: expCells f.2 va vb ve vl).toArray] F (fun v _ => v = four (fieldOf f.1 f.2)) := by
  have hX := h
  obtain ⟨⟨p1, c1, rfl, h11, h12, h13⟩, hb, hk, hl⟩ := h
  obtain ⟨pb, cb, rfl, hb1, hb2⟩ := hb.val
  obtain ⟨pk, ck, rfl, hk1, hk2⟩ := hk.val
  obtain ⟨pl, cl, rfl, hl1, hl2⟩ := hl.val
  obtain ⟨pv, cv, rfl, hv1, hv2, hv3⟩ := hv
  refine Fn.intro (n := 93) (ts := [2, 3, 4, 5]) Try.func17 rfl rfl rfl rfl (by simp) fun B hB => VC.go 100 ?_
  by_cases g1 : 0 < (f.1.length : Int)
  · simp only [push_cast, ↓reduceIte, Nat.reduceEqDiff, Nat.reduceAdd, Nat.reduceMul, Nat.reduceSub, Nat.reduceLT, Nat.reduceLeDiff, reduceCtorEq, Nat.reduceMod, Int.reduceEq, Int.reduceLT, Int.reduceLE, Int.reduceToNat, dite_true, g1]
    intro b b2
    exact RetOk.p rfl (by rw [fieldOf_no (.inl (by omega))]; rfl)
  by_cases g2 : f.2.kind = 6
  case neg =>
    simp only [push_cast, ↓reduceIte, Nat.reduceEqDiff, Nat.reduceAdd, Nat.reduceMul, Nat.reduceSub, Nat.reduceLT, Nat.reduceLeDiff, reduceCtorEq, Nat.reduceMod, Int.reduceEq, Int.reduceLT, Int.reduceLE, Int.reduceToNat, dite_true, g1, g2]
    intro b b2
    exact RetOk.p rfl (by rw [fieldOf_no (.inr (.inl g2))]; rfl)
  by_cases g3 : (f.2.kids.length : Int) < 1
  · simp only [push_cast, ↓reduceIte, Nat.reduceEqDiff, Nat.reduceAdd, Nat.reduceMul, Nat.reduceSub, Nat.reduceLT, Nat.reduceLeDiff, reduceCtorEq, Nat.reduceMod, Int.reduceEq, Int.reduceLT, Int.reduceLE, Int.reduceToNat, dite_true, g1, g2, g3]
    intro b b2
    exact RetOk.p rfl (by rw [fieldOf_no (.inr (.inr (.inl (by omega))))]; rfl)
  by_cases g4 : (f.2.alts.length : Int) = 1
  case neg =>
    simp only [push_cast, ↓reduceIte, Nat.reduceEqDiff, Nat.reduceAdd, Nat.reduceMul, Nat.reduceSub, Nat.reduceLT, Nat.reduceLeDiff, reduceCtorEq, Nat.reduceMod, Int.reduceEq, Int.reduceLT, Int.reduceLE, Int.reduceToNat, dite_true, g1, g2, g3, g4]
    intro b b2
    exact RetOk.p rfl (by rw [fieldOf_no (.inr (.inr (.inr (by omega))))]; rfl)
  obtain ⟨k, ks, ek⟩ : ∃ k ks, f.2.kids = k :: ks := by cases e : f.2.kids with | nil => rw [e] at g3; exact absurd (by decide) g3 | cons k ks => exact ⟨k, ks, rfl⟩
  obtain ⟨a, ea⟩ : ∃ a, f.2.alts = [a] := by
    cases e : f.2.alts with
    | nil => rw [e] at g4; exact absurd g4 (by decide)
    | cons a l => cases l with
      | nil => exact ⟨a, rfl⟩
      | cons b l => rw [e] at g4; simp at g4; omega
  obtain ⟨qk, _, kc, ek1, _, _, kl, kr⟩ := hk.elem (by decide) (i := 0) (a := k) (by rw [ek]; rfl) (fun _ _ h => h.len)
  cases ek1
  obtain ⟨ka, kb, ke, kll, rfl, kx⟩ := RExp_iff.1 kr
  obtain ⟨u1, u2, u3, u4, u5, u6, u7, u8, rfl, rfl, rfl, rfl⟩ := kx.slices
  obtain ⟨ql, _, lc, el1, _, _, ll, lr⟩ := hl.elem (by decide) (i := 0) (a := a) (by rw [ea]; rfl) (fun _ _ h => h.len)
  cases el1
  obtain ⟨av, ac, rfl, hav, har⟩ := RAlt_iff.1 lr
  obtain ⟨ba, bb, be, bl, rfl, bx⟩ := RExp_iff.1 har
  obtain ⟨pv', cv', rfl, hv1', hv2', hv3'⟩ := hav
  obtain ⟨z1, z2, z3, z4, z5, z6, z7, z8, rfl, rfl, rfl, rfl⟩ := bx.slices
  have hlt : (0 : Int) < (f.2.kids.length : Int) := by omega
  have hlt2 : (0 : Int) < (f.2.alts.length : Int) := by omega
  rw [Nat.zero_mul] at kl ll
  simp only [push_cast, ↓reduceIte, Nat.reduceEqDiff, Nat.reduceAdd, Nat.reduceMul, Nat.reduceSub, Nat.reduceLT, Nat.reduceLeDiff, reduceCtorEq, Nat.reduceMod, Int.reduceEq, Int.reduceLT, Int.reduceLE, Int.reduceToNat, dite_true, g1, g2, g3, g4]
  intro b b2
  refine VC.drawT (fun S => ∃ i7 i8 b7 b8 M', i7 ≠ i8 ∧ S.F = F ∧ subk S.L [(7, .o i7 b7 0), (8, .o i8 b8 0)] ∧ S.R = [] ∧ S.M.Perm (⟨i7, b7, 39, expCells k (.slice u1 k.atoms.length u2) (.slice u3 k.binds.length u4) (.slice u5 k.kids.length u6) (.slice u7 k.alts.length u8)⟩ :: ⟨i8, b8, 60, .int .i64 a.kind :: .int .i64 a.at_ :: .string a.name :: .int .i64 a.n :: .slice pv' a.vars.length cv' :: expCells a.body (.slice z1 a.body.atoms.length z2) (.slice z3 a.body.binds.length z4) (.slice z5 a.body.kids.length z6) (.slice z7 a.body.alts.length z8)⟩ :: M')) (.q 0 (.q 1 (.q 2 (.q 3 (.q 4 (.q 5 (.q 6 (.q 7 (.e2 8 (.e 9 (.es 10 [4, 5, 6, 7] (.e 11 (.done)))) 9 (.e 8 (.es 10 [4, 5, 6, 7] (.e 11 (.done)))))))))))))  mixed (by rfl) ?_ ?_
  · simp only [push_cast, ↓reduceIte, Nat.reduceEqDiff, Nat.reduceAdd, Nat.reduceMul, Nat.reduceSub, Nat.reduceLT, Nat.reduceLeDiff, reduceCtorEq, Nat.reduceMod, Int.reduceEq, Int.reduceLT, Int.reduceLE, Int.reduceToNat, dite_true, hlt, hlt2, kl, ll, Nat.zero_mul]
    refine ⟨fun x y => ⟨2, 3, x, y, _, by decide, by simp [subk, Eng.look], List.perm_append_comm (l₁ := [_, _]) (l₂ := [_, _])⟩, fun x y => ⟨3, 2, y, x, _, by decide, by simp [subk, Eng.look], (List.perm_append_comm (l₁ := [_, _]) (l₂ := [_, _])).trans (.swap _ _ _)⟩⟩
  rintro S ⟨i7, i8, b7, b8, M', hne, hF, hL, hR, hM⟩
  obtain ⟨L, M, F', R, nx⟩ := S
  subst hF hR
  refine VC.permM hM (VC.weaken (S' := ⟨[(7, .o i7 b7 0), (8, .o i8 b8 0)], [⟨i7, b7, 39, _⟩, ⟨i8, b8, 60, _⟩], _, _, 0⟩) ⟨subk_le hL, .cons_cons _ (.cons_cons _ (List.nil_sublist _)), rfl, List.Sublist.refl _⟩ ?_)
  clear hL hM
  refine VC.go 100 ?_
  by_cases g5 : k.kind = 1
  case neg =>
    simp only [push_cast, ↓reduceIte, Nat.reduceEqDiff, Nat.reduceAdd, Nat.reduceMul, Nat.reduceSub, Nat.reduceLT, Nat.reduceLeDiff, reduceCtorEq, Nat.reduceMod, Int.reduceEq, Int.reduceLT, Int.reduceLE, Int.reduceToNat, dite_true, g5, hne, hne.symm]
    exact RetOk.p rfl (by unfold fieldOf; rw [ek, ea]; simp [picks, plainB, g5]; rfl)
  by_cases g6 : 0 < (k.atoms.length : Int)
  · simp only [push_cast, ↓reduceIte, Nat.reduceEqDiff, Nat.reduceAdd, Nat.reduceMul, Nat.reduceSub, Nat.reduceLT, Nat.reduceLeDiff, reduceCtorEq, Nat.reduceMod, Int.reduceEq, Int.reduceLT, Int.reduceLE, Int.reduceToNat, dite_true, g5, g6, hne, hne.symm]
    exact RetOk.p rfl (by unfold fieldOf; rw [ek, ea]; simp [picks, plainB, g5, show k.atoms ≠ [] from by intro e; rw [e] at g6; exact absurd g6 (by decide)]; rfl)
  by_cases g7 : a.kind = 1
  case neg =>
    simp only [push_cast, ↓reduceIte, Nat.reduceEqDiff, Nat.reduceAdd, Nat.reduceMul, Nat.reduceSub, Nat.reduceLT, Nat.reduceLeDiff, reduceCtorEq, Nat.reduceMod, Int.reduceEq, Int.reduceLT, Int.reduceLE, Int.reduceToNat, dite_true, g5, g6, g7, hne, hne.symm]
    exact RetOk.p rfl (by unfold fieldOf; rw [ek, ea]; simp [picks, g7]; rfl)
  by_cases g8 : a.body.kind = 1
  case neg =>
    simp only [push_cast, ↓reduceIte, Nat.reduceEqDiff, Nat.reduceAdd, Nat.reduceMul, Nat.reduceSub, Nat.reduceLT, Nat.reduceLeDiff, reduceCtorEq, Nat.reduceMod, Int.reduceEq, Int.reduceLT, Int.reduceLE, Int.reduceToNat, dite_true, g5, g6, g7, g8, hne, hne.symm]
    exact RetOk.p rfl (by unfold fieldOf; rw [ek, ea]; simp [picks, plainB, g8]; rfl)
  by_cases g9 : 0 < (a.body.atoms.length : Int)
  · simp only [push_cast, ↓reduceIte, Nat.reduceEqDiff, Nat.reduceAdd, Nat.reduceMul, Nat.reduceSub, Nat.reduceLT, Nat.reduceLeDiff, reduceCtorEq, Nat.reduceMod, Int.reduceEq, Int.reduceLT, Int.reduceLE, Int.reduceToNat, dite_true, g5, g6, g7, g8, g9, hne, hne.symm]
    exact RetOk.p rfl (by unfold fieldOf; rw [ek, ea]; simp [picks, plainB, show a.body.atoms ≠ [] from by intro e; rw [e] at g9; exact absurd g9 (by decide)]; rfl)
  have hp : picks f.1 f.2 k a := ⟨by omega, g2, plainB_mk g5 (by omega), g7, plainB_mk g8 (by omega)⟩
  simp only [push_cast, ↓reduceIte, Nat.reduceEqDiff, Nat.reduceAdd, Nat.reduceMul, Nat.reduceSub, Nat.reduceLT, Nat.reduceLeDiff, reduceCtorEq, Nat.reduceMod, Int.reduceEq, Int.reduceLT, Int.reduceLE, Int.reduceToNat, dite_true, g5, g6, g7, g8, g9, hne, hne.symm]
  refine VC.loopL (fun i : Nat => [(10, .v (.int .i64 i)), (9, .v (.int .i64 (lastAt a.vars a.body.name i))), (7, .o i7 b7 0), (8, .o i8 b8 0)]) (fun i => i ≤ a.vars.length) (fun i => a.vars.length - i) 0 (Nat.zero_le _) (by simp [subk, Eng.look, lastAt]) ?_
  intro i hi G hG
  refine VC.go 100 ?_
  by_cases h : i < a.vars.length
  case neg =>
    have hin : i = a.vars.length := by omega
    subst hin
    have h' : ¬ (a.vars.length : Int) < (a.vars.length : Int) := by omega
    by_cases h1 : lastAt a.vars a.body.name a.vars.length < 0
    · simp only [push_cast, ↓reduceIte, Nat.reduceEqDiff, Nat.reduceAdd, Nat.reduceMul, Nat.reduceSub, Nat.reduceLT, Nat.reduceLeDiff, reduceCtorEq, Nat.reduceMod, Int.reduceEq, Int.reduceLT, Int.reduceLE, Int.reduceToNat, dite_true, h', h1, hne, hne.symm]
      exact RetOk.p rfl (by unfold fieldOf; rw [ek, ea]; simp only []; rw [if_neg (by omega)]; rfl)
    · simp only [push_cast, ↓reduceIte, Nat.reduceEqDiff, Nat.reduceAdd, Nat.reduceMul, Nat.reduceSub, Nat.reduceLT, Nat.reduceLeDiff, reduceCtorEq, Nat.reduceMod, Int.reduceEq, Int.reduceLT, Int.reduceLE, Int.reduceToNat, dite_true, h', h1, hne, hne.symm]
      refine VC.draw (.q 0 (.q 1 (.q 2 (.q 3 (.q 4 (.q 5 (.q 6 (.q 7 (.q 8 (.done)))))))))) mixed (by rfl) ?_
      simp only [push_cast, ↓reduceIte, Nat.reduceEqDiff, Nat.reduceAdd, Nat.reduceMul, Nat.reduceSub, Nat.reduceLT, Nat.reduceLeDiff, reduceCtorEq, Nat.reduceMod, Int.reduceEq, Int.reduceLT, Int.reduceLE, Int.reduceToNat, dite_true, hne, hne.symm]
      refine VC.go 100 ?_
      simp only [push_cast, ↓reduceIte, Nat.reduceEqDiff, Nat.reduceAdd, Nat.reduceMul, Nat.reduceSub, Nat.reduceLT, Nat.reduceLeDiff, reduceCtorEq, Nat.reduceMod, Int.reduceEq, Int.reduceLT, Int.reduceLE, Int.reduceToNat, dite_true]
      exact RetOk.p rfl (by unfold fieldOf; rw [ek, ea]; simp only []; rw [if_pos ⟨hp, by omega⟩]; rfl)
  case pos =>
    have h' : (i : Int) < (a.vars.length : Int) := by omega
    have h0 : (0 : Int) ≤ (i : Int) := by omega
    obtain ⟨qv, rfl, hqv⟩ := hv3'.elem1 (i := i) (v := .string (a.vars[i]'h)) (by rw [List.getElem?_map, List.getElem?_eq_getElem h]; rfl)
    have hstep : lastAt a.vars a.body.name (i + 1) = if a.vars[i]'h = a.body.name then (i : Int) else lastAt a.vars a.body.name i := by
      simp only [lastAt, List.getElem?_eq_getElem h, Option.some.injEq]
    simp only [push_cast, ↓reduceIte, Nat.reduceEqDiff, Nat.reduceAdd, Nat.reduceMul, Nat.reduceSub, Nat.reduceLT, Nat.reduceLeDiff, reduceCtorEq, Nat.reduceMod, Int.reduceEq, Int.reduceLT, Int.reduceLE, Int.reduceToNat, dite_true, h', hne, hne.symm]
    refine VC.draw (.q 0 (.q 1 (.q 2 (.q 3 (.q 4 (.q 5 (.q 6 (.q 7 (.q 8 (.done)))))))))) mixed (by rfl) ?_
    simp only [push_cast, ↓reduceIte, Nat.reduceEqDiff, Nat.reduceAdd, Nat.reduceMul, Nat.reduceSub, Nat.reduceLT, Nat.reduceLeDiff, reduceCtorEq, Nat.reduceMod, Int.reduceEq, Int.reduceLT, Int.reduceLE, Int.reduceToNat, dite_true, h', h0, hqv, hne, hne.symm]
    refine VC.go 100 ?_
    have e2 : IntKind.i64.wrap ((i : Int) + 1) = ((i + 1 : Nat) : Int) := wrap_add i h (Nat.le_trans hv1' hv2')
    by_cases g10 : a.vars[i]'h = a.body.name
    · rw [if_pos g10] at hstep
      simp only [push_cast, ↓reduceIte, Nat.reduceEqDiff, Nat.reduceAdd, Nat.reduceMul, Nat.reduceSub, Nat.reduceLT, Nat.reduceLeDiff, reduceCtorEq, Nat.reduceMod, Int.reduceEq, Int.reduceLT, Int.reduceLE, Int.reduceToNat, dite_true, g10, e2]
      exact hG (i + 1) _ (by omega) (by omega) (by simp [subk, Eng.look, hstep]) (List.Sublist.refl _) rfl rfl
    · rw [if_neg g10] at hstep
      simp only [push_cast, ↓reduceIte, Nat.reduceEqDiff, Nat.reduceAdd, Nat.reduceMul, Nat.reduceSub, Nat.reduceLT, Nat.reduceLeDiff, reduceCtorEq, Nat.reduceMod, Int.reduceEq, Int.reduceLT, Int.reduceLE, Int.reduceToNat, dite_true, g10, e2]
      exact hG (i + 1) _ (by omega) (by omega) (by simp [subk, Eng.look, hstep]) (List.Sublist.refl _) rfl rfl
def classOf (args : List ByteArray) (x : Exp) : Int :=
  if 0 < (args.length : Int) then 3 else if x.kind = 2 then 1 else if x.kind = 4 then 2 else if (fieldOf args x).2.2.2 = true then 7 else 6
theorem clas (F : PH) (f : List ByteArray × Exp) (v va vb ve vl : Value) (hv : Strs F v f.1) (h : ExpAt F f.2 va vb ve vl) : PFn Try.prog 19 [.agg (v :: expCells f.2 va vb ve vl).toArray] F (fun v _ => v = .int .i64 (classOf f.1 f.2)) := by
  have hv' := hv
  obtain ⟨pv, cv, rfl, hv1, hv2, hv3⟩ := hv
  obtain ⟨_, _, _, _, _, _, _, _, rfl, rfl, rfl, rfl⟩ := h.slices
  refine Fn.intro (n := 31) (ts := [2]) Try.func19 rfl rfl rfl rfl (by simp) fun B hB => VC.go 100 ?_
  simp only [push_cast, ↓reduceIte, Nat.reduceEqDiff, Nat.reduceAdd, Nat.reduceMul, Nat.reduceSub, Nat.reduceLT, Nat.reduceLeDiff, reduceCtorEq, Nat.reduceMod, Int.reduceEq, Int.reduceLT, Int.reduceLE, Int.reduceToNat, dite_true]
  intro b
  refine CallV.pure (field F f _ _ _ _ _ hv' h) ?_
  rintro _ F1 hF1 rfl
  by_cases g1 : 0 < (f.1.length : Int)
  · simp only [push_cast, ↓reduceIte, Nat.reduceEqDiff, Nat.reduceAdd, Nat.reduceMul, Nat.reduceSub, Nat.reduceLT, Nat.reduceLeDiff, reduceCtorEq, Nat.reduceMod, Int.reduceEq, Int.reduceLT, Int.reduceLE, Int.reduceToNat, dite_true, g1]; exact RetOk.p rfl (by simp only [classOf, if_pos g1]; rfl)
  by_cases g2 : f.2.kind = 2
  · simp only [push_cast, ↓reduceIte, Nat.reduceEqDiff, Nat.reduceAdd, Nat.reduceMul, Nat.reduceSub, Nat.reduceLT, Nat.reduceLeDiff, reduceCtorEq, Nat.reduceMod, Int.reduceEq, Int.reduceLT, Int.reduceLE, Int.reduceToNat, dite_true, g1, g2]; exact RetOk.p rfl (by simp only [classOf, g1, g2, if_true, if_false]; rfl)
  by_cases g3 : f.2.kind = 4
  · simp only [push_cast, ↓reduceIte, Nat.reduceEqDiff, Nat.reduceAdd, Nat.reduceMul, Nat.reduceSub, Nat.reduceLT, Nat.reduceLeDiff, reduceCtorEq, Nat.reduceMod, Int.reduceEq, Int.reduceLT, Int.reduceLE, Int.reduceToNat, dite_true, g1, g2, g3]; exact RetOk.p rfl (by simp only [classOf, g1, g2, g3, if_true, if_false]; rfl)
  by_cases g4 : (fieldOf f.1 f.2).2.2.2 = true
  · simp only [push_cast, ↓reduceIte, Nat.reduceEqDiff, Nat.reduceAdd, Nat.reduceMul, Nat.reduceSub, Nat.reduceLT, Nat.reduceLeDiff, reduceCtorEq, Nat.reduceMod, Int.reduceEq, Int.reduceLT, Int.reduceLE, Int.reduceToNat, dite_true, g1, g2, g3, g4]; exact RetOk.p rfl (by simp only [classOf, g1, g2, g3, g4, if_true, if_false]; rfl)
  · simp only [push_cast, ↓reduceIte, Nat.reduceEqDiff, Nat.reduceAdd, Nat.reduceMul, Nat.reduceSub, Nat.reduceLT, Nat.reduceLeDiff, reduceCtorEq, Nat.reduceMod, Int.reduceEq, Int.reduceLT, Int.reduceLE, Int.reduceToNat, dite_true, g1, g2, g3, g4]; exact RetOk.p rfl (by simp only [classOf, g1, g2, g3, g4, if_true, if_false]; rfl)
theorem refclas (F : PH) (f : List ByteArray × Exp) (v va vb ve vl : Value) (hv : Strs F v f.1) (h : ExpAt F f.2 va vb ve vl) : PFn Try.prog 20 [.agg (v :: expCells f.2 va vb ve vl).toArray] F (fun v _ => v = .int .i64 (classOf f.1 f.2)) := by
  have hv' := hv
  obtain ⟨pv, cv, rfl, hv1, hv2, hv3⟩ := hv
  obtain ⟨_, _, _, _, _, _, _, _, rfl, rfl, rfl, rfl⟩ := h.slices
  refine Fn.intro (n := 27) (ts := [2]) Try.func20 rfl rfl rfl rfl (by simp) fun B hB => VC.go 100 ?_
  by_cases g1 : 0 < (f.1.length : Int)
  · simp only [push_cast, ↓reduceIte, Nat.reduceEqDiff, Nat.reduceAdd, Nat.reduceMul, Nat.reduceSub, Nat.reduceLT, Nat.reduceLeDiff, reduceCtorEq, Nat.reduceMod, Int.reduceEq, Int.reduceLT, Int.reduceLE, Int.reduceToNat, dite_true, g1]; intro b; exact RetOk.p rfl (by simp only [classOf, if_pos g1]; rfl)
  by_cases g2 : f.2.kind = 2
  · simp only [push_cast, ↓reduceIte, Nat.reduceEqDiff, Nat.reduceAdd, Nat.reduceMul, Nat.reduceSub, Nat.reduceLT, Nat.reduceLeDiff, reduceCtorEq, Nat.reduceMod, Int.reduceEq, Int.reduceLT, Int.reduceLE, Int.reduceToNat, dite_true, g1, g2]; intro b; exact RetOk.p rfl (by simp only [classOf, g1, g2, if_true, if_false]; rfl)
  by_cases g3 : f.2.kind = 4
  · simp only [push_cast, ↓reduceIte, Nat.reduceEqDiff, Nat.reduceAdd, Nat.reduceMul, Nat.reduceSub, Nat.reduceLT, Nat.reduceLeDiff, reduceCtorEq, Nat.reduceMod, Int.reduceEq, Int.reduceLT, Int.reduceLE, Int.reduceToNat, dite_true, g1, g2, g3]; intro b; exact RetOk.p rfl (by simp only [classOf, g1, g2, g3, if_true, if_false]; rfl)
  simp only [push_cast, ↓reduceIte, Nat.reduceEqDiff, Nat.reduceAdd, Nat.reduceMul, Nat.reduceSub, Nat.reduceLT, Nat.reduceLeDiff, reduceCtorEq, Nat.reduceMod, Int.reduceEq, Int.reduceLT, Int.reduceLE, Int.reduceToNat, dite_true, g1, g2, g3]
  intro b
  refine CallV.pure (reffield F f _ _ _ _ _ hv' h) ?_
  rintro _ F1 hF1 rfl
  by_cases g4 : (fieldOf f.1 f.2).2.2.2 = true
  · simp only [push_cast, ↓reduceIte, Nat.reduceEqDiff, Nat.reduceAdd, Nat.reduceMul, Nat.reduceSub, Nat.reduceLT, Nat.reduceLeDiff, reduceCtorEq, Nat.reduceMod, Int.reduceEq, Int.reduceLT, Int.reduceLE, Int.reduceToNat, dite_true, g4]; exact RetOk.p rfl (by simp only [classOf, g1, g2, g3, g4, if_true, if_false]; rfl)
  · simp only [push_cast, ↓reduceIte, Nat.reduceEqDiff, Nat.reduceAdd, Nat.reduceMul, Nat.reduceSub, Nat.reduceLT, Nat.reduceLeDiff, reduceCtorEq, Nat.reduceMod, Int.reduceEq, Int.reduceLT, Int.reduceLE, Int.reduceToNat, dite_true, g4]; exact RetOk.p rfl (by simp only [classOf, g1, g2, g3, g4, if_true, if_false]; rfl)
end Go.Proofs.Ytlgfajdedmajcaa.V
