/- Package scope: alternatives. (Written by gen/p4.py.) -/
import Derived.Test.YtjeidgjhkjnkeaaDoorP3
namespace Go.Proofs.YtjeidgjhkjnkeaaDoor.P
open Go Go.Eng Go.Proofs Go.Proofs.YtjeidgjhkjnkeaaDoor.T Go.Proofs.YtjeidgjhkjnkeaaDoor.K
set_option linter.unusedSimpArgs false
set_option linter.unusedVariables false
set_option maxRecDepth 100000
set_option maxHeartbeats 4000000
def againStep (a d : Alt) : Bool := decide (d.kind = a.kind) && ((decide (a.kind = 1) && decide (d.name = a.name)) || (decide (a.kind = 2) && decide (d.n = a.n)))
theorem againB_step (p : List Alt) (d a : Alt) : againB (p ++ [d]) a = (againB p a || againStep a d) := by
  rw [againB_snoc, Bool.or_assoc]
  congr 1
  unfold againStep
  rw [show decide (d.name = a.name) = decide (a.name = d.name) from decide_eq_decide.2 eq_comm, show decide (d.n = a.n) = decide (a.n = d.n) from decide_eq_decide.2 eq_comm]
  by_cases h1 : a.kind = 1
  · by_cases h : d.kind = 1
    · simp [h1, h]
    · simp [h1, h]
  · by_cases h2 : a.kind = 2
    · by_cases h : d.kind = 2
      · simp [h2, h]
      · simp [h2, h]
    · simp [h1, h2]
/-- What is asked of an alternative of a constructor, but for names that are told twice. -/
def head1 (ds : List Dat) (a : Int) (s : ByteArray) (l : List ByteArray) (c : Ck) : Ck :=
  match arityD ds s with
  | none => failC c a 32
  | some m => if ¬ m = l.length then failC c a 33 else if hasB l ⟨#[]⟩ = true then failC c a 31 else c
theorem arityD_le {ds : List Dat} {s : ByteArray} {m : Int} (h : ∀ d ∈ ds, d.arity ≤ 8) (hm : arityD ds s = some m) : m ≤ 8 := by
  induction ds with
  | nil => cases hm
  | cons d l ih =>
    simp only [arityD] at hm
    split at hm
    · cases hm; exact h d List.mem_cons_self
    · exact ih (fun d hd => h d (List.mem_cons_of_mem _ hd)) hm
theorem failC_fail (c : Ck) (a e a' e' : Int) : failC (failC c a e) a' e' = failC c a e := by
  refine failC_bad ?_
  unfold failC; split
  · assumption
  · rfl
theorem head1_twice {ds : List Dat} (hds : ∀ d ∈ ds, d.arity ≤ 8) {k a : Int} (hk : k = 1) (s : ByteArray) (l : List ByteArray) (c : Ck) (r : Bool) :
    whenC ((r || (decide (l.length ≤ 8) && twiceB [] l)) = true) (head1 ds a s l c) a 30 = whenC (r = true) (headC ds k a s l c) a 30 := by
  have hw : ∀ (q : Prop) [Decidable q] (x y : Int), whenC q (failC c x y) a 30 = failC c x y := fun q _ x y => by
    unfold whenC; split
    · exact failC_fail _ _ _ _ _
    · rfl
  unfold head1 headC
  rw [if_pos hk]
  cases hm : arityD ds s with
  | none => simp only [hw]
  | some m =>
    have h8 := arityD_le hds hm
    by_cases g1 : m = (l.length : Int)
    · by_cases g2 : hasB l ⟨#[]⟩ = true
      · simp only [g1, g2, not_true, if_false, if_true, hw]
      · have h9 : l.length ≤ 8 := by omega
        simp only [g1, g2, not_true, if_false, h9, decide_true, Bool.true_and]
        cases ht : twiceB [] l with
        | false => simp
        | true =>
          cases r with
          | false => simp [whenC]
          | true => simp [whenC, failC_fail]
    · simp only [g1, not_false_iff, if_true, hw]
theorem alt (ds : List Dat) (hds : ∀ d ∈ ds, d.arity ≤ 8) (a : Alt) (p : List Alt) (hE : ExpS ds a.body) (F : PH) (b mb : Nat) (v vp vs w va w1 we wl : Value) (c : Ck) (inn : List ByteArray) (hr : RepC F c v) (hp : SlE F 13 (RAlt F) vp p) (hv : Strs F w a.vars) (hX : ExpAt F a.body va w1 we wl) (hs : ScpL F vs inn) (hd : Cons F mb ds) (hT : Table F) (hsz : inn.length + a.size ≤ 100000000) :
    SFn 68 [.agg (.int .i64 a.kind :: .int .i64 a.at_ :: .string a.name :: .int .i64 a.n :: w :: expCells a.body va w1 we wl).toArray, vp, vs] F b mb v (altC ds a (againB p a) inn c) := by
  have hX' := hX
  obtain ⟨pa, ca, pb, cb, pe, ce, pl, cl, rfl, rfl, rfl, rfl⟩ := hX.slices
  have hv' := hv
  obtain ⟨pv, cv, rfl, hv1, hv2, hv3⟩ := hv
  have hp' := hp
  obtain ⟨pp, cp, rfl, hp1, hp2⟩ := hp.val
  have hbs := asize_eq a
  have hal := sizeS_len a.vars
  have hone := hr.one
  rw [altC_eq]
  generalize hres : expC ds a.body (altIn a.kind a.name a.vars inn) (whenC (againB p a = true) (headC ds a.kind a.at_ a.name a.vars c) a.at_ 30) = res
  refine OFn.intro (n := 144) (ts := []) Tryd.func68 rfl rfl rfl rfl (by simp) fun B hB => ?_
  refine VC.go 7 ?_
  simp only [push_cast, ↓reduceIte, Nat.reduceEqDiff, Nat.reduceAdd, Nat.reduceMul, Nat.reduceSub, Nat.reduceLT, Nat.reduceLeDiff, reduceCtorEq, Nat.reduceMod, Int.reduceEq, Int.reduceLT, Int.reduceLE, Int.reduceToNat, dite_true, hone]
  intro bx
  refine VC.cutM (ι := Bool × PH) (fun i => [(9, .v (.bool i.1)), (8, .v vs), (5, .o 1 bx 0), (3, .v vs), (0, .o 0 b 0)]) (fun i => [⟨0, b, 55, [.map (some mb), v]⟩, ⟨1, bx, 100, .int .i64 a.kind :: .int .i64 a.at_ :: .string a.name :: .int .i64 a.n :: .slice pv a.vars.length cv :: expCells a.body (.slice pa a.body.atoms.length ca) (.slice pb a.body.binds.length cb) (.slice pe a.body.kids.length ce) (.slice pl a.body.alts.length cl)⟩]) (fun _ => F) (fun i => i.1 = againB p a) ?_ ?_
  · intro G0 hG0
    refine VC.go 100 ?_
    simp only [push_cast, ↓reduceIte, Nat.reduceEqDiff, Nat.reduceAdd, Nat.reduceMul, Nat.reduceSub, Nat.reduceLT, Nat.reduceLeDiff, reduceCtorEq, Nat.reduceMod, Int.reduceEq, Int.reduceLT, Int.reduceLE, Int.reduceToNat, dite_true]
    refine VC.loopP (ι := Nat × Bool × PH) (fun i => [(18, .v (.int .i64 i.1)), (17, .v (.int .i64 p.length)), (16, .v (.slice pp p.length cp)), (9, .v (.bool i.2.1)), (8, .v vs), (5, .o 1 bx 0), (3, .v vs), (0, .o 0 b 0)]) (fun _ => F) (fun _ => []) (fun i => i.1 ≤ p.length ∧ i.2.1 = againB (p.take i.1) a) (fun i => p.length - i.1) (0, false, F) ⟨Nat.zero_le _, rfl⟩ (by simp [subk, Eng.look]) rfl (subR_refl _) ?_
    rintro ⟨k, r, _⟩ ⟨hk, hag⟩ G hG
    dsimp only at hk hag hG ⊢
    refine VC.go 100 ?_
    by_cases h : k < p.length
    case neg =>
      have h' : ¬ (k : Int) < (p.length : Int) := by omega
      rw [List.take_of_length_le (by omega)] at hag
      simp only [push_cast, ↓reduceIte, Nat.reduceEqDiff, Nat.reduceAdd, Nat.reduceMul, Nat.reduceSub, Nat.reduceLT, Nat.reduceLeDiff, reduceCtorEq, Nat.reduceMod, Int.reduceEq, Int.reduceLT, Int.reduceLE, Int.reduceToNat, dite_true, h', hone]
      exact hG0 (r, F) _ hag (by simp [subk, Eng.look]) (List.Sublist.refl _) rfl rfl
    have h' : (k : Int) < (p.length : Int) := by omega
    have h0 : (0 : Int) ≤ (k : Int) := by omega
    have e2 : IntKind.i64.wrap ((k : Int) + 1) = ((k + 1 : Nat) : Int) := wadd k h (Nat.le_trans hp1 hp2)
    obtain ⟨q, _, cs, eq, _, _, kl, kr⟩ := hp'.elem (by decide) (i := k) (a := p[k]) (List.getElem?_eq_getElem h) (fun _ _ h => h.len)
    cases eq
    have hpt0 : p.take (k + 1) = p.take k ++ [p[k]] := List.take_succ_eq_append_getElem h
    obtain ⟨d, hdk⟩ : ∃ d, d = p[k] := ⟨_, rfl⟩
    have hpt : p.take (k + 1) = p.take k ++ [d] := by rw [hdk]; exact hpt0
    rw [← hdk] at kr
    obtain ⟨wv3, cc3, rfl, hwv3, hcc3⟩ := RAlt_iff.1 kr
    obtain ⟨za, zb, ze, zl, rfl, hz⟩ := RExp_iff.1 hcc3
    obtain ⟨pv3, cv3, rfl, _, _, _⟩ := hwv3
    obtain ⟨_, _, _, _, _, _, _, _, rfl, rfl, rfl, rfl⟩ := hz.slices
    cases r with
    | true =>
      simp only [push_cast, ↓reduceIte, Nat.reduceEqDiff, Nat.reduceAdd, Nat.reduceMul, Nat.reduceSub, Nat.reduceLT, Nat.reduceLeDiff, reduceCtorEq, Nat.reduceMod, Int.reduceEq, Int.reduceLT, Int.reduceLE, Int.reduceToNat, dite_true, h', h0, kl, e2, hone]
      intro b11
      exact hG (k + 1, true, F) _ ⟨by simp; omega, by rw [hpt, againB_step, ← hag]; simp [againStep, ]⟩ (by simp; omega) (by simp [subk, Eng.look]) (by simp) rfl (subR_refl _)
    | false =>
      by_cases q0 : d.kind = a.kind
      · by_cases q1 : a.kind = 1
        · have q2 : ¬ a.kind = 2 := by omega
          by_cases nn : d.name = a.name
          · simp only [push_cast, ↓reduceIte, Nat.reduceEqDiff, Nat.reduceAdd, Nat.reduceMul, Nat.reduceSub, Nat.reduceLT, Nat.reduceLeDiff, reduceCtorEq, Nat.reduceMod, Int.reduceEq, Int.reduceLT, Int.reduceLE, Int.reduceToNat, dite_true, h', h0, kl, eq_true q0, eq_true q1, q2, eq_true nn, e2, hone]
            intro b11
            exact hG (k + 1, true, F) _ ⟨by simp; omega, by rw [hpt, againB_step, ← hag]; simp [againStep, q0, q1, nn]⟩ (by simp; omega) (by simp [subk, Eng.look]) (by simp) rfl (subR_refl _)
          · simp only [push_cast, ↓reduceIte, Nat.reduceEqDiff, Nat.reduceAdd, Nat.reduceMul, Nat.reduceSub, Nat.reduceLT, Nat.reduceLeDiff, reduceCtorEq, Nat.reduceMod, Int.reduceEq, Int.reduceLT, Int.reduceLE, Int.reduceToNat, dite_true, h', h0, kl, eq_true q0, eq_true q1, q2, nn, e2, hone]
            intro b11
            exact hG (k + 1, false, F) _ ⟨by simp; omega, by rw [hpt, againB_step, ← hag]; simp [againStep, q0, q1, nn]⟩ (by simp; omega) (by simp [subk, Eng.look]) (by simp) rfl (subR_refl _)
        · by_cases q2 : a.kind = 2
          · by_cases nn : d.n = a.n
            · simp only [push_cast, ↓reduceIte, Nat.reduceEqDiff, Nat.reduceAdd, Nat.reduceMul, Nat.reduceSub, Nat.reduceLT, Nat.reduceLeDiff, reduceCtorEq, Nat.reduceMod, Int.reduceEq, Int.reduceLT, Int.reduceLE, Int.reduceToNat, dite_true, h', h0, kl, eq_true q0, q1, eq_true q2, eq_true nn, e2, hone]
              intro b11
              exact hG (k + 1, true, F) _ ⟨by simp; omega, by rw [hpt, againB_step, ← hag]; simp [againStep, q0, q2, nn]⟩ (by simp; omega) (by simp [subk, Eng.look]) (by simp) rfl (subR_refl _)
            · simp only [push_cast, ↓reduceIte, Nat.reduceEqDiff, Nat.reduceAdd, Nat.reduceMul, Nat.reduceSub, Nat.reduceLT, Nat.reduceLeDiff, reduceCtorEq, Nat.reduceMod, Int.reduceEq, Int.reduceLT, Int.reduceLE, Int.reduceToNat, dite_true, h', h0, kl, eq_true q0, q1, eq_true q2, nn, e2, hone]
              intro b11
              exact hG (k + 1, false, F) _ ⟨by simp; omega, by rw [hpt, againB_step, ← hag]; simp [againStep, q0, q1, q2, nn]⟩ (by simp; omega) (by simp [subk, Eng.look]) (by simp) rfl (subR_refl _)
          · simp only [push_cast, ↓reduceIte, Nat.reduceEqDiff, Nat.reduceAdd, Nat.reduceMul, Nat.reduceSub, Nat.reduceLT, Nat.reduceLeDiff, reduceCtorEq, Nat.reduceMod, Int.reduceEq, Int.reduceLT, Int.reduceLE, Int.reduceToNat, dite_true, h', h0, kl, eq_true q0, q1, q2, e2, hone]
            intro b11
            exact hG (k + 1, false, F) _ ⟨by simp; omega, by rw [hpt, againB_step, ← hag]; simp [againStep, q0, q1, q2]⟩ (by simp; omega) (by simp [subk, Eng.look]) (by simp) rfl (subR_refl _)
      · simp only [push_cast, ↓reduceIte, Nat.reduceEqDiff, Nat.reduceAdd, Nat.reduceMul, Nat.reduceSub, Nat.reduceLT, Nat.reduceLeDiff, reduceCtorEq, Nat.reduceMod, Int.reduceEq, Int.reduceLT, Int.reduceLE, Int.reduceToNat, dite_true, h', h0, kl, q0, e2, hone]
        intro b11
        exact hG (k + 1, false, F) _ ⟨by simp; omega, by rw [hpt, againB_step, ← hag]; simp [againStep, q0]⟩ (by simp; omega) (by simp [subk, Eng.look]) (by simp) rfl (subR_refl _)
  rintro ⟨r, _⟩ hag
  dsimp only at hag ⊢
  refine VC.go 1 ?_
  simp only [push_cast, ↓reduceIte, Nat.reduceEqDiff, Nat.reduceAdd, Nat.reduceMul, Nat.reduceSub, Nat.reduceLT, Nat.reduceLeDiff, reduceCtorEq, Nat.reduceMod, Int.reduceEq, Int.reduceLT, Int.reduceLE, Int.reduceToNat, dite_true]
  refine VC.cutM (ι := (Value × Bool) × Value × Ck × PH) (fun i => [(9, .v (.bool i.1.2)), (8, .v i.1.1), (5, .o 1 bx 0), (0, .o 0 b 0)]) (fun i => [⟨0, b, 55, [.map (some mb), i.2.1]⟩, ⟨1, bx, 100, .int .i64 a.kind :: .int .i64 a.at_ :: .string a.name :: .int .i64 a.n :: .slice pv a.vars.length cv :: expCells a.body (.slice pa a.body.atoms.length ca) (.slice pb a.body.binds.length cb) (.slice pe a.body.kids.length ce) (.slice pl a.body.alts.length cl)⟩]) (fun i => i.2.2.2) (fun i => F.le i.2.2.2 ∧ RepC i.2.2.2 i.2.2.1 i.2.1 ∧ ScpL i.2.2.2 i.1.1 (altIn a.kind a.name a.vars inn) ∧ whenC (i.1.2 = true) i.2.2.1 a.at_ 30 = whenC (againB p a = true) (headC ds a.kind a.at_ a.name a.vars c) a.at_ 30) ?_ ?_
  · intro G hG
    refine VC.go 100 ?_
    by_cases g1 : a.kind = 1
    · have hd1 : altIn a.kind a.name a.vars inn = inn ++ a.vars := if_pos g1
      simp only [push_cast, ↓reduceIte, Nat.reduceEqDiff, Nat.reduceAdd, Nat.reduceMul, Nat.reduceSub, Nat.reduceLT, Nat.reduceLeDiff, reduceCtorEq, Nat.reduceMod, Int.reduceEq, Int.reduceLT, Int.reduceLE, Int.reduceToNat, dite_true, eq_true g1, hone]
      refine VC.draw (.q 0 (.q 1 (.q 2 (.q 3 (.q 4 (.q 5 (.e 6 (.q 7 (.q 8 (.q 9 (.q 10 (.q 11 (.done))))))))))))) mixed (by rfl) ?_
      simp only [push_cast, ↓reduceIte, Nat.reduceEqDiff, Nat.reduceAdd, Nat.reduceMul, Nat.reduceSub, Nat.reduceLT, Nat.reduceLeDiff, reduceCtorEq, Nat.reduceMod, Int.reduceEq, Int.reduceLT, Int.reduceLE, Int.reduceToNat, dite_true, hone]
      obtain ⟨es, cm, lm, hm1, hm2, hm3⟩ := hd
      refine Eff.lookup keyStr rfl ty52 rfl Tryd.underlying9 ty3 rfl rfl (.inl hm1) hm2 ?_
      rw [hm3]
      have hd : Cons F mb ds := ⟨es, cm, lm, hm1, hm2, hm3⟩
      have hget : ((arityD ds a.name).map (Value.int .i64)).getD (.int .i64 0) = .int .i64 ((arityD ds a.name).getD 0) := by cases arityD ds a.name <;> rfl
      have hsome : ((arityD ds a.name).map (Value.int .i64)).isSome = (arityD ds a.name).isSome := by cases arityD ds a.name <;> rfl
      simp only [push_cast, ↓reduceIte, Nat.reduceEqDiff, Nat.reduceAdd, Nat.reduceMul, Nat.reduceSub, Nat.reduceLT, Nat.reduceLeDiff, reduceCtorEq, Nat.reduceMod, Int.reduceEq, Int.reduceLT, Int.reduceLE, Int.reduceToNat, dite_true, hget, hsome]
      refine VC.go 1 ?_
      simp only [push_cast, ↓reduceIte, Nat.reduceEqDiff, Nat.reduceAdd, Nat.reduceMul, Nat.reduceSub, Nat.reduceLT, Nat.reduceLeDiff, reduceCtorEq, Nat.reduceMod, Int.reduceEq, Int.reduceLT, Int.reduceLE, Int.reduceToNat, dite_true]
      refine VC.cutM (ι := Value × Ck × PH) (fun i => [(9, .v (.bool r)), (5, .o 1 bx 0), (3, .v vs), (0, .o 0 b 0)]) (fun i => [⟨0, b, 55, [.map (some mb), i.1]⟩, ⟨1, bx, 100, .int .i64 a.kind :: .int .i64 a.at_ :: .string a.name :: .int .i64 a.n :: .slice pv a.vars.length cv :: expCells a.body (.slice pa a.body.atoms.length ca) (.slice pb a.body.binds.length cb) (.slice pe a.body.kids.length ce) (.slice pl a.body.alts.length cl)⟩]) (fun i => i.2.2) (fun i => F.le i.2.2 ∧ RepC i.2.2 i.2.1 i.1 ∧ i.2.1 = head1 ds a.at_ a.name a.vars c) ?_ ?_
      · intro G2 hG2
        refine VC.go 100 ?_
        cases ha : arityD ds a.name with
        | none =>
          simp only [push_cast, ↓reduceIte, Nat.reduceEqDiff, Nat.reduceAdd, Nat.reduceMul, Nat.reduceSub, Nat.reduceLT, Nat.reduceLeDiff, reduceCtorEq, Nat.reduceMod, Int.reduceEq, Int.reduceLT, Int.reduceLE, Int.reduceToNat, dite_true, Option.isSome_none, hone]
          refine CallV.own (i := 0) rfl (fail F b mb v c a.at_ 32 hr) ?_
          rintro _ F2 _ hF2 ⟨v2, rfl, hr2⟩
          simp only [push_cast, ↓reduceIte, Nat.reduceEqDiff, Nat.reduceAdd, Nat.reduceMul, Nat.reduceSub, Nat.reduceLT, Nat.reduceLeDiff, reduceCtorEq, Nat.reduceMod, Int.reduceEq, Int.reduceLT, Int.reduceLE, Int.reduceToNat, dite_true]
          exact hG2 (v2, failC c a.at_ 32, F2) _ ⟨hF2, hr2, by simp only [head1, ha]⟩ (by simp [subk, Eng.look]) (List.Sublist.refl _) rfl rfl
        | some m =>
          by_cases g2 : m = (a.vars.length : Int)
          case neg =>
            simp only [push_cast, ↓reduceIte, Nat.reduceEqDiff, Nat.reduceAdd, Nat.reduceMul, Nat.reduceSub, Nat.reduceLT, Nat.reduceLeDiff, reduceCtorEq, Nat.reduceMod, Int.reduceEq, Int.reduceLT, Int.reduceLE, Int.reduceToNat, dite_true, Option.isSome_some, Option.getD_some, g2, hone]
            refine CallV.own (i := 0) rfl (fail F b mb v c a.at_ 33 hr) ?_
            rintro _ F2 _ hF2 ⟨v2, rfl, hr2⟩
            simp only [push_cast, ↓reduceIte, Nat.reduceEqDiff, Nat.reduceAdd, Nat.reduceMul, Nat.reduceSub, Nat.reduceLT, Nat.reduceLeDiff, reduceCtorEq, Nat.reduceMod, Int.reduceEq, Int.reduceLT, Int.reduceLE, Int.reduceToNat, dite_true]
            exact hG2 (v2, failC c a.at_ 33, F2) _ ⟨hF2, hr2, by simp only [head1, ha, if_pos g2]⟩ (by simp [subk, Eng.look]) (List.Sublist.refl _) rfl rfl
          simp only [push_cast, ↓reduceIte, Nat.reduceEqDiff, Nat.reduceAdd, Nat.reduceMul, Nat.reduceSub, Nat.reduceLT, Nat.reduceLeDiff, reduceCtorEq, Nat.reduceMod, Int.reduceEq, Int.reduceLT, Int.reduceLE, Int.reduceToNat, dite_true, Option.isSome_some, Option.getD_some, eq_true g2, hone]
          refine CallV.pure (empty F _ a.vars hv') ?_
          rintro _ F2 hF2 rfl
          cases hh : hasB a.vars ⟨#[]⟩ with
          | true =>
            simp only [push_cast, ↓reduceIte, Nat.reduceEqDiff, Nat.reduceAdd, Nat.reduceMul, Nat.reduceSub, Nat.reduceLT, Nat.reduceLeDiff, reduceCtorEq, Nat.reduceMod, Int.reduceEq, Int.reduceLT, Int.reduceLE, Int.reduceToNat, dite_true, hone]
            refine CallV.own (i := 0) rfl (fail F2 b mb v c a.at_ 31 (hr.mono hF2)) ?_
            rintro _ F3 _ hF3 ⟨v3, rfl, hr3⟩
            simp only [push_cast, ↓reduceIte, Nat.reduceEqDiff, Nat.reduceAdd, Nat.reduceMul, Nat.reduceSub, Nat.reduceLT, Nat.reduceLeDiff, reduceCtorEq, Nat.reduceMod, Int.reduceEq, Int.reduceLT, Int.reduceLE, Int.reduceToNat, dite_true]
            exact hG2 (v3, failC c a.at_ 31, F3) _ ⟨PH.le_trans hF2 hF3, hr3, by simp only [head1, ha, if_neg (not_not_intro g2), if_pos hh]⟩ (by simp [subk, Eng.look]) (List.Sublist.refl _) rfl rfl
          | false =>
            simp only [push_cast, ↓reduceIte, Nat.reduceEqDiff, Nat.reduceAdd, Nat.reduceMul, Nat.reduceSub, Nat.reduceLT, Nat.reduceLeDiff, reduceCtorEq, Nat.reduceMod, Int.reduceEq, Int.reduceLT, Int.reduceLE, Int.reduceToNat, dite_true, hone]
            exact hG2 (v, c, F2) _ ⟨hF2, hr.mono hF2, by simp only [head1, ha, if_neg (not_not_intro g2), hh, Bool.false_eq_true, if_false]⟩ (by simp [subk, Eng.look]) (List.Sublist.refl _) rfl rfl
      rintro ⟨v2, c2, F2⟩ ⟨hF2, hr2, hc2⟩
      dsimp only at hF2 hr2 hc2 ⊢
      have hone2 := hr2.one
      refine VC.go 3 ?_
      simp only [push_cast, ↓reduceIte, Nat.reduceEqDiff, Nat.reduceAdd, Nat.reduceMul, Nat.reduceSub, Nat.reduceLT, Nat.reduceLeDiff, reduceCtorEq, Nat.reduceMod, Int.reduceEq, Int.reduceLT, Int.reduceLE, Int.reduceToNat, dite_true, hone2]
      intro b14
      refine VC.freeze (m := ⟨2, b14, 35, [.slice pv a.vars.length cv]⟩) (M := [⟨0, b, 55, [.map (some mb), v2]⟩, ⟨1, bx, 100, .int .i64 a.kind :: .int .i64 a.at_ :: .string a.name :: .int .i64 a.n :: .slice pv a.vars.length cv :: expCells a.body (.slice pa a.body.atoms.length ca) (.slice pb a.body.binds.length cb) (.slice pe a.body.kids.length ce) (.slice pl a.body.alts.length cl)⟩]) (List.perm_middle (l₁ := [_, _]) (l₂ := [])) fun F3 hF3 hb14 => ?_
      refine VC.reL [(14, .v (.pointer (some ⟨b14, 0, none⟩))), (9, .v (.bool r)), (5, .o 1 bx 0), (3, .v vs), (0, .o 0 b 0)] (by simp [subv, Eng.look, AV.val]) ?_
      have hc14 : F3.cell ⟨b14, 0, none⟩ = some (.slice pv a.vars.length cv) := by rw [cell_one hb14]; rfl
      have hF23 := PH.le_trans hF2 hF3
      have hr3 := hr2.mono hF3
      have hlaw := head1_twice hds (k := a.kind) (a := a.at_) g1 a.name a.vars c r
      rw [hag] at hlaw
      have fin : ∀ (r' : Bool) (F4 : PH) (v5 : Value) (F5 : PH) (S' : St), F3.le F4 → F4.le F5 → r' = (r || (decide (a.vars.length ≤ 8) && twiceB [] a.vars)) → ScpL F5 v5 (inn ++ a.vars) → subk S'.L [(9, .v (.bool r')), (8, .v v5), (5, .o 1 bx 0), (0, .o 0 b 0)] → ([⟨0, b, 55, [.map (some mb), v2]⟩, ⟨1, bx, 100, .int .i64 a.kind :: .int .i64 a.at_ :: .string a.name :: .int .i64 a.n :: .slice pv a.vars.length cv :: expCells a.body (.slice pa a.body.atoms.length ca) (.slice pb a.body.binds.length cb) (.slice pe a.body.kids.length ce) (.slice pl a.body.alts.length cl)⟩] : List Own).Sublist S'.M → S'.F = F5 → S'.R = [] → G S' :=
        fun r' F4 v5 F5 S' k1 k2 k3 k4 k5 k6 k7 k8 => hG ((v5, r'), v2, c2, F5) S' ⟨PH.le_trans hF23 (PH.le_trans k1 k2), hr3.mono (PH.le_trans k1 k2), by rw [hd1]; exact k4, by rw [hc2, k3]; rw [hag]; exact hlaw⟩ k5 k6 k7 k8
      refine VC.draw (.q 0 (.q 1 (.q 2 (.q 3 (.q 4 (.q 5 (.q 6 (.q 7 (.q 8 (.q 10 (.q 11 (.e 9 (.q 12 (.q 13 (.q 14 (.e 15 (.done))))))))))))))))) mixed (by rfl) ?_
      cases r with
      | true =>
        simp only [push_cast, ↓reduceIte, Nat.reduceEqDiff, Nat.reduceAdd, Nat.reduceMul, Nat.reduceSub, Nat.reduceLT, Nat.reduceLeDiff, reduceCtorEq, Nat.reduceMod, Int.reduceEq, Int.reduceLT, Int.reduceLE, Int.reduceToNat, dite_true, hc14]
        refine VC.go 100 ?_
        simp only [push_cast, ↓reduceIte, Nat.reduceEqDiff, Nat.reduceAdd, Nat.reduceMul, Nat.reduceSub, Nat.reduceLT, Nat.reduceLeDiff, reduceCtorEq, Nat.reduceMod, Int.reduceEq, Int.reduceLT, Int.reduceLE, Int.reduceToNat, dite_true, hc14]
        refine CallV.pure (withL F3 vs _ inn a.vars (hs.mono hF23) (hv'.mono hF23)) ?_
        intro v5 F5 hF5 hs5
        simp only [push_cast, ↓reduceIte, Nat.reduceEqDiff, Nat.reduceAdd, Nat.reduceMul, Nat.reduceSub, Nat.reduceLT, Nat.reduceLeDiff, reduceCtorEq, Nat.reduceMod, Int.reduceEq, Int.reduceLT, Int.reduceLE, Int.reduceToNat, dite_true]
        exact fin true F3 v5 F5 _ (PH.le_refl _) hF5 (by simp) hs5 (by simp [subk, Eng.look]) (List.Sublist.refl _) rfl rfl
      | false =>
        by_cases h8 : a.vars.length ≤ 8
        case neg =>
          have h8' : ¬ (a.vars.length : Int) ≤ 8 := by omega
          simp only [push_cast, ↓reduceIte, Nat.reduceEqDiff, Nat.reduceAdd, Nat.reduceMul, Nat.reduceSub, Nat.reduceLT, Nat.reduceLeDiff, reduceCtorEq, Nat.reduceMod, Int.reduceEq, Int.reduceLT, Int.reduceLE, Int.reduceToNat, dite_true, hc14, h8']
          refine VC.go 100 ?_
          simp only [push_cast, ↓reduceIte, Nat.reduceEqDiff, Nat.reduceAdd, Nat.reduceMul, Nat.reduceSub, Nat.reduceLT, Nat.reduceLeDiff, reduceCtorEq, Nat.reduceMod, Int.reduceEq, Int.reduceLT, Int.reduceLE, Int.reduceToNat, dite_true, hc14]
          refine CallV.pure (withL F3 vs _ inn a.vars (hs.mono hF23) (hv'.mono hF23)) ?_
          intro v5 F5 hF5 hs5
          simp only [push_cast, ↓reduceIte, Nat.reduceEqDiff, Nat.reduceAdd, Nat.reduceMul, Nat.reduceSub, Nat.reduceLT, Nat.reduceLeDiff, reduceCtorEq, Nat.reduceMod, Int.reduceEq, Int.reduceLT, Int.reduceLE, Int.reduceToNat, dite_true]
          exact fin false F3 v5 F5 _ (PH.le_refl _) hF5 (by simp [h8]) hs5 (by simp [subk, Eng.look]) (List.Sublist.refl _) rfl rfl
        have h8' : (a.vars.length : Int) ≤ 8 := by omega
        simp only [push_cast, ↓reduceIte, Nat.reduceEqDiff, Nat.reduceAdd, Nat.reduceMul, Nat.reduceSub, Nat.reduceLT, Nat.reduceLeDiff, reduceCtorEq, Nat.reduceMod, Int.reduceEq, Int.reduceLT, Int.reduceLE, Int.reduceToNat, dite_true, hc14, h8']
        refine CallV.pure (twice F3 a.vars.length (Nat.le_trans hv1 hv2) _ #[] #[.pointer (some ⟨b14, 0, none⟩)] (fun i k => decide (a.vars.getD i (bs []) = a.vars.getD k (bs []))) fun i k hi hk F' hF' => like_alt F' b14 _ a.vars (hF'.cell hc14) (hv'.mono (PH.le_trans hF23 hF')) i k hi hk) ?_
        rintro _ F4 hF4 ⟨i, rfl, hdup⟩
        obtain ⟨d1, d2, _⟩ := dupAt_twice hdup
        by_cases hi : i < a.vars.length
        · have hi' : (i : Int) < (a.vars.length : Int) := by omega
          simp only [push_cast, ↓reduceIte, Nat.reduceEqDiff, Nat.reduceAdd, Nat.reduceMul, Nat.reduceSub, Nat.reduceLT, Nat.reduceLeDiff, reduceCtorEq, Nat.reduceMod, Int.reduceEq, Int.reduceLT, Int.reduceLE, Int.reduceToNat, dite_true, hi', hF4.cell hc14]
          refine VC.go 100 ?_
          simp only [push_cast, ↓reduceIte, Nat.reduceEqDiff, Nat.reduceAdd, Nat.reduceMul, Nat.reduceSub, Nat.reduceLT, Nat.reduceLeDiff, reduceCtorEq, Nat.reduceMod, Int.reduceEq, Int.reduceLT, Int.reduceLE, Int.reduceToNat, dite_true, hF4.cell hc14]
          refine CallV.pure (withL F4 vs _ inn a.vars (hs.mono (PH.le_trans hF23 hF4)) (hv'.mono (PH.le_trans hF23 hF4))) ?_
          intro v5 F5 hF5 hs5
          simp only [push_cast, ↓reduceIte, Nat.reduceEqDiff, Nat.reduceAdd, Nat.reduceMul, Nat.reduceSub, Nat.reduceLT, Nat.reduceLeDiff, reduceCtorEq, Nat.reduceMod, Int.reduceEq, Int.reduceLT, Int.reduceLE, Int.reduceToNat, dite_true]
          exact fin true F4 v5 F5 _ hF4 hF5 (by simp [h8, d2.1 hi]) hs5 (by simp [subk, Eng.look]) (List.Sublist.refl _) rfl rfl
        · have hi' : ¬ (i : Int) < (a.vars.length : Int) := by omega
          have ht : twiceB [] a.vars = false := Bool.eq_false_iff.2 fun h => hi (d2.2 h)
          simp only [push_cast, ↓reduceIte, Nat.reduceEqDiff, Nat.reduceAdd, Nat.reduceMul, Nat.reduceSub, Nat.reduceLT, Nat.reduceLeDiff, reduceCtorEq, Nat.reduceMod, Int.reduceEq, Int.reduceLT, Int.reduceLE, Int.reduceToNat, dite_true, hi', hF4.cell hc14]
          refine VC.go 100 ?_
          simp only [push_cast, ↓reduceIte, Nat.reduceEqDiff, Nat.reduceAdd, Nat.reduceMul, Nat.reduceSub, Nat.reduceLT, Nat.reduceLeDiff, reduceCtorEq, Nat.reduceMod, Int.reduceEq, Int.reduceLT, Int.reduceLE, Int.reduceToNat, dite_true, hF4.cell hc14]
          refine CallV.pure (withL F4 vs _ inn a.vars (hs.mono (PH.le_trans hF23 hF4)) (hv'.mono (PH.le_trans hF23 hF4))) ?_
          intro v5 F5 hF5 hs5
          simp only [push_cast, ↓reduceIte, Nat.reduceEqDiff, Nat.reduceAdd, Nat.reduceMul, Nat.reduceSub, Nat.reduceLT, Nat.reduceLeDiff, reduceCtorEq, Nat.reduceMod, Int.reduceEq, Int.reduceLT, Int.reduceLE, Int.reduceToNat, dite_true]
          exact fin false F4 v5 F5 _ hF4 hF5 (by simp [ht]) hs5 (by simp [subk, Eng.look]) (List.Sublist.refl _) rfl rfl
    by_cases g2 : a.kind = 2
    · simp only [push_cast, ↓reduceIte, Nat.reduceEqDiff, Nat.reduceAdd, Nat.reduceMul, Nat.reduceSub, Nat.reduceLT, Nat.reduceLeDiff, reduceCtorEq, Nat.reduceMod, Int.reduceEq, Int.reduceLT, Int.reduceLE, Int.reduceToNat, dite_true, g1, eq_true g2, hone]
      exact hG ((vs, r), v, c, F) _ ⟨PH.le_refl _, hr, by simp only [altIn, if_neg g1, if_neg (show ¬ a.kind = 3 by omega)]; exact hs, by rw [hag]; simp only [headC, if_neg g1, if_pos g2]⟩ (by simp [subk, Eng.look]) (List.Sublist.refl _) rfl rfl
    by_cases g3 : a.kind = 3
    · have hd3 : altIn a.kind a.name a.vars inn = inn ++ [a.name] := by simp only [altIn, if_neg g1, if_pos g3]
      by_cases g4 : a.name = ⟨#[]⟩
      · simp only [push_cast, ↓reduceIte, Nat.reduceEqDiff, Nat.reduceAdd, Nat.reduceMul, Nat.reduceSub, Nat.reduceLT, Nat.reduceLeDiff, reduceCtorEq, Nat.reduceMod, Int.reduceEq, Int.reduceLT, Int.reduceLE, Int.reduceToNat, dite_true, g1, g2, eq_true g3, eq_true g4, hone]
        refine CallV.own (i := 0) rfl (fail F b mb v c a.at_ 31 hr) ?_
        rintro _ F3 _ hF3 ⟨v3, rfl, hr3⟩
        have hone3 := hr3.one
        simp only [push_cast, ↓reduceIte, Nat.reduceEqDiff, Nat.reduceAdd, Nat.reduceMul, Nat.reduceSub, Nat.reduceLT, Nat.reduceLeDiff, reduceCtorEq, Nat.reduceMod, Int.reduceEq, Int.reduceLT, Int.reduceLE, Int.reduceToNat, dite_true, hone3]
        intro b5 F5 hF5 hb5
        refine CallV.pure (withL F5 vs _ inn [a.name] (hs.mono (PH.le_trans hF3 hF5)) (strs_blk (l := [a.name]) hb5 one_max)) ?_
        intro v5 F6 hF6 hs6
        simp only [push_cast, ↓reduceIte, Nat.reduceEqDiff, Nat.reduceAdd, Nat.reduceMul, Nat.reduceSub, Nat.reduceLT, Nat.reduceLeDiff, reduceCtorEq, Nat.reduceMod, Int.reduceEq, Int.reduceLT, Int.reduceLE, Int.reduceToNat, dite_true]
        exact hG ((v5, r), v3, failC c a.at_ 31, F6) _ ⟨PH.le_trans hF3 (PH.le_trans hF5 hF6), hr3.mono (PH.le_trans hF5 hF6), by rw [hd3]; exact hs6, by rw [hag]; simp only [headC, if_neg g1, if_neg g2, if_pos g3]; rw [show whenC (a.name = ⟨#[]⟩) c a.at_ 31 = failC c a.at_ 31 from if_pos g4]⟩ (by simp [subk, Eng.look]) (List.Sublist.refl _) rfl rfl
      · simp only [push_cast, ↓reduceIte, Nat.reduceEqDiff, Nat.reduceAdd, Nat.reduceMul, Nat.reduceSub, Nat.reduceLT, Nat.reduceLeDiff, reduceCtorEq, Nat.reduceMod, Int.reduceEq, Int.reduceLT, Int.reduceLE, Int.reduceToNat, dite_true, g1, g2, eq_true g3, g4, hone]
        intro b5 F5 hF5 hb5
        refine CallV.pure (withL F5 vs _ inn [a.name] (hs.mono hF5) (strs_blk (l := [a.name]) hb5 one_max)) ?_
        intro v5 F6 hF6 hs6
        simp only [push_cast, ↓reduceIte, Nat.reduceEqDiff, Nat.reduceAdd, Nat.reduceMul, Nat.reduceSub, Nat.reduceLT, Nat.reduceLeDiff, reduceCtorEq, Nat.reduceMod, Int.reduceEq, Int.reduceLT, Int.reduceLE, Int.reduceToNat, dite_true]
        exact hG ((v5, r), v, c, F6) _ ⟨PH.le_trans hF5 hF6, hr.mono (PH.le_trans hF5 hF6), by rw [hd3]; exact hs6, by rw [hag]; simp only [headC, if_neg g1, if_neg g2, if_pos g3]; rw [show whenC (a.name = ⟨#[]⟩) c a.at_ 31 = c from if_neg g4]⟩ (by simp [subk, Eng.look]) (List.Sublist.refl _) rfl rfl
    · simp only [push_cast, ↓reduceIte, Nat.reduceEqDiff, Nat.reduceAdd, Nat.reduceMul, Nat.reduceSub, Nat.reduceLT, Nat.reduceLeDiff, reduceCtorEq, Nat.reduceMod, Int.reduceEq, Int.reduceLT, Int.reduceLE, Int.reduceToNat, dite_true, g1, g2, g3, hone]
      refine CallV.own (i := 0) rfl (fail F b mb v c a.at_ 2 hr) ?_
      rintro _ F3 _ hF3 ⟨v3, rfl, hr3⟩
      simp only [push_cast, ↓reduceIte, Nat.reduceEqDiff, Nat.reduceAdd, Nat.reduceMul, Nat.reduceSub, Nat.reduceLT, Nat.reduceLeDiff, reduceCtorEq, Nat.reduceMod, Int.reduceEq, Int.reduceLT, Int.reduceLE, Int.reduceToNat, dite_true]
      exact hG ((vs, r), v3, failC c a.at_ 2, F3) _ ⟨hF3, hr3, by simp only [altIn, if_neg g1, if_neg g3]; exact hs.mono hF3, by rw [hag]; simp only [headC, if_neg g1, if_neg g2, if_neg g3]⟩ (by simp [subk, Eng.look]) (List.Sublist.refl _) rfl rfl
  rintro ⟨⟨v8, r8⟩, v2, c2, F2⟩ ⟨hF2, hr2, hs2, hw⟩
  dsimp only at hF2 hr2 hs2 hw ⊢
  have hone2 := hr2.one
  have hil : (altIn a.kind a.name a.vars inn).length ≤ inn.length + a.vars.length + 1 := by
    unfold altIn
    split
    · simp
    · split
      · simp
      · omega
  refine VC.go 100 ?_
  cases r8 with
  | false =>
    simp only [push_cast, ↓reduceIte, Nat.reduceEqDiff, Nat.reduceAdd, Nat.reduceMul, Nat.reduceSub, Nat.reduceLT, Nat.reduceLeDiff, reduceCtorEq, Nat.reduceMod, Int.reduceEq, Int.reduceLT, Int.reduceLE, Int.reduceToNat, dite_true, hone2]
    refine CallV.own (i := 0) rfl (hE F2 b mb v2 v8 _ _ _ _ c2 _ hr2 (hX'.mono hF2) hs2 (hd.mono hF2) (hT.mono hF2) (by omega)) ?_
    rintro _ F4 _ hF4 ⟨v4, rfl, hr4⟩
    simp only [push_cast, ↓reduceIte, Nat.reduceEqDiff, Nat.reduceAdd, Nat.reduceMul, Nat.reduceSub, Nat.reduceLT, Nat.reduceLeDiff, reduceCtorEq, Nat.reduceMod, Int.reduceEq, Int.reduceLT, Int.reduceLE, Int.reduceToNat, dite_true]
    rw [← hw, whenC, if_neg Bool.false_ne_true] at hres
    rw [hres] at hr4
    exact sret rfl hr4
  | true =>
    simp only [push_cast, ↓reduceIte, Nat.reduceEqDiff, Nat.reduceAdd, Nat.reduceMul, Nat.reduceSub, Nat.reduceLT, Nat.reduceLeDiff, reduceCtorEq, Nat.reduceMod, Int.reduceEq, Int.reduceLT, Int.reduceLE, Int.reduceToNat, dite_true, hone2]
    refine CallV.own (i := 0) rfl (fail F2 b mb v2 c2 a.at_ 30 hr2) ?_
    rintro _ F3 _ hF3 ⟨v3, rfl, hr3⟩
    have hone3 := hr3.one
    simp only [push_cast, ↓reduceIte, Nat.reduceEqDiff, Nat.reduceAdd, Nat.reduceMul, Nat.reduceSub, Nat.reduceLT, Nat.reduceLeDiff, reduceCtorEq, Nat.reduceMod, Int.reduceEq, Int.reduceLT, Int.reduceLE, Int.reduceToNat, dite_true, hone3]
    refine CallV.own (i := 0) rfl (hE F3 b mb v3 v8 _ _ _ _ (failC c2 a.at_ 30) _ hr3 (hX'.mono (PH.le_trans hF2 hF3)) (hs2.mono hF3) (hd.mono (PH.le_trans hF2 hF3)) (hT.mono (PH.le_trans hF2 hF3)) (by omega)) ?_
    rintro _ F4 _ hF4 ⟨v4, rfl, hr4⟩
    simp only [push_cast, ↓reduceIte, Nat.reduceEqDiff, Nat.reduceAdd, Nat.reduceMul, Nat.reduceSub, Nat.reduceLT, Nat.reduceLeDiff, reduceCtorEq, Nat.reduceMod, Int.reduceEq, Int.reduceLT, Int.reduceLE, Int.reduceToNat, dite_true]
    rw [← hw, whenC, if_pos rfl] at hres
    rw [hres] at hr4
    exact sret rfl hr4
end Go.Proofs.YtjeidgjhkjnkeaaDoor.P
