/- Package scope: Check answers as the document's checker does. (Written by gen/p8.py.) -/
import Derived.Test.YtjeidgjhkjnkeaaDoorP7
import Derived.Test.YtjeidgjhkjnkeaaDoorK8
namespace Go.Proofs.YtjeidgjhkjnkeaaDoor.P
open Go Go.Eng Go.Proofs Go.Proofs.YtjeidgjhkjnkeaaDoor.T Go.Proofs.YtjeidgjhkjnkeaaDoor.K
set_option linter.unusedSimpArgs false
set_option linter.unusedVariables false
set_option maxRecDepth 100000
set_option maxHeartbeats 8000000
/-! What is bad stays so. -/
theorem twiceD_bad (d : Dat) : ∀ (p : List Dat) (c : Ck), c.bad = true → twiceD p d c = c
  | [], _, _ => rfl
  | x :: p, c, h => by
    show twiceD p d (whenC (x.name = d.name) c d.at_ 30) = c
    rw [whenC_bad h, twiceD_bad d p c h]
theorem datasC_bad : ∀ (l p : List Dat) (c : Ck), c.bad = true → datasC p l c = c
  | [], _, _, _ => rfl
  | d :: l, p, c, h => by
    simp only [datasC]
    rw [show stepDat p d c = c from by rw [stepDat, twiceD_bad d p c h, whenC_bad h], datasC_bad l _ c h]
theorem dupC_bad : ∀ (l : List Bind) (p : List ByteArray) (c : Ck), c.bad = true → dupC p l c = c
  | [], _, _, _ => rfl
  | b :: l, p, c, h => by
    simp only [dupC]
    rw [show stepD p b c = c from by rw [stepD, whenC_bad (c := c) h, whenC_bad h], dupC_bad l _ c h]
theorem bindsC_bad (ds : List Dat) (inn : List ByteArray) : ∀ (l : List Bind) (c : Ck), c.bad = true → bindsC ds l inn c = c
  | [], c, _ => by simp [bindsC]
  | b :: l, c, h => by
    simp only [bindsC]
    rw [show formC ds b inn c = c from by rw [formC_eq, if_pos h], bindsC_bad ds inn l c h]
theorem datasC_append : ∀ (l m p : List Dat) (c : Ck), datasC p (l ++ m) c = datasC (p ++ l) m (datasC p l c)
  | [], m, p, c => by simp [datasC]
  | x :: l, m, p, c => by rw [List.cons_append, datasC, datasC, datasC_append l m]; simp
theorem dupC_append : ∀ (l m : List Bind) (p : List ByteArray) (c : Ck), dupC p (l ++ m) c = dupC (p ++ l.map Bind.name) m (dupC p l c)
  | [], m, p, c => by simp [dupC]
  | x :: l, m, p, c => by rw [List.cons_append, dupC, dupC, dupC_append l m]; simp
/-- The first fault of the constructors is the fault. -/
theorem check_datas {ds : List Dat} {bl : List Bind} {k : Nat} (h : (datasC [] (ds.take k) ⟨false, 0, 0⟩).bad = true) : checkC ds bl = datasC [] (ds.take k) ⟨false, 0, 0⟩ := by
  have h1 : datasC [] ds ⟨false, 0, 0⟩ = datasC [] (ds.take k) ⟨false, 0, 0⟩ := by
    rw [← List.take_append_drop k ds, datasC_append, List.take_append_drop]
    exact datasC_bad _ _ _ h
  unfold checkC
  rw [h1, dupC_bad _ _ _ h, bindsC_bad _ _ _ _ h, whenC_bad h]
theorem check_dup {ds : List Dat} {bl : List Bind} {k : Nat} (hd : datasC [] ds ⟨false, 0, 0⟩ = ⟨false, 0, 0⟩) (h : (dupC [] (bl.take k) ⟨false, 0, 0⟩).bad = true) : checkC ds bl = dupC [] (bl.take k) ⟨false, 0, 0⟩ := by
  have h1 : dupC [] bl ⟨false, 0, 0⟩ = dupC [] (bl.take k) ⟨false, 0, 0⟩ := by
    rw [← List.take_append_drop k bl, dupC_append, List.take_append_drop]
    exact dupC_bad _ _ _ h
  unfold checkC
  rw [hd, h1, bindsC_bad _ _ _ _ h, whenC_bad h]
theorem twiceD_any (d : Dat) : ∀ (p : List Dat) (c : Ck), twiceD p d c = if (arityD p d.name).isSome = true then failC c d.at_ 30 else c
  | [], c => rfl
  | x :: p, c => by
    show twiceD p d (whenC (x.name = d.name) c d.at_ 30) = _
    rw [twiceD_any d p, arityD]
    by_cases h : x.name = d.name
    · simp only [whenC, if_pos h, Option.isSome_some, if_true, failC_fail, ite_self]
    · simp only [whenC, if_neg h]
theorem arityD_snoc (l : List Dat) (d : Dat) (s : ByteArray) : arityD (l ++ [d]) s = match arityD l s with
    | some m => some m
    | none => if d.name = s then some d.arity else none := by
  induction l with
  | nil => simp [arityD]
  | cons x l ih =>
    simp only [List.cons_append, arityD]
    split
    · rfl
    · exact ih
theorem check (ds : List Dat) (bl : List Bind) (F : PH) (vd vb : Value) (hd : Dats F vd ds) (hbs : SlE F 11 (RBind F) vb bl) (hT : Table F) (hs : sizeBs bl ≤ 10000000) :
    PFn Tryd.prog 8 [.agg #[vd, vb]] F (fun v _ => v = .tuple #[.int .i64 (checkC ds bl).at_, .int .i64 (checkC ds bl).e]) := by
  have hd' := hd
  have hb' := hbs
  have hbn := sizeBs_count bl
  obtain ⟨pd, cd, rfl, hd1, hd2⟩ := hd.val
  obtain ⟨pb, cb, rfl, hb1, hb2⟩ := hbs.val
  generalize hres : checkC ds bl = res
  refine Fn.intro (n := 139) (ts := [2, 3]) Tryd.func8 rfl rfl rfl rfl (by simp) fun B hB => VC.go 100 ?_
  simp only [push_cast, ↓reduceIte, Nat.reduceEqDiff, Nat.reduceAdd, Nat.reduceMul, Nat.reduceSub, Nat.reduceLT, Nat.reduceLeDiff, reduceCtorEq, Nat.reduceMod, Int.reduceEq, Int.reduceLT, Int.reduceLE, Int.reduceToNat, dite_true]
  intro b1
  refine Eff.makeMap rfl fun mb => ?_
  simp only [push_cast, ↓reduceIte, Nat.reduceEqDiff, Nat.reduceAdd, Nat.reduceMul, Nat.reduceSub, Nat.reduceLT, Nat.reduceLeDiff, reduceCtorEq, Nat.reduceMod, Int.reduceEq, Int.reduceLT, Int.reduceLE, Int.reduceToNat, dite_true]
  intro bc
  refine VC.loopP (ι := Nat × Array MapEntry × Nat) (fun i => [(23, .v (.int .i64 i.1)), (22, .v (.int .i64 ds.length)), (21, .v (.slice pd ds.length cd)), (4, .o 1 bc 0), (1, .o 0 b1 0)]) (fun _ => F) (fun i => [PH.one mb (.map i.2.1 i.2.2)]) (fun i => i.1 ≤ ds.length ∧ datasC [] (ds.take i.1) ⟨false, 0, 0⟩ = ⟨false, 0, 0⟩ ∧ (∀ d ∈ ds.take i.1, d.arity ≤ 8) ∧ ∃ l, MapAs Value.string i.2.1 l ∧ ∀ s, mget l s = (arityD (ds.take i.1) s).map (Value.int .i64)) (fun i => ds.length - i.1) (0, #[], 0) ⟨Nat.zero_le _, rfl, (fun _ h => nomatch h), [], rfl, fun s => rfl⟩ (by simp [subk, Eng.look]) rfl (subR_refl _) ?_
  rintro ⟨k, es, cm⟩ ⟨hk, hc, h8, l, hes, hget⟩ G0 hG0
  dsimp only at hk hc h8 hes hget hG0 ⊢
  refine VC.go 100 ?_
  by_cases h : k < ds.length
  case pos =>
    have h' : (k : Int) < (ds.length : Int) := by omega
    have h0 : (0 : Int) ≤ (k : Int) := by omega
    have e2 : IntKind.i64.wrap ((k : Int) + 1) = ((k + 1 : Nat) : Int) := wadd k h (Nat.le_trans hd1 hd2)
    obtain ⟨q, _, cs, eq, _, _, kl, kr⟩ := hd'.elem (by decide) (i := k) (a := ds[k]) (List.getElem?_eq_getElem h) (fun _ _ h => h.len)
    cases eq
    obtain rfl := kr
    have htk0 : ds.take (k + 1) = ds.take k ++ [ds[k]] := List.take_succ_eq_append_getElem h
    obtain ⟨d, hdk⟩ : ∃ d, d = ds[k] := ⟨_, rfl⟩
    have htk : ds.take (k + 1) = ds.take k ++ [d] := by rw [hdk]; exact htk0
    rw [← hdk] at kl
    have ht : datasC [] (ds.take (k + 1)) ⟨false, 0, 0⟩ = stepDat (ds.take k) d ⟨false, 0, 0⟩ := by rw [htk, datasC_snoc, hc]; simp
    have kc1 := cell_at kl (o := 1) rfl
    simp only [push_cast, ↓reduceIte, Nat.reduceEqDiff, Nat.reduceAdd, Nat.reduceMul, Nat.reduceSub, Nat.reduceLT, Nat.reduceLeDiff, reduceCtorEq, Nat.reduceMod, Int.reduceEq, Int.reduceLT, Int.reduceLE, Int.reduceToNat, dite_true, h', h0, kl]
    intro b2
    refine VC.draw (.q 0 (.q 1 (.q 2 (.q 3 (.q 4 (.q 5 (.e 6 (.q 7 (.q 8 (.q 9 (.q 10 (.q 11 (.done))))))))))))) mixed (by rfl) ?_
    simp only [push_cast, ↓reduceIte, Nat.reduceEqDiff, Nat.reduceAdd, Nat.reduceMul, Nat.reduceSub, Nat.reduceLT, Nat.reduceLeDiff, reduceCtorEq, Nat.reduceMod, Int.reduceEq, Int.reduceLT, Int.reduceLE, Int.reduceToNat, dite_true]
    refine Eff.lookup keyStr rfl ty52 rfl Tryd.underlying9 ty3 rfl rfl (.inr ⟨_, List.mem_cons_self, PH.one_self _ _⟩) hes ?_
    rw [hget]
    cases ha : arityD (ds.take k) d.name with
    | some m =>
      simp only [push_cast, ↓reduceIte, Nat.reduceEqDiff, Nat.reduceAdd, Nat.reduceMul, Nat.reduceSub, Nat.reduceLT, Nat.reduceLeDiff, reduceCtorEq, Nat.reduceMod, Int.reduceEq, Int.reduceLT, Int.reduceLE, Int.reduceToNat, dite_true, Option.map_some, Option.getD_some, Option.isSome_some]
      refine VC.go 100 ?_
      simp only [push_cast, ↓reduceIte, Nat.reduceEqDiff, Nat.reduceAdd, Nat.reduceMul, Nat.reduceSub, Nat.reduceLT, Nat.reduceLeDiff, reduceCtorEq, Nat.reduceMod, Int.reduceEq, Int.reduceLT, Int.reduceLE, Int.reduceToNat, dite_true]
      have e9 : datasC [] (ds.take (k + 1)) ⟨false, 0, 0⟩ = ⟨true, d.at_, 30⟩ := by
        rw [ht, stepDat, twiceD_any, ha]
        simp [failC, whenC]
      have e8 : res = ⟨true, d.at_, 30⟩ := by rw [← hres, check_datas (k := k + 1) (by rw [e9]), e9]
      subst e8
      exact RetOk.p rfl rfl
    | none =>
      simp only [push_cast, ↓reduceIte, Nat.reduceEqDiff, Nat.reduceAdd, Nat.reduceMul, Nat.reduceSub, Nat.reduceLT, Nat.reduceLeDiff, reduceCtorEq, Nat.reduceMod, Int.reduceEq, Int.reduceLT, Int.reduceLE, Int.reduceToNat, dite_true, Option.map_none, Option.getD_none, Option.isSome_none]
      refine VC.go 100 ?_
      have e7 : stepDat (ds.take k) d ⟨false, 0, 0⟩ = whenC (d.arity < 0 ∨ 8 < d.arity) ⟨false, 0, 0⟩ d.at_ 33 := by
        rw [stepDat, twiceD_any, ha]; simp
      by_cases a1 : d.arity < 0
      · simp only [push_cast, ↓reduceIte, Nat.reduceEqDiff, Nat.reduceAdd, Nat.reduceMul, Nat.reduceSub, Nat.reduceLT, Nat.reduceLeDiff, reduceCtorEq, Nat.reduceMod, Int.reduceEq, Int.reduceLT, Int.reduceLE, Int.reduceToNat, dite_true, a1]
        have e8 : res = ⟨true, d.at_, 33⟩ := by
          have e9 : datasC [] (ds.take (k + 1)) ⟨false, 0, 0⟩ = ⟨true, d.at_, 33⟩ := by rw [ht, e7, whenC, if_pos (.inl a1)]; rfl
          rw [← hres, check_datas (k := k + 1) (by rw [e9]), e9]
        subst e8
        exact RetOk.p rfl rfl
      by_cases a2 : 8 < d.arity
      · simp only [push_cast, ↓reduceIte, Nat.reduceEqDiff, Nat.reduceAdd, Nat.reduceMul, Nat.reduceSub, Nat.reduceLT, Nat.reduceLeDiff, reduceCtorEq, Nat.reduceMod, Int.reduceEq, Int.reduceLT, Int.reduceLE, Int.reduceToNat, dite_true, a1, a2]
        have e8 : res = ⟨true, d.at_, 33⟩ := by
          have e9 : datasC [] (ds.take (k + 1)) ⟨false, 0, 0⟩ = ⟨true, d.at_, 33⟩ := by rw [ht, e7, whenC, if_pos (.inr a2)]; rfl
          rw [← hres, check_datas (k := k + 1) (by rw [e9]), e9]
        subst e8
        exact RetOk.p rfl rfl
      simp only [push_cast, ↓reduceIte, Nat.reduceEqDiff, Nat.reduceAdd, Nat.reduceMul, Nat.reduceSub, Nat.reduceLT, Nat.reduceLeDiff, reduceCtorEq, Nat.reduceMod, Int.reduceEq, Int.reduceLT, Int.reduceLE, Int.reduceToNat, dite_true, a1, a2]
      refine VC.draw (.q 0 (.q 1 (.q 2 (.q 3 (.q 4 (.q 5 (.q 6 (.q 7 (.q 8 (.q 9 (.q 10 (.q 11 (.e 12 (.done)))))))))))))) mixed (by rfl) ?_
      simp only [push_cast, ↓reduceIte, Nat.reduceEqDiff, Nat.reduceAdd, Nat.reduceMul, Nat.reduceSub, Nat.reduceLT, Nat.reduceLeDiff, reduceCtorEq, Nat.reduceMod, Int.reduceEq, Int.reduceLT, Int.reduceLE, Int.reduceToNat, dite_true, h', h0, kc1]
      refine Eff.update keyStr rfl rfl ty52 rfl Tryd.underlying9 rfl rfl rfl (List.Perm.refl _) hes fun es' c' hes' => ?_
      simp only [push_cast, ↓reduceIte, Nat.reduceEqDiff, Nat.reduceAdd, Nat.reduceMul, Nat.reduceSub, Nat.reduceLT, Nat.reduceLeDiff, reduceCtorEq, Nat.reduceMod, Int.reduceEq, Int.reduceLT, Int.reduceLE, Int.reduceToNat, dite_true]
      refine VC.go 100 ?_
      simp only [push_cast, ↓reduceIte, Nat.reduceEqDiff, Nat.reduceAdd, Nat.reduceMul, Nat.reduceSub, Nat.reduceLT, Nat.reduceLeDiff, reduceCtorEq, Nat.reduceMod, Int.reduceEq, Int.reduceLT, Int.reduceLE, Int.reduceToNat, dite_true, e2]
      refine hG0 (k + 1, es', c') _ ⟨by simp; omega, ?_, fun x hx => ?_, _, hes', fun s => ?_⟩ (by simp; omega) (by simp [subk, Eng.look]) (by simp) rfl (subR_refl _)
      · dsimp only; rw [ht, e7, whenC, if_neg (fun h => h.elim a1 a2)]
      · dsimp only at hx
        rw [htk] at hx
        rcases List.mem_append.1 hx with hx | hx
        · exact h8 x hx
        · rw [List.mem_singleton.1 hx]; omega
      · dsimp only
        rw [mget_mput, hget, htk, arityD_snoc]
        by_cases e : d.name = s
        · subst e; rw [ha]; simp
        · rw [if_neg e]
          cases arityD (ds.take k) s with
          | none => simp [e]
          | some m => rfl
  have h' : ¬ (k : Int) < (ds.length : Int) := by omega
  rw [List.take_of_length_le (by omega)] at hc h8
  have hget' : ∀ s, mget l s = (arityD ds s).map (Value.int .i64) := by
    intro s; rw [hget, List.take_of_length_le (by omega)]
  clear hG0 hget hk
  simp only [push_cast, ↓reduceIte, Nat.reduceEqDiff, Nat.reduceAdd, Nat.reduceMul, Nat.reduceSub, Nat.reduceLT, Nat.reduceLeDiff, reduceCtorEq, Nat.reduceMod, Int.reduceEq, Int.reduceLT, Int.reduceLE, Int.reduceToNat, dite_true, h']
  refine VC.freezeR (List.Perm.refl _) fun F1 hF1 hmb => ?_
  have hcons : Cons F1 mb ds := ⟨es, cm, l, hmb mb _ (PH.one_self _ _), hes, hget'⟩
  obtain ⟨own, ho⟩ : ∃ own, own = bl.map Bind.name := ⟨_, rfl⟩
  have hol : own.length = bl.length := by rw [ho]; simp
  refine VC.loopF (ι := Nat × Value × PH) (fun i => [(67, .v (.int .i64 i.1)), (66, .v (.int .i64 bl.length)), (65, .v (.slice pb bl.length cb)), (9, .v i.2.1), (4, .o 1 bc 0), (1, .o 0 b1 0)]) (fun i => i.2.2) (fun i => i.1 ≤ bl.length ∧ F1.le i.2.2 ∧ ScpL i.2.2 i.2.1 (own.take i.1) ∧ dupC [] (bl.take i.1) ⟨false, 0, 0⟩ = ⟨false, 0, 0⟩) (fun i => bl.length - i.1) (0, .pointer none, F1) ⟨Nat.zero_le _, PH.le_refl _, ⟨0, _, .nil, fun s => by simp [hasB]⟩, rfl⟩ (by simp [subk, Eng.look]) rfl ?_
  rintro ⟨j, v9, F2⟩ ⟨hj, hF2, hsc, hdup⟩ G1 hG1
  dsimp only at hj hF2 hsc hdup hG1 ⊢
  have hFF2 := PH.le_trans hF1 hF2
  refine VC.go 100 ?_
  by_cases h2 : j < bl.length
  case pos =>
    have h' : (j : Int) < (bl.length : Int) := by omega
    have h0 : (0 : Int) ≤ (j : Int) := by omega
    have hjo : j < own.length := by omega
    have e2 : IntKind.i64.wrap ((j : Int) + 1) = ((j + 1 : Nat) : Int) := wadd j h2 (Nat.le_trans hb1 hb2)
    obtain ⟨q, _, cs, eq, _, _, kl, kr⟩ := (hb'.mono (R' := RBind F2) hFF2 (fun _ _ _ h => h.mono hFF2)).elem (by decide) (i := j) (a := bl[j]) (List.getElem?_eq_getElem h2) (fun _ _ h => h.len)
    cases eq
    have hnj : (bl[j]).name = own[j] := by subst ho; simp
    have hpj : [] ++ (bl.take j).map Bind.name = own.take j := by subst ho; simp [List.map_take]
    have ht : dupC [] (bl.take (j + 1)) ⟨false, 0, 0⟩ = whenC (hasB (own.take j) own[j] = true) (whenC (own[j] = ⟨#[]⟩) ⟨false, 0, 0⟩ (bl[j]).at_ 31) (bl[j]).at_ 30 := by
      rw [List.take_succ_eq_append_getElem h2, dupC_snoc, hdup, hpj, stepD, hnj]
    obtain ⟨bd, hbk⟩ : ∃ bd, bd = bl[j] := ⟨_, rfl⟩
    rw [← hbk] at hnj ht kr
    obtain ⟨wv, cc, rfl, hwv, hcc⟩ := RBind_iff.1 kr
    obtain ⟨xa, xb, xe, xl, rfl, hx⟩ := RExp_iff.1 hcc
    obtain ⟨pv, cv, rfl, _, _, _⟩ := hwv
    obtain ⟨_, _, _, _, _, _, _, _, rfl, rfl, rfl, rfl⟩ := hx.slices
    by_cases g : bd.name = ⟨#[]⟩
    · simp only [push_cast, ↓reduceIte, Nat.reduceEqDiff, Nat.reduceAdd, Nat.reduceMul, Nat.reduceSub, Nat.reduceLT, Nat.reduceLeDiff, reduceCtorEq, Nat.reduceMod, Int.reduceEq, Int.reduceLT, Int.reduceLE, Int.reduceToNat, dite_true, h', h0, kl, eq_true g]
      intro b11
      have e9 : dupC [] (bl.take (j + 1)) ⟨false, 0, 0⟩ = ⟨true, bd.at_, 31⟩ := by
        rw [ht, show whenC (own[j] = ⟨#[]⟩) ⟨false, 0, 0⟩ bd.at_ 31 = ⟨true, bd.at_, 31⟩ from by rw [whenC, if_pos (by rw [← hnj]; exact g)]; rfl, whenC_bad rfl]
      have e8 : res = ⟨true, bd.at_, 31⟩ := by rw [← hres, check_dup hc (k := j + 1) (by rw [e9]), e9]
      subst e8
      exact RetOk.p rfl rfl
    rw [show whenC (own[j] = ⟨#[]⟩) ⟨false, 0, 0⟩ bd.at_ 31 = ⟨false, 0, 0⟩ from if_neg (by rw [← hnj]; exact g)] at ht
    simp only [push_cast, ↓reduceIte, Nat.reduceEqDiff, Nat.reduceAdd, Nat.reduceMul, Nat.reduceSub, Nat.reduceLT, Nat.reduceLeDiff, reduceCtorEq, Nat.reduceMod, Int.reduceEq, Int.reduceLT, Int.reduceLE, Int.reduceToNat, dite_true, h', h0, kl, g]
    intro b11
    refine CallV.pure (hasL F2 v9 (own.take j) bd.name hsc) ?_
    rintro _ F3 hF3 rfl
    rw [hnj]
    cases hh : hasB (own.take j) own[j] with
    | true =>
      simp only [push_cast, ↓reduceIte, Nat.reduceEqDiff, Nat.reduceAdd, Nat.reduceMul, Nat.reduceSub, Nat.reduceLT, Nat.reduceLeDiff, reduceCtorEq, Nat.reduceMod, Int.reduceEq, Int.reduceLT, Int.reduceLE, Int.reduceToNat, dite_true]
      rw [hh] at ht
      have e8 : res = ⟨true, bd.at_, 30⟩ := by
        have e9 : dupC [] (bl.take (j + 1)) ⟨false, 0, 0⟩ = ⟨true, bd.at_, 30⟩ := by rw [ht, whenC, if_pos rfl]; rfl
        rw [← hres, check_dup hc (k := j + 1) (by rw [e9]), e9]
      subst e8
      exact RetOk.p rfl rfl
    | false =>
      simp only [push_cast, ↓reduceIte, Nat.reduceEqDiff, Nat.reduceAdd, Nat.reduceMul, Nat.reduceSub, Nat.reduceLT, Nat.reduceLeDiff, reduceCtorEq, Nat.reduceMod, Int.reduceEq, Int.reduceLT, Int.reduceLE, Int.reduceToNat, dite_true]
      intro b85 F4 hF4 hb85
      refine CallV.pure (withL F4 v9 _ (own.take j) [own[j]] (hsc.mono (PH.le_trans hF3 hF4)) (strs_blk (l := [own[j]]) hb85 one_max)) ?_
      intro v10 F5 hF5 hs5
      rw [hh] at ht
      simp only [push_cast, ↓reduceIte, Nat.reduceEqDiff, Nat.reduceAdd, Nat.reduceMul, Nat.reduceSub, Nat.reduceLT, Nat.reduceLeDiff, reduceCtorEq, Nat.reduceMod, Int.reduceEq, Int.reduceLT, Int.reduceLE, Int.reduceToNat, dite_true, e2]
      refine hG1 (j + 1, v10, F5) _ ⟨by simp; omega, PH.le_trans hF2 (PH.le_trans hF3 (PH.le_trans hF4 hF5)), ?_, ?_⟩ (by simp; omega) (by simp [subk, Eng.look]) (by simp) rfl rfl
      · dsimp only; rw [List.take_succ_eq_append_getElem hjo]; exact hs5
      · dsimp only; rw [ht, whenC, if_neg Bool.false_ne_true]
  have h2' : ¬ (j : Int) < (bl.length : Int) := by omega
  rw [List.take_of_length_le (by omega)] at hdup
  clear hG1 hsc
  simp only [push_cast, ↓reduceIte, Nat.reduceEqDiff, Nat.reduceAdd, Nat.reduceMul, Nat.reduceSub, Nat.reduceLT, Nat.reduceLeDiff, reduceCtorEq, Nat.reduceMod, Int.reduceEq, Int.reduceLT, Int.reduceLE, Int.reduceToNat, dite_true, h2']
  refine CallV.of (withU F2 none _ [] (nil_strs F2)) ?_
  rintro _ F3 _ hF3 ⟨bt, mb2, es0, cm0, rfl, rfl, hn0⟩
  have hFF3 := PH.le_trans hFF2 hF3
  simp only [push_cast, ↓reduceIte, Nat.reduceEqDiff, Nat.reduceAdd, Nat.reduceMul, Nat.reduceSub, Nat.reduceLT, Nat.reduceLeDiff, reduceCtorEq, Nat.reduceMod, Int.reduceEq, Int.reduceLT, Int.reduceLE, Int.reduceToNat, dite_true]
  refine VC.freezeR (List.Perm.refl _) fun F4 hF4 hbt => ?_
  have hbt4 : F4 bt = some (.cells #[.map (some mb2), .pointer none] 61 (0, 0)) := hbt bt _ (PH.one_self _ _)
  have hm4 : F4.cell ((⟨bt, 0, none⟩ : Addr).add 0) = some (.map (some mb2)) := by rw [add_zero', cell_one hbt4]; rfl
  have hFF4 := PH.le_trans hFF3 hF4
  refine VC.loopP (ι := Nat × Array MapEntry × Nat) (fun i => [(92, .v (.int .i64 i.1)), (91, .v (.int .i64 bl.length)), (90, .v (.slice pb bl.length cb)), (12, .v (.pointer (some ⟨bt, 0, none⟩))), (4, .o 1 bc 0), (1, .o 0 b1 0)]) (fun _ => F4) (fun i => [PH.one mb2 (.map i.2.1 i.2.2)]) (fun i => i.1 ≤ bl.length ∧ P.Names i.2.1 (hasB (own.take i.1))) (fun i => bl.length - i.1) (0, es0, cm0) ⟨Nat.zero_le _, hn0⟩ (by simp [subk, Eng.look]) rfl (subR_refl _) ?_
  rintro ⟨i, es2, cm2⟩ ⟨hi, hn⟩ G2 hG2
  dsimp only at hi hn hG2 ⊢
  refine VC.go 100 ?_
  by_cases h4 : i < bl.length
  case pos =>
    have h' : (i : Int) < (bl.length : Int) := by omega
    have h0 : (0 : Int) ≤ (i : Int) := by omega
    have hio : i < own.length := by omega
    have e2 : IntKind.i64.wrap ((i : Int) + 1) = ((i + 1 : Nat) : Int) := wadd i h4 (Nat.le_trans hb1 hb2)
    obtain ⟨q, _, cs, eq, _, _, kl, kr⟩ := (hb'.mono (R' := RBind F4) hFF4 (fun _ _ _ h => h.mono hFF4)).elem (by decide) (i := i) (a := bl[i]) (List.getElem?_eq_getElem h4) (fun _ _ h => h.len)
    cases eq
    have hnj : (bl[i]).name = own[i] := by subst ho; simp
    obtain ⟨wv, cc, rfl, hwv, hcc⟩ := RBind_iff.1 kr
    obtain ⟨xa, xb, xe, xl, rfl, hx⟩ := RExp_iff.1 hcc
    obtain ⟨pv, cv, rfl, _, _, _⟩ := hwv
    obtain ⟨_, _, _, _, _, _, _, _, rfl, rfl, rfl, rfl⟩ := hx.slices
    simp only [push_cast, ↓reduceIte, Nat.reduceEqDiff, Nat.reduceAdd, Nat.reduceMul, Nat.reduceSub, Nat.reduceLT, Nat.reduceLeDiff, reduceCtorEq, Nat.reduceMod, Int.reduceEq, Int.reduceLT, Int.reduceLE, Int.reduceToNat, dite_true, h', h0, kl]
    intro b12
    refine VC.draw (.q 0 (.q 1 (.q 2 (.q 3 (.q 4 (.q 5 (.e 6 (.done)))))))) mixed (by rfl) ?_
    simp only [push_cast, ↓reduceIte, Nat.reduceEqDiff, Nat.reduceAdd, Nat.reduceMul, Nat.reduceSub, Nat.reduceLT, Nat.reduceLeDiff, reduceCtorEq, Nat.reduceMod, Int.reduceEq, Int.reduceLT, Int.reduceLE, Int.reduceToNat, dite_true, hm4]
    obtain ⟨lst, hes2, hg⟩ := hn
    refine Eff.update keyStr rfl rfl ty52 rfl Tryd.underlying9 rfl rfl rfl (List.Perm.refl _) hes2 fun es' c' hes' => ?_
    simp only [push_cast, ↓reduceIte, Nat.reduceEqDiff, Nat.reduceAdd, Nat.reduceMul, Nat.reduceSub, Nat.reduceLT, Nat.reduceLeDiff, reduceCtorEq, Nat.reduceMod, Int.reduceEq, Int.reduceLT, Int.reduceLE, Int.reduceToNat, dite_true]
    refine VC.go 100 ?_
    simp only [push_cast, ↓reduceIte, Nat.reduceEqDiff, Nat.reduceAdd, Nat.reduceMul, Nat.reduceSub, Nat.reduceLT, Nat.reduceLeDiff, reduceCtorEq, Nat.reduceMod, Int.reduceEq, Int.reduceLT, Int.reduceLE, Int.reduceToNat, dite_true, e2]
    refine hG2 (i + 1, es', c') _ ⟨by simp; omega, _, hes', fun s => ?_⟩ (by simp; omega) (by simp [subk, Eng.look]) (by simp) rfl (subR_refl _)
    rw [mget_mput, hg, List.take_succ_eq_append_getElem hio, hasB_snoc, hnj]
    cases hh : hasB (own.take i) s <;> by_cases e : own[i] = s <;> simp [e]
  have h4' : ¬ (i : Int) < (bl.length : Int) := by omega
  rw [List.take_of_length_le (by omega)] at hn
  clear hG2
  simp only [push_cast, ↓reduceIte, Nat.reduceEqDiff, Nat.reduceAdd, Nat.reduceMul, Nat.reduceSub, Nat.reduceLT, Nat.reduceLeDiff, reduceCtorEq, Nat.reduceMod, Int.reduceEq, Int.reduceLT, Int.reduceLE, Int.reduceToNat, dite_true, h4']
  refine VC.freezeR (List.Perm.refl _) fun F5 hF5 hmb2 => ?_
  have hFF5 := PH.le_trans hFF4 hF5
  have hs5 : ScpL F5 (.pointer (some ⟨bt, 0, none⟩)) own :=
    ⟨1, _, .cons (hF5 _ _ hbt4) (hmb2 mb2 _ (PH.one_self _ _)) hn .nil, fun s => by simp⟩
  have hcons5 : Cons F5 mb ds := hcons.mono (PH.le_trans hF2 (PH.le_trans hF3 (PH.le_trans hF4 hF5)))
  have hT5 := hT.mono hFF5
  refine VC.loopM (ι := Nat × Value × Ck × PH) (fun i => [(106, .v (.int .i64 i.1)), (105, .v (.int .i64 bl.length)), (104, .v (.slice pb bl.length cb)), (12, .v (.pointer (some ⟨bt, 0, none⟩))), (4, .o 1 bc 0)]) (fun i => [⟨0, b1, 25, [.slice pd ds.length cd, .slice pb bl.length cb]⟩, ⟨1, bc, 55, [.map (some mb), i.2.1]⟩]) (fun i => i.2.2.2) (fun i => i.1 ≤ bl.length ∧ F5.le i.2.2.2 ∧ RepC i.2.2.2 i.2.2.1 i.2.1 ∧ i.2.2.1 = bindsC ds (bl.take i.1) own ⟨false, 0, 0⟩) (fun i => bl.length - i.1) (0, .pointer none, ⟨false, 0, 0⟩, F5) ⟨Nat.zero_le _, PH.le_refl _, .inl ⟨rfl, rfl⟩, by simp [bindsC]⟩ (by simp [subk, Eng.look]) (List.Sublist.refl _) rfl ?_
  rintro ⟨j3, v3, c3, F6⟩ ⟨hj3, hF6, hr3, hc3⟩ G3 hG3
  dsimp only at hj3 hF6 hr3 hc3 hG3 ⊢
  have hone3 := hr3.one
  have hFF6 := PH.le_trans hFF5 hF6
  refine VC.go 100 ?_
  by_cases h3 : j3 < bl.length
  case pos =>
    have h' : (j3 : Int) < (bl.length : Int) := by omega
    have h0 : (0 : Int) ≤ (j3 : Int) := by omega
    obtain ⟨q, _, cs, eq, _, _, kl, kr⟩ := (hb'.mono (R' := RBind F6) hFF6 (fun _ _ _ h => h.mono hFF6)).elem (by decide) (i := j3) (a := bl[j3]) (List.getElem?_eq_getElem h3) (fun _ _ h => h.len)
    cases eq
    have hsm := sizeBs_mem2 bl j3 h3
    have hse := bsize_eq bl[j3]
    have ht : bindsC ds (bl.take (j3 + 1)) own ⟨false, 0, 0⟩ = formC ds bl[j3] own c3 := by rw [List.take_succ_eq_append_getElem h3, bindsC_snoc, hc3]
    have e2 : IntKind.i64.wrap ((j3 : Int) + 1) = ((j3 + 1 : Nat) : Int) := wadd j3 h3 (Nat.le_trans hb1 hb2)
    obtain ⟨bd, hbk⟩ : ∃ bd, bd = bl[j3] := ⟨_, rfl⟩
    rw [← hbk] at hsm hse ht kr
    obtain ⟨wv, cc, rfl, hwv, hcc⟩ := RBind_iff.1 kr
    obtain ⟨xa, xb, xe, xl, rfl, hx⟩ := RExp_iff.1 hcc
    have hwv' := hwv
    obtain ⟨pv, cv, rfl, _, _, _⟩ := hwv
    have hx' := hx
    obtain ⟨_, _, _, _, _, _, _, _, rfl, rfl, rfl, rfl⟩ := hx.slices
    simp only [push_cast, ↓reduceIte, Nat.reduceEqDiff, Nat.reduceAdd, Nat.reduceMul, Nat.reduceSub, Nat.reduceLT, Nat.reduceLeDiff, reduceCtorEq, Nat.reduceMod, Int.reduceEq, Int.reduceLT, Int.reduceLE, Int.reduceToNat, dite_true, h', h0, kl, hone3]
    intro b14
    refine CallV.own (i := 1) rfl (form ds bd (exp_all ds h8 _ _ rfl) F6 bc mb v3 _ _ _ _ _ _ c3 own hr3 hwv' hx' (hs5.mono hF6) (hcons5.mono hF6) (hT5.mono hF6) (by rw [hol]; omega)) ?_
    rintro _ F7 _ hF7 ⟨v7, rfl, hr7⟩
    simp only [push_cast, ↓reduceIte, Nat.reduceEqDiff, Nat.reduceAdd, Nat.reduceMul, Nat.reduceSub, Nat.reduceLT, Nat.reduceLeDiff, reduceCtorEq, Nat.reduceMod, Int.reduceEq, Int.reduceLT, Int.reduceLE, Int.reduceToNat, dite_true, e2]
    exact hG3 (j3 + 1, v7, formC ds bd own c3, F7) _ ⟨by simp; omega, PH.le_trans hF6 hF7, hr7, by rw [ht]⟩ (by simp; omega) (by simp [subk, Eng.look]) (by simp) rfl rfl
  have h3' : ¬ (j3 : Int) < (bl.length : Int) := by omega
  rw [List.take_of_length_le (by omega)] at hc3
  clear hG3
  have hres2 : res = whenC (hasB own mainB = false) c3 0 36 := by rw [← hres, checkC, hc, hdup, ← ho, hc3]
  clear hres
  simp only [push_cast, ↓reduceIte, Nat.reduceEqDiff, Nat.reduceAdd, Nat.reduceMul, Nat.reduceSub, Nat.reduceLT, Nat.reduceLeDiff, reduceCtorEq, Nat.reduceMod, Int.reduceEq, Int.reduceLT, Int.reduceLE, Int.reduceToNat, dite_true, h3', hone3]
  refine CallV.pure (hasL F6 _ own mainB (hs5.mono hF6)) ?_
  rintro _ F7 hF7 rfl
  have fin : ∀ (c : Ck) (v : Value) (F8 : PH), RepC F8 c v → res = c → (c = ⟨false, 0, 0⟩ ∧ v = .pointer none) ∨ ∃ a e b, c = ⟨true, a, e⟩ ∧ v = .pointer (some ⟨b, 0, none⟩) ∧ F8.cell ((⟨b, 0, none⟩ : Addr).add 0) = some (.int .i64 a) ∧ F8.cell ((⟨b, 0, none⟩ : Addr).add 1) = some (.int .i64 e) := by
    intro c v F8 h _
    rcases h with h | ⟨a, e, b, h1, h2, h3⟩
    · exact .inl h
    · refine .inr ⟨a, e, b, h1, h2, by rw [add_zero', cell_one h3]; rfl, ?_⟩
      have := cell_one h3 1
      simpa [Addr.add] using this
  cases hh : hasB own mainB with
  | true =>
    rw [hh, whenC, if_neg (by simp)] at hres2
    rcases fin c3 v3 F7 (hr3.mono hF7) hres2 with ⟨e1, rfl⟩ | ⟨a, e, b, e1, rfl, k1, k2⟩
    · simp only [push_cast, ↓reduceIte, Nat.reduceEqDiff, Nat.reduceAdd, Nat.reduceMul, Nat.reduceSub, Nat.reduceLT, Nat.reduceLeDiff, reduceCtorEq, Nat.reduceMod, Int.reduceEq, Int.reduceLT, Int.reduceLE, Int.reduceToNat, dite_true, Option.isNone_none]
      rw [hres2, e1]
      exact RetOk.p rfl rfl
    · simp only [push_cast, ↓reduceIte, Nat.reduceEqDiff, Nat.reduceAdd, Nat.reduceMul, Nat.reduceSub, Nat.reduceLT, Nat.reduceLeDiff, reduceCtorEq, Nat.reduceMod, Int.reduceEq, Int.reduceLT, Int.reduceLE, Int.reduceToNat, dite_true, Option.isNone_some]
      refine VC.draw (.q 0 (.q 1 (.q 2 (.q 3 (.q 4 (.q 5 (.q 6 (.q 7 (.q 8 (.q 9 (.q 10 (.q 11 (.q 12 (.q 13 (.q 14 (.q 15 (.done))))))))))))))))) mixed (by rfl) ?_
      simp only [push_cast, ↓reduceIte, Nat.reduceEqDiff, Nat.reduceAdd, Nat.reduceMul, Nat.reduceSub, Nat.reduceLT, Nat.reduceLeDiff, reduceCtorEq, Nat.reduceMod, Int.reduceEq, Int.reduceLT, Int.reduceLE, Int.reduceToNat, dite_true, k1, k2]
      refine VC.go 100 ?_
      simp only [push_cast, ↓reduceIte, Nat.reduceEqDiff, Nat.reduceAdd, Nat.reduceMul, Nat.reduceSub, Nat.reduceLT, Nat.reduceLeDiff, reduceCtorEq, Nat.reduceMod, Int.reduceEq, Int.reduceLT, Int.reduceLE, Int.reduceToNat, dite_true]
      rw [hres2, e1]
      exact RetOk.p rfl rfl
  | false =>
    rw [hh, whenC, if_pos rfl] at hres2
    simp only [push_cast, ↓reduceIte, Nat.reduceEqDiff, Nat.reduceAdd, Nat.reduceMul, Nat.reduceSub, Nat.reduceLT, Nat.reduceLeDiff, reduceCtorEq, Nat.reduceMod, Int.reduceEq, Int.reduceLT, Int.reduceLE, Int.reduceToNat, dite_true, hone3]
    refine CallV.own (i := 1) rfl (fail F7 bc mb v3 c3 0 36 (hr3.mono hF7)) ?_
    rintro _ F8 _ hF8 ⟨v8, rfl, hr8⟩
    rcases fin _ v8 F8 hr8 hres2 with ⟨e1, rfl⟩ | ⟨a, e, b, e1, rfl, k1, k2⟩
    · simp only [push_cast, ↓reduceIte, Nat.reduceEqDiff, Nat.reduceAdd, Nat.reduceMul, Nat.reduceSub, Nat.reduceLT, Nat.reduceLeDiff, reduceCtorEq, Nat.reduceMod, Int.reduceEq, Int.reduceLT, Int.reduceLE, Int.reduceToNat, dite_true, Option.isNone_none]
      rw [hres2, e1]
      exact RetOk.p rfl rfl
    · simp only [push_cast, ↓reduceIte, Nat.reduceEqDiff, Nat.reduceAdd, Nat.reduceMul, Nat.reduceSub, Nat.reduceLT, Nat.reduceLeDiff, reduceCtorEq, Nat.reduceMod, Int.reduceEq, Int.reduceLT, Int.reduceLE, Int.reduceToNat, dite_true, Option.isNone_some]
      refine VC.draw (.q 0 (.q 1 (.q 2 (.q 3 (.q 4 (.q 5 (.q 6 (.q 7 (.q 8 (.q 9 (.q 10 (.q 11 (.q 12 (.q 13 (.q 14 (.q 15 (.done))))))))))))))))) mixed (by rfl) ?_
      simp only [push_cast, ↓reduceIte, Nat.reduceEqDiff, Nat.reduceAdd, Nat.reduceMul, Nat.reduceSub, Nat.reduceLT, Nat.reduceLeDiff, reduceCtorEq, Nat.reduceMod, Int.reduceEq, Int.reduceLT, Int.reduceLE, Int.reduceToNat, dite_true, k1, k2]
      refine VC.go 100 ?_
      simp only [push_cast, ↓reduceIte, Nat.reduceEqDiff, Nat.reduceAdd, Nat.reduceMul, Nat.reduceSub, Nat.reduceLT, Nat.reduceLeDiff, reduceCtorEq, Nat.reduceMod, Int.reduceEq, Int.reduceLT, Int.reduceLE, Int.reduceToNat, dite_true]
      rw [hres2, e1]
      exact RetOk.p rfl rfl
end Go.Proofs.YtjeidgjhkjnkeaaDoor.P
