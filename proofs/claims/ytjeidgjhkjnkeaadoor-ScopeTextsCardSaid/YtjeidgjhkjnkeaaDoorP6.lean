/- Package scope: cases. (Written by gen/p6.py.) -/
import Derived.Test.YtjeidgjhkjnkeaaDoorP5
import Derived.Test.YtjeidgjhkjnkeaaDoorK6
namespace Go.Proofs.YtjeidgjhkjnkeaaDoor.P
open Go Go.Eng Go.Proofs Go.Proofs.YtjeidgjhkjnkeaaDoor.T Go.Proofs.YtjeidgjhkjnkeaaDoor.K
set_option linter.unusedSimpArgs false
set_option linter.unusedVariables false
set_option maxRecDepth 100000
set_option maxHeartbeats 8000000
theorem each_take {α : Type} {R : α → List Value → Prop} {sz : Nat} (hsz : ∀ a c, R a c → c.length = sz) : ∀ {l : List α} {xs : List Value} (k : Nat), Each R l xs → Each R (l.take k) (xs.take (k * sz))
  | [], xs, k, h => by simp only [Each] at h; subst h; simp [Each]
  | a :: l, xs, 0, h => by simp [Each]
  | a :: l, xs, k + 1, ⟨c, ys, e, h1, h2⟩ => by
    subst e
    have hl := hsz _ _ h1
    refine ⟨c, ys.take (k * sz), ?_, h1, each_take hsz k h2⟩
    rw [List.take_append, hl, List.take_of_length_le (by rw [hl, Nat.succ_mul]; omega)]
    congr 2
    rw [Nat.succ_mul]; omega
theorem sle_take {α : Type} {F : PH} {R : α → List Value → Prop} {sz : Nat} (hsz : ∀ a c, R a c → c.length = sz) {q : Addr} {c : Nat} {l : List α} (h : SlE F sz R (.slice (some q) l.length c) l) {k : Nat} (hk : k ≤ l.length) : SlE F sz R (.slice (some q) k c) (l.take k) := by
  obtain ⟨xs, ⟨p, c', e, h1, h2, h3, h4⟩, h5⟩ := h
  cases e
  have hl : (l.take k).length = k := by simp; omega
  have hxs := Each.len hsz h5
  have hle : k * sz ≤ l.length * sz := Nat.mul_le_mul_right _ hk
  refine ⟨xs.take (k * sz), ⟨some q, c, by rw [hl], by omega, h2, by rw [List.length_take, hl, hxs]; omega, fun hpos => ?_⟩, each_take hsz k h5⟩
  rw [hl] at hpos ⊢
  obtain ⟨a, ha, hc⟩ := h4 (by omega)
  cases ha
  refine ⟨q, rfl, ?_⟩
  have := cells_sub hc (o := 0) (m := k * sz) (by omega)
  rw [add_zero'] at this
  simpa using this
theorem cases_ (ds : List Dat) (hds : ∀ d ∈ ds, d.arity ≤ 8) (e : Exp) (ih : ∀ e' : Exp, e'.size < e.size → ExpS ds e') (F : PH) (b mb : Nat) (v vs va w1 we wl : Value) (c : Ck) (inn : List ByteArray) (hr : RepC F c v) (hX : ExpAt F e va w1 we wl) (hs : ScpL F vs inn) (hd : Cons F mb ds) (hT : Table F) (hsz : inn.length + e.size ≤ 100000000) :
    SFn 50 [.agg (expCells e va w1 we wl).toArray, vs] F b mb v (casesC ds e inn c) := by
  have hX' := hX
  have hse0 := size_eq e
  have halts := hX.alts
  have hkids := hX.kids
  obtain ⟨pa, ca, pb, cb, pe, ce, pl, cl, rfl, rfl, rfl, rfl⟩ := hX.slices
  obtain ⟨_, _, el, hl1, hl2⟩ := halts.val
  cases el
  have hone := hr.one
  generalize hres : casesC ds e inn c = res
  unfold casesC at hres
  refine OFn.intro (n := 70) (ts := []) Tryd.func50 rfl rfl rfl rfl (by simp) fun B hB => VC.go 100 ?_
  by_cases g1 : e.kids.length = 0
  · have g1' : (e.kids.length : Int) = 0 := by omega
    simp only [push_cast, ↓reduceIte, Nat.reduceEqDiff, Nat.reduceAdd, Nat.reduceMul, Nat.reduceSub, Nat.reduceLT, Nat.reduceLeDiff, reduceCtorEq, Nat.reduceMod, Int.reduceEq, Int.reduceLT, Int.reduceLE, Int.reduceToNat, dite_true, eq_true g1', hone]
    intro bx
    refine CallV.own (i := 0) rfl (fail F b mb v c e.at_ 2 hr) ?_
    rintro _ F2 _ hF2 ⟨v2, rfl, hr2⟩
    simp only [push_cast, ↓reduceIte, Nat.reduceEqDiff, Nat.reduceAdd, Nat.reduceMul, Nat.reduceSub, Nat.reduceLT, Nat.reduceLeDiff, reduceCtorEq, Nat.reduceMod, Int.reduceEq, Int.reduceLT, Int.reduceLE, Int.reduceToNat, dite_true]
    rw [if_pos (.inl g1)] at hres
    subst hres
    exact sret rfl hr2
  have g1' : ¬ (e.kids.length : Int) = 0 := by omega
  by_cases g2 : e.alts.length = 0
  · have g2' : (e.alts.length : Int) = 0 := by omega
    simp only [push_cast, ↓reduceIte, Nat.reduceEqDiff, Nat.reduceAdd, Nat.reduceMul, Nat.reduceSub, Nat.reduceLT, Nat.reduceLeDiff, reduceCtorEq, Nat.reduceMod, Int.reduceEq, Int.reduceLT, Int.reduceLE, Int.reduceToNat, dite_true, g1', eq_true g2', hone]
    intro bx
    refine CallV.own (i := 0) rfl (fail F b mb v c e.at_ 2 hr) ?_
    rintro _ F2 _ hF2 ⟨v2, rfl, hr2⟩
    simp only [push_cast, ↓reduceIte, Nat.reduceEqDiff, Nat.reduceAdd, Nat.reduceMul, Nat.reduceSub, Nat.reduceLT, Nat.reduceLeDiff, reduceCtorEq, Nat.reduceMod, Int.reduceEq, Int.reduceLT, Int.reduceLE, Int.reduceToNat, dite_true]
    rw [if_pos (.inr g2)] at hres
    subst hres
    exact sret rfl hr2
  have g2' : ¬ (e.alts.length : Int) = 0 := by omega
  rw [if_neg (by omega)] at hres
  obtain ⟨kd, ks, hks⟩ : ∃ kd ks, e.kids = kd :: ks := by
    cases hk : e.kids with
    | nil => rw [hk] at g1; simp at g1
    | cons a l => exact ⟨a, l, rfl⟩
  obtain ⟨q, _, cs, eq, _, _, kl, kr⟩ := hkids.elem (by decide) (i := 0) (a := kd) (by rw [hks]; rfl) (fun _ _ h => h.len)
  cases eq
  obtain ⟨xa, xb, xe, xl, rfl, hx⟩ := RExp_iff.1 kr
  have hx' := hx
  obtain ⟨_, _, _, _, _, _, _, _, rfl, rfl, rfl, rfl⟩ := hx.slices
  rw [Nat.zero_mul] at kl
  have g3 : (0 : Int) < (e.kids.length : Int) := by omega
  have hsm := sizeEs_mem (e := kd) (l := e.kids) (by rw [hks]; exact List.mem_cons_self)
  simp only [push_cast, ↓reduceIte, Nat.reduceEqDiff, Nat.reduceAdd, Nat.reduceMul, Nat.reduceSub, Nat.reduceLT, Nat.reduceLeDiff, reduceCtorEq, Nat.reduceMod, Int.reduceEq, Int.reduceLT, Int.reduceLE, Int.reduceToNat, dite_true, g1', g2', g3, Nat.zero_mul, kl, hone]
  intro bx
  refine CallV.own (i := 0) rfl (ih kd (by omega) F b mb v _ _ _ _ _ c inn hr hx' hs hd hT (by omega)) ?_
  rintro _ F0 _ hF0 ⟨v0, rfl, hr0⟩
  rw [hks] at hres
  simp only [kidC] at hres
  generalize expC ds kd inn c = c0 at hres hr0
  clear hx hx' kl kr hone hr
  have hone0 := hr0.one
  simp only [push_cast, ↓reduceIte, Nat.reduceEqDiff, Nat.reduceAdd, Nat.reduceMul, Nat.reduceSub, Nat.reduceLT, Nat.reduceLeDiff, reduceCtorEq, Nat.reduceMod, Int.reduceEq, Int.reduceLT, Int.reduceLE, Int.reduceToNat, dite_true, hone0]
  refine VC.loopM (ι := Nat × Value × Ck × PH) (fun i => [(34, .v (.int .i64 i.1)), (33, .v (.int .i64 e.alts.length)), (32, .v (.slice pl e.alts.length cl)), (4, .o 1 bx 0), (2, .v vs), (0, .o 0 b 0)]) (fun i => [⟨0, b, 55, [.map (some mb), i.2.1]⟩, ⟨1, bx, 42, expCells e (.slice pa e.atoms.length ca) (.slice pb e.binds.length cb) (.slice (some q) e.kids.length ce) (.slice pl e.alts.length cl)⟩]) (fun i => i.2.2.2) (fun i => i.1 ≤ e.alts.length ∧ F0.le i.2.2.2 ∧ RepC i.2.2.2 i.2.2.1 i.2.1 ∧ i.2.2.1 = altsC ds [] (e.alts.take i.1) inn c0) (fun i => e.alts.length - i.1) (0, v0, c0, F0) ⟨Nat.zero_le _, PH.le_refl _, hr0, by simp [altsC]⟩ (by simp [subk, Eng.look]) (List.Sublist.refl _) rfl ?_
  rintro ⟨k, v1, c1, F1⟩ ⟨hk, hF1, hr1, hc⟩ G hG
  dsimp only at hk hF1 hr1 hc hG ⊢
  have hone1 := hr1.one
  have hFF1 := PH.le_trans hF0 hF1
  refine VC.go 100 ?_
  by_cases h : k < e.alts.length
  case neg =>
    have h' : ¬ (k : Int) < (e.alts.length : Int) := by omega
    rw [List.take_of_length_le (by omega)] at hc
    simp only [push_cast, ↓reduceIte, Nat.reduceEqDiff, Nat.reduceAdd, Nat.reduceMul, Nat.reduceSub, Nat.reduceLT, Nat.reduceLeDiff, reduceCtorEq, Nat.reduceMod, Int.reduceEq, Int.reduceLT, Int.reduceLE, Int.reduceToNat, dite_true, h', hone1]
    rw [← hc] at hres
    rw [hres] at hr1
    exact sret rfl hr1
  have h' : (k : Int) < (e.alts.length : Int) := by omega
  have h0 : (0 : Int) ≤ (k : Int) := by omega
  have h3 : (k : Int) ≤ (cl : Int) := by omega
  have h4 : ¬ cl = 0 := by omega
  have ht : altsC ds [] (e.alts.take (k + 1)) inn c0 = altStep ds (e.alts.take k) e.alts[k] inn c1 := by rw [List.take_succ_eq_append_getElem h, altsC_snoc, hc]; simp
  have e2 : IntKind.i64.wrap ((k : Int) + 1) = ((k + 1 : Nat) : Int) := wadd k h (Nat.le_trans hl1 hl2)
  have hsm2 := sizeLs_mem (List.getElem_mem h)
  have hse := asize_eq e.alts[k]
  have halts1 := halts.mono (R' := RAlt F1) hFF1 (fun _ _ _ h => h.mono hFF1)
  obtain ⟨q2, _, cs2, eq2, _, _, kl, kr⟩ := halts1.elem (by decide) (i := k) (a := e.alts[k]) (List.getElem?_eq_getElem h) (fun _ _ h => h.len)
  cases eq2
  obtain ⟨a, hak⟩ : ∃ a, a = e.alts[k] := ⟨_, rfl⟩
  rw [← hak] at ht hsm2 hse kr
  obtain ⟨wv, cc, rfl, hwv, hcc⟩ := RAlt_iff.1 kr
  obtain ⟨ya, yb, ye, yl, rfl, hy⟩ := RExp_iff.1 hcc
  have hwv' := hwv
  obtain ⟨pv, cv, rfl, _, _, _⟩ := hwv
  have hy' := hy
  obtain ⟨p1, c1', p2, c2', p3, c3', p4, c4', rfl, rfl, rfl, rfl⟩ := hy.slices
  rcases hr1 with ⟨rfl, rfl⟩ | ⟨a', e', b', rfl, rfl, hb'⟩
  case inr =>
    simp only [push_cast, ↓reduceIte, Nat.reduceEqDiff, Nat.reduceAdd, Nat.reduceMul, Nat.reduceSub, Nat.reduceLT, Nat.reduceLeDiff, reduceCtorEq, Nat.reduceMod, Int.reduceEq, Int.reduceLT, Int.reduceLE, Int.reduceToNat, dite_true, h', h0, kl, Option.isNone_some]
    intro b7
    have : res = ⟨true, a', e'⟩ := by
      rw [← hres, ← List.take_append_drop k e.alts, altsC_append, ← hc]
      exact altsC_bad _ _ _ _ _ rfl
    subst this
    exact sret rfl (.inr ⟨a', e', b', rfl, rfl, hb'⟩)
  simp only [push_cast, ↓reduceIte, Nat.reduceEqDiff, Nat.reduceAdd, Nat.reduceMul, Nat.reduceSub, Nat.reduceLT, Nat.reduceLeDiff, reduceCtorEq, Nat.reduceMod, Int.reduceEq, Int.reduceLT, Int.reduceLE, Int.reduceToNat, dite_true, h', h0, h3, h4, kl, Option.isNone_none, Nat.zero_mul, Nat.sub_zero, Option.map_some, add_zero']
  intro b7
  refine VC.loopM (ι := Nat × Value × Ck × PH) (fun i => [(49, .v (.int .i64 i.1)), (48, .v (.int .i64 k)), (47, .v (.slice (some q2) k cl)), (7, .o 2 b7 0), (6, .v (.int .i64 k)), (34, .v (.int .i64 k)), (33, .v (.int .i64 e.alts.length)), (32, .v (.slice (some q2) e.alts.length cl)), (4, .o 1 bx 0), (2, .v vs), (0, .o 0 b 0)]) (fun i => [⟨0, b, 55, [.map (some mb), i.2.1]⟩, ⟨1, bx, 42, expCells e (.slice pa e.atoms.length ca) (.slice pb e.binds.length cb) (.slice (some q) e.kids.length ce) (.slice (some q2) e.alts.length cl)⟩, ⟨2, b7, 100, .int .i64 a.kind :: .int .i64 a.at_ :: .string a.name :: .int .i64 a.n :: .slice pv a.vars.length cv :: expCells a.body (.slice p1 a.body.atoms.length c1') (.slice p2 a.body.binds.length c2') (.slice p3 a.body.kids.length c3') (.slice p4 a.body.alts.length c4')⟩]) (fun i => i.2.2.2) (fun i => i.1 ≤ k ∧ F1.le i.2.2.2 ∧ RepC i.2.2.2 i.2.2.1 i.2.1 ∧ i.2.2.1 = lastC (e.alts.take i.1) a ⟨false, 0, 0⟩) (fun i => k - i.1) (0, .pointer none, ⟨false, 0, 0⟩, F1) ⟨Nat.zero_le _, PH.le_refl _, .inl ⟨rfl, rfl⟩, rfl⟩ (by simp [subk, Eng.look]) (List.Sublist.refl _) rfl ?_
  rintro ⟨j, v3, c3, F3⟩ ⟨hj, hF3, hr3, hc3⟩ G2 hG2
  dsimp only at hj hF3 hr3 hc3 hG2 ⊢
  have hone3 := hr3.one
  have hFF3 := PH.le_trans hFF1 hF3
  refine VC.go 100 ?_
  by_cases hjk : j < k
  case neg =>
    have hjk' : ¬ (j : Int) < (k : Int) := by omega
    obtain rfl : j = k := by omega
    simp only [push_cast, ↓reduceIte, Nat.reduceEqDiff, Nat.reduceAdd, Nat.reduceMul, Nat.reduceSub, Nat.reduceLT, Nat.reduceLeDiff, reduceCtorEq, Nat.reduceMod, Int.reduceEq, Int.reduceLT, Int.reduceLE, Int.reduceToNat, dite_true, hjk']
    refine VC.draw (.q 0 (.q 1 (.q 2 (.q 3 (.q 4 (.q 5 (.q 6 (.es 7 [0, 1, 2, 3, 4, 5, 6] (.done))))))))) mixed (by rfl) ?_
    simp only [push_cast, ↓reduceIte, Nat.reduceEqDiff, Nat.reduceAdd, Nat.reduceMul, Nat.reduceSub, Nat.reduceLT, Nat.reduceLeDiff, reduceCtorEq, Nat.reduceMod, Int.reduceEq, Int.reduceLT, Int.reduceLE, Int.reduceToNat, dite_true, h0, h3, h4, hone3, Nat.zero_mul, Nat.sub_zero, Option.map_some, add_zero']
    refine CallV.own (i := 0) rfl (alt ds hds a (e.alts.take j) (ih a.body (by omega)) F3 b mb v3 _ _ _ _ _ _ _ c3 inn hr3 (sle_take (fun _ _ h => RAlt.len h) (halts1.mono hF3 (fun _ _ _ h => h.mono hF3)) (by omega)) (hwv'.mono hF3) (hy'.mono hF3) (hs.mono hFF3) (hd.mono hFF3) (hT.mono hFF3) (by omega)) ?_
    rintro _ F4 _ hF4 ⟨v4, rfl, hr4⟩
    simp only [push_cast, ↓reduceIte, Nat.reduceEqDiff, Nat.reduceAdd, Nat.reduceMul, Nat.reduceSub, Nat.reduceLT, Nat.reduceLeDiff, reduceCtorEq, Nat.reduceMod, Int.reduceEq, Int.reduceLT, Int.reduceLE, Int.reduceToNat, dite_true, h0, h3, h4, Nat.zero_mul, Nat.sub_zero, Option.map_some, add_zero']
    refine VC.go 100 ?_
    simp only [push_cast, ↓reduceIte, Nat.reduceEqDiff, Nat.reduceAdd, Nat.reduceMul, Nat.reduceSub, Nat.reduceLT, Nat.reduceLeDiff, reduceCtorEq, Nat.reduceMod, Int.reduceEq, Int.reduceLT, Int.reduceLE, Int.reduceToNat, dite_true, e2]
    exact hG (j + 1, v4, altC ds a (againB (e.alts.take j) a) inn c3, F4) _ ⟨by simp; omega, PH.le_trans hF1 (PH.le_trans hF3 hF4), hr4, by rw [ht]; simp only [altStep, Bool.false_eq_true, if_false]; rw [hc3]⟩ (by simp; omega) (by simp [subk, Eng.look]) (by simp) rfl rfl
  have hjk' : (j : Int) < (k : Int) := by omega
  have hjl : j < e.alts.length := by omega
  have h0j : (0 : Int) ≤ (j : Int) := by omega
  have e4 : IntKind.i64.wrap ((j : Int) + 1) = ((j + 1 : Nat) : Int) := wadd j hjl (Nat.le_trans hl1 hl2)
  have hbt0 : e.alts.take (j + 1) = e.alts.take j ++ [e.alts[j]] := List.take_succ_eq_append_getElem hjl
  obtain ⟨q3, _, cs3, eq3, _, _, kl3, kr3⟩ := (halts.mono (R' := RAlt F3) hFF3 (fun _ _ _ h => h.mono hFF3)).elem (by decide) (i := j) (a := e.alts[j]) (List.getElem?_eq_getElem hjl) (fun _ _ h => h.len)
  cases eq3
  obtain ⟨bb, hbb⟩ : ∃ bb, bb = e.alts[j] := ⟨_, rfl⟩
  have hbt : e.alts.take (j + 1) = e.alts.take j ++ [bb] := by rw [hbb]; exact hbt0
  rw [← hbb] at kr3
  obtain ⟨wv3, cc3, rfl, hwv3, hcc3⟩ := RAlt_iff.1 kr3
  obtain ⟨za, zb, ze, zl, rfl, hz⟩ := RExp_iff.1 hcc3
  obtain ⟨pv3, cv3, rfl, _, _, _⟩ := hwv3
  obtain ⟨_, _, _, _, _, _, _, _, rfl, rfl, rfl, rfl⟩ := hz.slices
  by_cases g3 : bb.kind = 3
  · simp only [push_cast, ↓reduceIte, Nat.reduceEqDiff, Nat.reduceAdd, Nat.reduceMul, Nat.reduceSub, Nat.reduceLT, Nat.reduceLeDiff, reduceCtorEq, Nat.reduceMod, Int.reduceEq, Int.reduceLT, Int.reduceLE, Int.reduceToNat, dite_true, hjk', h0j, kl3, eq_true g3, hone3]
    intro b10
    refine CallV.own (i := 0) rfl (fail F3 b mb v3 c3 a.at_ 35 hr3) ?_
    rintro _ F5 _ hF5 ⟨v5, rfl, hr5⟩
    simp only [push_cast, ↓reduceIte, Nat.reduceEqDiff, Nat.reduceAdd, Nat.reduceMul, Nat.reduceSub, Nat.reduceLT, Nat.reduceLeDiff, reduceCtorEq, Nat.reduceMod, Int.reduceEq, Int.reduceLT, Int.reduceLE, Int.reduceToNat, dite_true, e4]
    exact hG2 (j + 1, v5, failC c3 a.at_ 35, F5) _ ⟨by simp; omega, PH.le_trans hF3 hF5, hr5, by rw [hbt, lastC_snoc, ← hc3, whenC, if_pos g3]⟩ (by simp; omega) (by simp [subk, Eng.look]) (by simp) rfl rfl
  · simp only [push_cast, ↓reduceIte, Nat.reduceEqDiff, Nat.reduceAdd, Nat.reduceMul, Nat.reduceSub, Nat.reduceLT, Nat.reduceLeDiff, reduceCtorEq, Nat.reduceMod, Int.reduceEq, Int.reduceLT, Int.reduceLE, Int.reduceToNat, dite_true, hjk', h0j, kl3, g3, e4, hone3]
    intro b10
    exact hG2 (j + 1, v3, c3, F3) _ ⟨by simp; omega, hF3, hr3, by rw [hbt, lastC_snoc, ← hc3, whenC, if_neg g3]⟩ (by simp; omega) (by simp [subk, Eng.look]) (by simp) rfl rfl
end Go.Proofs.YtjeidgjhkjnkeaaDoor.P
