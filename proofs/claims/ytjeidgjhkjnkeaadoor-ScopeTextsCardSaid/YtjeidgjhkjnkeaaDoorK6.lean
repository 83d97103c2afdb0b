/- The document's checker: its walk over cases. (Written by gen/k6.py.) -/
import Derived.Test.YtjeidgjhkjnkeaaDoorK5
namespace Go.Proofs.YtjeidgjhkjnkeaaDoor.K
open Go Go.Eng Go.Proofs Go.Proofs.YtjeidgjhkjnkeaaDoor.T
set_option linter.unusedSimpArgs false
set_option linter.unusedVariables false
set_option maxRecDepth 100000
set_option maxHeartbeats 8000000
def casesC (ds : List Dat) (e : Exp) (inn : List ByteArray) (c : Ck) : Ck := if e.kids.length = 0 ∨ e.alts.length = 0 then failC c e.at_ 2 else altsC ds [] e.alts inn (kidC ds e.kids inn c)
theorem altsC_append (ds : List Dat) (inn : List ByteArray) : ∀ (l p m : List Alt) (c : Ck), altsC ds p (l ++ m) inn c = altsC ds (p ++ l) m inn (altsC ds p l inn c)
  | [], p, m, c => by simp [altsC]
  | x :: l, p, m, c => by rw [List.cons_append, altsC_cons, altsC_cons, altsC_append ds inn l]; simp
theorem casesF (ds : List Dat) (e : Exp) (ih : ∀ e' : Exp, e'.size < e.size → ExpK ds e') (F : PH) (b : Nat) (vd vb vin va w1 we wl : Value) (c : Ck) (inn : List ByteArray) (hX : ExpAt F e va w1 we wl) (hi : Strs F vin inn) (hd : Dats F vd ds) (hb : vb.oneCell' = true) (hs : inn.length + e.size ≤ 100000000) :
    ChkFn 55 [.agg (expCells e va w1 we wl).toArray, vin] F b vd vb c (casesC ds e inn c) := by
  have hX' := hX
  have hsz := size_eq e
  have halts := hX.alts
  have hkids := hX.kids
  obtain ⟨pa, ca, pb, cb, pe, ce, pl, cl, rfl, rfl, rfl, rfl⟩ := hX.slices
  obtain ⟨_, _, el, hl1, hl2⟩ := halts.val
  cases el
  have hd' := hd
  obtain ⟨pd, cd, rfl, _, _⟩ := hd.val
  generalize hr : casesC ds e inn c = r
  unfold casesC at hr
  refine OFn.intro (n := 108) (ts := []) Tryd.func55 rfl rfl rfl rfl (by simp) fun B hB => VC.go 100 ?_
  by_cases g1 : e.kids.length = 0
  · have g1' : (e.kids.length : Int) = 0 := by omega
    simp only [push_cast, ↓reduceIte, Nat.reduceEqDiff, Nat.reduceAdd, Nat.reduceMul, Nat.reduceSub, Nat.reduceLT, Nat.reduceLeDiff, reduceCtorEq, Nat.reduceMod, Int.reduceEq, Int.reduceLT, Int.reduceLE, Int.reduceToNat, dite_true, eq_true g1', hb]
    intro bx
    refine CallV.own (i := 0) rfl (fail F b _ vb c e.at_ 2) ?_
    rintro _ F2 _ hF2 rfl
    simp only [push_cast, ↓reduceIte, Nat.reduceEqDiff, Nat.reduceAdd, Nat.reduceMul, Nat.reduceSub, Nat.reduceLT, Nat.reduceLeDiff, reduceCtorEq, Nat.reduceMod, Int.reduceEq, Int.reduceLT, Int.reduceLE, Int.reduceToNat, dite_true]
    rw [if_pos (.inl g1)] at hr
    subst hr
    exact chk_ret rfl
  have g1' : ¬ (e.kids.length : Int) = 0 := by omega
  by_cases g2 : e.alts.length = 0
  · have g2' : (e.alts.length : Int) = 0 := by omega
    simp only [push_cast, ↓reduceIte, Nat.reduceEqDiff, Nat.reduceAdd, Nat.reduceMul, Nat.reduceSub, Nat.reduceLT, Nat.reduceLeDiff, reduceCtorEq, Nat.reduceMod, Int.reduceEq, Int.reduceLT, Int.reduceLE, Int.reduceToNat, dite_true, g1', eq_true g2', hb]
    intro bx
    refine CallV.own (i := 0) rfl (fail F b _ vb c e.at_ 2) ?_
    rintro _ F2 _ hF2 rfl
    simp only [push_cast, ↓reduceIte, Nat.reduceEqDiff, Nat.reduceAdd, Nat.reduceMul, Nat.reduceSub, Nat.reduceLT, Nat.reduceLeDiff, reduceCtorEq, Nat.reduceMod, Int.reduceEq, Int.reduceLT, Int.reduceLE, Int.reduceToNat, dite_true]
    rw [if_pos (.inr g2)] at hr
    subst hr
    exact chk_ret rfl
  have g2' : ¬ (e.alts.length : Int) = 0 := by omega
  rw [if_neg (by omega)] at hr
  obtain ⟨kd, ks, hks⟩ : ∃ kd ks, e.kids = kd :: ks := by
    cases hk : e.kids with
    | nil => rw [hk] at g1; simp at g1
    | cons a l => exact ⟨a, l, rfl⟩
  obtain ⟨q, _, cs, eq, _, _, kl, kr⟩ := hkids.elem (by decide) (i := 0) (a := kd) (by rw [hks]; rfl) (fun _ _ h => h.len)
  cases eq
  obtain ⟨xa, xb, xe, xl, rfl, hx⟩ := RExp_iff.1 kr
  have hx' := hx
  obtain ⟨_, _, _, _, _, _, _, _, rfl, rfl, rfl, rfl⟩ := hx.slices
  rw [Nat.zero_mul] at kl
  have g3 : (0 : Int) < (e.kids.length : Int) := by omega
  have hsm := sizeEs_mem (e := kd) (l := e.kids) (by rw [hks]; exact List.mem_cons_self)
  simp only [push_cast, ↓reduceIte, Nat.reduceEqDiff, Nat.reduceAdd, Nat.reduceMul, Nat.reduceSub, Nat.reduceLT, Nat.reduceLeDiff, reduceCtorEq, Nat.reduceMod, Int.reduceEq, Int.reduceLT, Int.reduceLE, Int.reduceToNat, dite_true, g1', g2', g3, Nat.zero_mul, kl, hb]
  intro bx
  refine CallV.own (i := 0) rfl (ih kd (by omega) F b _ vb _ _ _ _ _ c inn hx' hi hd' hb (by omega)) ?_
  rintro _ F0 _ hF0 rfl
  rw [hks] at hr
  simp only [kidC] at hr
  generalize expC ds kd inn c = c0 at hr ⊢
  clear hx hx' kl kr
  simp only [push_cast, ↓reduceIte, Nat.reduceEqDiff, Nat.reduceAdd, Nat.reduceMul, Nat.reduceSub, Nat.reduceLT, Nat.reduceLeDiff, reduceCtorEq, Nat.reduceMod, Int.reduceEq, Int.reduceLT, Int.reduceLE, Int.reduceToNat, dite_true]
  refine VC.loopM (ι := Nat × Ck × PH) (fun i => [(6, .v (.int .i64 i.1)), (4, .o 1 bx 0), (2, .v vin), (0, .o 0 b 0)]) (fun i => [⟨0, b, 68, ckCells (.slice pd ds.length cd) vb i.2.1⟩, ⟨1, bx, 42, expCells e (.slice pa e.atoms.length ca) (.slice pb e.binds.length cb) (.slice (some q) e.kids.length ce) (.slice pl e.alts.length cl)⟩]) (fun i => i.2.2) (fun i => i.1 ≤ e.alts.length ∧ F0.le i.2.2 ∧ i.2.1 = altsC ds [] (e.alts.take i.1) inn c0) (fun i => e.alts.length - i.1) (0, c0, F0) ⟨Nat.zero_le _, PH.le_refl _, by simp [altsC]⟩ (by simp [subk, Eng.look]) (List.Sublist.refl _) rfl ?_
  rintro ⟨k, c1, F1⟩ ⟨hk, hF1, hc⟩ G hG
  dsimp only at hk hF1 hc hG ⊢
  have hFF1 := PH.le_trans hF0 hF1
  refine VC.go 100 ?_
  by_cases h : k < e.alts.length
  case neg =>
    have h' : ¬ (k : Int) < (e.alts.length : Int) := by omega
    rw [List.take_of_length_le (by omega)] at hc
    simp only [push_cast, ↓reduceIte, Nat.reduceEqDiff, Nat.reduceAdd, Nat.reduceMul, Nat.reduceSub, Nat.reduceLT, Nat.reduceLeDiff, reduceCtorEq, Nat.reduceMod, Int.reduceEq, Int.reduceLT, Int.reduceLE, Int.reduceToNat, dite_true, h', hb]
    subst hc hr
    exact chk_ret rfl
  have h' : (k : Int) < (e.alts.length : Int) := by omega
  have h0 : (0 : Int) ≤ (k : Int) := by omega
  obtain ⟨bad1, at1, ee1⟩ := c1
  cases bad1 with
  | true =>
    simp only [push_cast, ↓reduceIte, Nat.reduceEqDiff, Nat.reduceAdd, Nat.reduceMul, Nat.reduceSub, Nat.reduceLT, Nat.reduceLeDiff, reduceCtorEq, Nat.reduceMod, Int.reduceEq, Int.reduceLT, Int.reduceLE, Int.reduceToNat, dite_true, h', hb]
    have : r = ⟨true, at1, ee1⟩ := by
      rw [← hr, ← List.take_append_drop k e.alts, altsC_append, ← hc]
      exact altsC_bad _ _ _ _ _ rfl
    subst this
    exact chk_ret rfl
  | false =>
  have ht : altsC ds [] (e.alts.take (k + 1)) inn c0 = altStep ds (e.alts.take k) e.alts[k] inn ⟨false, at1, ee1⟩ := by rw [List.take_succ_eq_append_getElem h, altsC_snoc, hc]; simp
  have e2 : IntKind.i64.wrap ((k : Int) + 1) = ((k + 1 : Nat) : Int) := wadd k h (Nat.le_trans hl1 hl2)
  have hsm2 := sizeLs_mem (List.getElem_mem h)
  have hse := asize_eq e.alts[k]
  obtain ⟨q2, _, cs2, eq2, _, _, kl, kr⟩ := (halts.mono (R' := RAlt F1) hFF1 (fun _ _ _ h => h.mono hFF1)).elem (by decide) (i := k) (a := e.alts[k]) (List.getElem?_eq_getElem h) (fun _ _ h => h.len)
  cases eq2
  obtain ⟨a, hak⟩ : ∃ a, a = e.alts[k] := ⟨_, rfl⟩
  rw [← hak] at ht hsm2 hse kr
  obtain ⟨wv, cc, rfl, hwv, hcc⟩ := RAlt_iff.1 kr
  obtain ⟨ya, yb, ye, yl, rfl, hy⟩ := RExp_iff.1 hcc
  have hwv' := hwv
  obtain ⟨pv, cv, rfl, _, _, _⟩ := hwv
  have hy' := hy
  obtain ⟨p1, c1', p2, c2', p3, c3', p4, c4', rfl, rfl, rfl, rfl⟩ := hy.slices
  simp only [push_cast, ↓reduceIte, Nat.reduceEqDiff, Nat.reduceAdd, Nat.reduceMul, Nat.reduceSub, Nat.reduceLT, Nat.reduceLeDiff, reduceCtorEq, Nat.reduceMod, Int.reduceEq, Int.reduceLT, Int.reduceLE, Int.reduceToNat, dite_true, h', h0, kl, hb]
  intro b7
  refine VC.loopM (ι := Nat × Bool × Ck × PH) (fun i => [(9, .v (.int .i64 i.1)), (8, .v (.bool i.2.1)), (7, .o 2 b7 0), (6, .v (.int .i64 k)), (4, .o 1 bx 0), (2, .v vin), (0, .o 0 b 0)]) (fun i => [⟨0, b, 68, ckCells (.slice pd ds.length cd) vb i.2.2.1⟩, ⟨1, bx, 42, expCells e (.slice pa e.atoms.length ca) (.slice pb e.binds.length cb) (.slice (some q) e.kids.length ce) (.slice (some q2) e.alts.length cl)⟩, ⟨2, b7, 100, .int .i64 a.kind :: .int .i64 a.at_ :: .string a.name :: .int .i64 a.n :: .slice pv a.vars.length cv :: expCells a.body (.slice p1 a.body.atoms.length c1') (.slice p2 a.body.binds.length c2') (.slice p3 a.body.kids.length c3') (.slice p4 a.body.alts.length c4')⟩]) (fun i => i.2.2.2) (fun i => i.1 ≤ k ∧ F1.le i.2.2.2 ∧ i.2.1 = againB (e.alts.take i.1) a ∧ i.2.2.1 = lastC (e.alts.take i.1) a ⟨false, at1, ee1⟩) (fun i => k - i.1) (0, false, ⟨false, at1, ee1⟩, F1) ⟨Nat.zero_le _, PH.le_refl _, rfl, rfl⟩ (by simp [subk, Eng.look]) (List.Sublist.refl _) rfl ?_
  rintro ⟨j, r, c3, F3⟩ ⟨hj, hF3, hag, hc3⟩ G2 hG2
  dsimp only at hj hF3 hag hc3 hG2 ⊢
  have hFF3 := PH.le_trans hFF1 hF3
  refine VC.go 100 ?_
  by_cases hjk : j < k
  case neg =>
    have hjk' : ¬ (j : Int) < (k : Int) := by omega
    obtain rfl : j = k := by omega
    simp only [push_cast, ↓reduceIte, Nat.reduceEqDiff, Nat.reduceAdd, Nat.reduceMul, Nat.reduceSub, Nat.reduceLT, Nat.reduceLeDiff, reduceCtorEq, Nat.reduceMod, Int.reduceEq, Int.reduceLT, Int.reduceLE, Int.reduceToNat, dite_true, hjk', hb]
    refine CallV.own (i := 0) rfl (altF ds a (ih a.body (by omega)) r F3 b _ vb _ _ _ _ _ _ c3 inn (hwv'.mono hF3) (hy'.mono hF3) (hi.mono hFF3) (hd'.mono' hFF3) hb (by omega)) ?_
    rintro _ F4 _ hF4 rfl
    simp only [push_cast, ↓reduceIte, Nat.reduceEqDiff, Nat.reduceAdd, Nat.reduceMul, Nat.reduceSub, Nat.reduceLT, Nat.reduceLeDiff, reduceCtorEq, Nat.reduceMod, Int.reduceEq, Int.reduceLT, Int.reduceLE, Int.reduceToNat, dite_true, e2]
    exact hG (j + 1, altC ds a r inn c3, F4) _ ⟨by simp; omega, PH.le_trans hF1 (PH.le_trans hF3 hF4), by rw [ht]; simp only [altStep, Bool.false_eq_true, if_false]; rw [hag, hc3]⟩ (by simp; omega) (by simp [subk, Eng.look]) (by simp) rfl rfl
  have hjk' : (j : Int) < (k : Int) := by omega
  have hjl : j < e.alts.length := by omega
  have hjl' : (j : Int) < (e.alts.length : Int) := by omega
  have h0j : (0 : Int) ≤ (j : Int) := by omega
  have e4 : IntKind.i64.wrap ((j : Int) + 1) = ((j + 1 : Nat) : Int) := wadd j hjl (Nat.le_trans hl1 hl2)
  have hbt0 : e.alts.take (j + 1) = e.alts.take j ++ [e.alts[j]] := List.take_succ_eq_append_getElem hjl
  obtain ⟨q3, _, cs3, eq3, _, _, kl3, kr3⟩ := (halts.mono (R' := RAlt F3) hFF3 (fun _ _ _ h => h.mono hFF3)).elem (by decide) (i := j) (a := e.alts[j]) (List.getElem?_eq_getElem hjl) (fun _ _ h => h.len)
  cases eq3
  obtain ⟨bb, hbb⟩ : ∃ bb, bb = e.alts[j] := ⟨_, rfl⟩
  have hbt : e.alts.take (j + 1) = e.alts.take j ++ [bb] := by rw [hbb]; exact hbt0
  rw [← hbb] at kr3
  obtain ⟨wv3, cc3, rfl, hwv3, hcc3⟩ := RAlt_iff.1 kr3
  obtain ⟨za, zb, ze, zl, rfl, hz⟩ := RExp_iff.1 hcc3
  obtain ⟨pv3, cv3, rfl, _, _, _⟩ := hwv3
  obtain ⟨_, _, _, _, _, _, _, _, rfl, rfl, rfl, rfl⟩ := hz.slices
  by_cases g3 : bb.kind = 3
  · simp only [push_cast, ↓reduceIte, Nat.reduceEqDiff, Nat.reduceAdd, Nat.reduceMul, Nat.reduceSub, Nat.reduceLT, Nat.reduceLeDiff, reduceCtorEq, Nat.reduceMod, Int.reduceEq, Int.reduceLT, Int.reduceLE, Int.reduceToNat, dite_true, hjk', hjl', h0j, kl3, eq_true g3, hb]
    intro b10
    refine CallV.own (i := 0) rfl (fail F3 b _ vb c3 a.at_ 35) ?_
    rintro _ F5 _ hF5 rfl
    cases r with
    | true =>
      simp only [push_cast, ↓reduceIte, Nat.reduceEqDiff, Nat.reduceAdd, Nat.reduceMul, Nat.reduceSub, Nat.reduceLT, Nat.reduceLeDiff, reduceCtorEq, Nat.reduceMod, Int.reduceEq, Int.reduceLT, Int.reduceLE, Int.reduceToNat, dite_true, hb, e4]
      exact hG2 (j + 1, true, failC c3 a.at_ 35, F5) _ ⟨by simp; omega, PH.le_trans hF3 hF5, by rw [hbt, againB_snoc, ← hag]; simp [], by rw [hbt, lastC_snoc, ← hc3, whenC, if_pos g3]⟩ (by simp; omega) (by simp [subk, Eng.look]) (by simp) rfl rfl
    | false =>
      have n1 : ¬ bb.kind = 1 := by omega
      have n2 : ¬ bb.kind = 2 := by omega
      by_cases q1 : a.kind = 1
      · have q2 : ¬ a.kind = 2 := by omega
        simp only [push_cast, ↓reduceIte, Nat.reduceEqDiff, Nat.reduceAdd, Nat.reduceMul, Nat.reduceSub, Nat.reduceLT, Nat.reduceLeDiff, reduceCtorEq, Nat.reduceMod, Int.reduceEq, Int.reduceLT, Int.reduceLE, Int.reduceToNat, dite_true, hb, n1, eq_true q1, q2, e4]
        exact hG2 (j + 1, false, failC c3 a.at_ 35, F5) _ ⟨by simp; omega, PH.le_trans hF3 hF5, by rw [hbt, againB_snoc, ← hag]; simp [n1, n2], by rw [hbt, lastC_snoc, ← hc3, whenC, if_pos g3]⟩ (by simp; omega) (by simp [subk, Eng.look]) (by simp) rfl rfl
      · by_cases q2 : a.kind = 2
        · simp only [push_cast, ↓reduceIte, Nat.reduceEqDiff, Nat.reduceAdd, Nat.reduceMul, Nat.reduceSub, Nat.reduceLT, Nat.reduceLeDiff, reduceCtorEq, Nat.reduceMod, Int.reduceEq, Int.reduceLT, Int.reduceLE, Int.reduceToNat, dite_true, hb, n1, n2, q1, eq_true q2, e4]
          exact hG2 (j + 1, false, failC c3 a.at_ 35, F5) _ ⟨by simp; omega, PH.le_trans hF3 hF5, by rw [hbt, againB_snoc, ← hag]; simp [n1, n2], by rw [hbt, lastC_snoc, ← hc3, whenC, if_pos g3]⟩ (by simp; omega) (by simp [subk, Eng.look]) (by simp) rfl rfl
        · simp only [push_cast, ↓reduceIte, Nat.reduceEqDiff, Nat.reduceAdd, Nat.reduceMul, Nat.reduceSub, Nat.reduceLT, Nat.reduceLeDiff, reduceCtorEq, Nat.reduceMod, Int.reduceEq, Int.reduceLT, Int.reduceLE, Int.reduceToNat, dite_true, hb, n1, n2, q1, q2, e4]
          exact hG2 (j + 1, false, failC c3 a.at_ 35, F5) _ ⟨by simp; omega, PH.le_trans hF3 hF5, by rw [hbt, againB_snoc, ← hag]; simp [n1, n2], by rw [hbt, lastC_snoc, ← hc3, whenC, if_pos g3]⟩ (by simp; omega) (by simp [subk, Eng.look]) (by simp) rfl rfl
  · simp only [push_cast, ↓reduceIte, Nat.reduceEqDiff, Nat.reduceAdd, Nat.reduceMul, Nat.reduceSub, Nat.reduceLT, Nat.reduceLeDiff, reduceCtorEq, Nat.reduceMod, Int.reduceEq, Int.reduceLT, Int.reduceLE, Int.reduceToNat, dite_true, hjk', hjl', h0j, kl3, g3, hb]
    intro b10
    cases r with
    | true =>
      simp only [push_cast, ↓reduceIte, Nat.reduceEqDiff, Nat.reduceAdd, Nat.reduceMul, Nat.reduceSub, Nat.reduceLT, Nat.reduceLeDiff, reduceCtorEq, Nat.reduceMod, Int.reduceEq, Int.reduceLT, Int.reduceLE, Int.reduceToNat, dite_true, g3, hb, e4]
      exact hG2 (j + 1, true, c3, F3) _ ⟨by simp; omega, hF3, by rw [hbt, againB_snoc, ← hag]; simp [], by rw [hbt, lastC_snoc, ← hc3, whenC, if_neg g3]⟩ (by simp; omega) (by simp [subk, Eng.look]) (by simp) rfl rfl
    | false =>
      by_cases q1 : a.kind = 1
      · have q2 : ¬ a.kind = 2 := by omega
        by_cases n1 : bb.kind = 1
        · by_cases nn : a.name = bb.name
          · simp only [push_cast, ↓reduceIte, Nat.reduceEqDiff, Nat.reduceAdd, Nat.reduceMul, Nat.reduceSub, Nat.reduceLT, Nat.reduceLeDiff, reduceCtorEq, Nat.reduceMod, Int.reduceEq, Int.reduceLT, Int.reduceLE, Int.reduceToNat, dite_true, g3, hb, eq_true n1, eq_true q1, q2, eq_true nn, e4]
            exact hG2 (j + 1, true, c3, F3) _ ⟨by simp; omega, hF3, by rw [hbt, againB_snoc, ← hag]; simp [q1, n1, nn], by rw [hbt, lastC_snoc, ← hc3, whenC, if_neg g3]⟩ (by simp; omega) (by simp [subk, Eng.look]) (by simp) rfl rfl
          · simp only [push_cast, ↓reduceIte, Nat.reduceEqDiff, Nat.reduceAdd, Nat.reduceMul, Nat.reduceSub, Nat.reduceLT, Nat.reduceLeDiff, reduceCtorEq, Nat.reduceMod, Int.reduceEq, Int.reduceLT, Int.reduceLE, Int.reduceToNat, dite_true, g3, hb, eq_true n1, eq_true q1, q2, nn, e4]
            exact hG2 (j + 1, false, c3, F3) _ ⟨by simp; omega, hF3, by rw [hbt, againB_snoc, ← hag]; simp [q1, q2, n1, nn], by rw [hbt, lastC_snoc, ← hc3, whenC, if_neg g3]⟩ (by simp; omega) (by simp [subk, Eng.look]) (by simp) rfl rfl
        · simp only [push_cast, ↓reduceIte, Nat.reduceEqDiff, Nat.reduceAdd, Nat.reduceMul, Nat.reduceSub, Nat.reduceLT, Nat.reduceLeDiff, reduceCtorEq, Nat.reduceMod, Int.reduceEq, Int.reduceLT, Int.reduceLE, Int.reduceToNat, dite_true, g3, hb, n1, eq_true q1, q2, e4]
          exact hG2 (j + 1, false, c3, F3) _ ⟨by simp; omega, hF3, by rw [hbt, againB_snoc, ← hag]; simp [q1, q2, n1], by rw [hbt, lastC_snoc, ← hc3, whenC, if_neg g3]⟩ (by simp; omega) (by simp [subk, Eng.look]) (by simp) rfl rfl
      · by_cases q2 : a.kind = 2
        · by_cases n2 : bb.kind = 2
          · by_cases nn : a.n = bb.n
            · simp only [push_cast, ↓reduceIte, Nat.reduceEqDiff, Nat.reduceAdd, Nat.reduceMul, Nat.reduceSub, Nat.reduceLT, Nat.reduceLeDiff, reduceCtorEq, Nat.reduceMod, Int.reduceEq, Int.reduceLT, Int.reduceLE, Int.reduceToNat, dite_true, g3, hb, q1, eq_true q2, eq_true n2, eq_true nn, e4]
              exact hG2 (j + 1, true, c3, F3) _ ⟨by simp; omega, hF3, by rw [hbt, againB_snoc, ← hag]; simp [q1, q2, n2, nn], by rw [hbt, lastC_snoc, ← hc3, whenC, if_neg g3]⟩ (by simp; omega) (by simp [subk, Eng.look]) (by simp) rfl rfl
            · simp only [push_cast, ↓reduceIte, Nat.reduceEqDiff, Nat.reduceAdd, Nat.reduceMul, Nat.reduceSub, Nat.reduceLT, Nat.reduceLeDiff, reduceCtorEq, Nat.reduceMod, Int.reduceEq, Int.reduceLT, Int.reduceLE, Int.reduceToNat, dite_true, g3, hb, q1, eq_true q2, eq_true n2, nn, e4]
              exact hG2 (j + 1, false, c3, F3) _ ⟨by simp; omega, hF3, by rw [hbt, againB_snoc, ← hag]; simp [q1, q2, n2, nn], by rw [hbt, lastC_snoc, ← hc3, whenC, if_neg g3]⟩ (by simp; omega) (by simp [subk, Eng.look]) (by simp) rfl rfl
          · simp only [push_cast, ↓reduceIte, Nat.reduceEqDiff, Nat.reduceAdd, Nat.reduceMul, Nat.reduceSub, Nat.reduceLT, Nat.reduceLeDiff, reduceCtorEq, Nat.reduceMod, Int.reduceEq, Int.reduceLT, Int.reduceLE, Int.reduceToNat, dite_true, g3, hb, q1, eq_true q2, n2, e4]
            exact hG2 (j + 1, false, c3, F3) _ ⟨by simp; omega, hF3, by rw [hbt, againB_snoc, ← hag]; simp [q1, q2, n2], by rw [hbt, lastC_snoc, ← hc3, whenC, if_neg g3]⟩ (by simp; omega) (by simp [subk, Eng.look]) (by simp) rfl rfl
        · simp only [push_cast, ↓reduceIte, Nat.reduceEqDiff, Nat.reduceAdd, Nat.reduceMul, Nat.reduceSub, Nat.reduceLT, Nat.reduceLeDiff, reduceCtorEq, Nat.reduceMod, Int.reduceEq, Int.reduceLT, Int.reduceLE, Int.reduceToNat, dite_true, g3, hb, q1, q2, e4]
          exact hG2 (j + 1, false, c3, F3) _ ⟨by simp; omega, hF3, by rw [hbt, againB_snoc, ← hag]; simp [q1, q2], by rw [hbt, lastC_snoc, ← hc3, whenC, if_neg g3]⟩ (by simp; omega) (by simp [subk, Eng.look]) (by simp) rfl rfl
end Go.Proofs.YtjeidgjhkjnkeaaDoor.K
