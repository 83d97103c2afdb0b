/- The reader of the definition: its small calls; names, atoms; binds and alternatives. (Written by gen/r234.py.) -/
import Derived.Test.YtoepmdbicdoieaaDoorR1
namespace Go.Eng
open Go Go.RowKit
section
variable {P : Program} {n : Nat} {C : Cx} {k : List KItem} {S : St}
theorem VC.loopMR {ι : Type} {c : Code} (L : ι → KL) (M : ι → List Own) (F : ι → PH) (R : ι → List PH) (I : ι → Prop) (μ : ι → Nat) (i0 : ι) (h0 : I i0) (hs : subk S.L (L i0)) (hM : (M i0).Sublist S.M) (hF : F i0 = S.F) (hR : subR (R i0) S.R)
    (round : ∀ i, I i → ∀ G : St → Prop, (∀ j S', I j → μ j < μ i → subk S'.L (L j) → (M j).Sublist S'.M → S'.F = F j → subR (R j) S'.R → G S') → VC P n C (.code c :: .done G :: k) ⟨L i, M i, F i, R i, S.nx⟩) : VC P n C (.code (.loop c) :: k) S := by
  obtain ⟨R0, hR1, hR2⟩ := hR
  refine VC.loop (fun i : ι × List PH => ⟨L i.1, M i.1, F i.1, i.2, S.nx⟩) (fun i => I i.1 ∧ i.2.Perm (R i.1)) (fun i => μ i.1) (i0, R0) ⟨h0, hR2⟩ ⟨subk_le hs, hM, hF, hR1⟩ ?_
  rintro ⟨i, Ri⟩ ⟨hi, hp⟩ G hG
  refine VC.permR hp (round i hi G fun j S' h1 h2 h3 h4 h5 ⟨l, h6, h7⟩ => ?_)
  exact hG (j, l) S' ⟨h1, h7⟩ h2 ⟨subk_le h3, h4, h5.symm, h6⟩
/-- A cut behind a piece of code in which blocks of the call's own turn, and rows that are lent. -/
theorem VC.cutMR {ι : Type} {c : Code} (L : ι → KL) (M : ι → List Own) (F : ι → PH) (R : ι → List PH) (I : ι → Prop)
    (hx : ∀ G : St → Prop, (∀ j S', I j → subk S'.L (L j) → (M j).Sublist S'.M → S'.F = F j → subR (R j) S'.R → G S') → VC P n C (.code c :: .done G :: k) S)
    (hk : ∀ i, I i → VC P n C k ⟨L i, M i, F i, R i, S.nx⟩) : VC P n C (.code c :: k) S := by
  refine VC.cut (fun i : ι × List PH => ⟨L i.1, M i.1, F i.1, i.2, S.nx⟩) (fun i => I i.1 ∧ i.2.Perm (R i.1)) (fun G hG => hx G fun j S' h1 h2 h3 h4 ⟨l, h6, h7⟩ => ?_) ?_
  · exact hG (j, l) S' ⟨h1, h7⟩ ⟨subk_le h2, h3, h4.symm, h6⟩
  · rintro ⟨i, Ri⟩ ⟨hi, hp⟩
    exact VC.permR hp (hk i hi)
end
end Go.Eng
namespace Go.Proofs.YtoepmdbicdoieaaDoor.X
open Go Go.Eng Go.Proofs Go.Proofs.YtoepmdbicdoieaaDoor.T Go.Proofs.YtoepmdbicdoieaaDoor.K
set_option linter.unusedSimpArgs false
set_option linter.unusedVariables false
set_option maxRecDepth 100000
set_option maxHeartbeats 4000000
/-- What a reader was given. -/
structure Giv (F : PH) (vl : Value) (l : List Tok) : Prop where
  toks : Toks F vl l
  few : l.length ≤ 16384
  short : ∀ t ∈ l, t.tx.size ≤ 32
theorem Giv.mono {F G : PH} {vl : Value} {l : List Tok} (h : Giv F vl l) (hl : F.le G) : Giv G vl l := ⟨h.toks.mono hl (fun _ _ _ h => h), h.few, h.short⟩
theorem tokR_pos {l : List Tok} {e : Int} {r : Rd} (h : ¬ (tokR l e r).k = 0) : r.bad = false ∧ r.at_ < l.length ∧ tokR l e r ∈ l := by
  unfold tokR at h ⊢
  cases hb : r.bad with
  | true => rw [hb] at h; exact absurd rfl h
  | false =>
    rw [hb] at h
    simp only [Bool.false_eq_true, if_false] at h ⊢
    by_cases hl : r.at_ < l.length
    · rw [List.getElem?_eq_getElem hl, Option.getD_some]
      exact ⟨trivial, hl, List.getElem_mem hl⟩
    · rw [List.getElem?_eq_none (by omega)] at h
      exact absurd rfl h
theorem tokR_short {l : List Tok} {e : Int} {r : Rd} (h : ∀ t ∈ l, t.tx.size ≤ 32) : (tokR l e r).tx.size ≤ 32 := by
  by_cases h0 : (tokR l e r).k = 0
  · unfold tokR
    cases hb : r.bad with
    | true => exact Nat.zero_le _
    | false =>
      simp only [Bool.false_eq_true, if_false]
      cases hl : l[r.at_]? with
      | none => exact Nat.zero_le _
      | some t => exact h _ (List.mem_of_getElem? hl)
  · exact h _ (tokR_pos h0).2.2
/-- On from one to another. -/
structure Go (l : List Tok) (r s : Rd) : Prop where
  le : r.at_ ≤ s.at_
  lt : s.at_ ≤ l.length
  bad : r.bad = true → s.bad = true
theorem Go.refl {l : List Tok} {r : Rd} (h : r.at_ ≤ l.length) : Go l r r := ⟨Nat.le_refl _, h, id⟩
theorem Go.trans {l : List Tok} {r s t : Rd} (h : Go l r s) (k : Go l s t) : Go l r t := ⟨Nat.le_trans h.le k.le, k.lt, fun hb => k.bad (h.bad hb)⟩
theorem Go.good {l : List Tok} {r s : Rd} (h : Go l r s) (hb : s.bad = false) : r.bad = false := by
  cases e : r.bad with
  | false => rfl
  | true => rw [h.bad e] at hb; cases hb
theorem go_fail {l : List Tok} {e x : Int} {r : Rd} (h : r.at_ ≤ l.length) : Go l r (failR l e r x) := by
  unfold failR; split
  · exact .refl h
  · exact ⟨Nat.le_refl _, h, fun _ => rfl⟩
theorem fail_bad {l : List Tok} {e x : Int} {r : Rd} : (failR l e r x).bad = true := by
  unfold failR; split
  · assumption
  · rfl
theorem go_on {l : List Tok} {e : Int} {r : Rd} (h : ¬ (tokR l e r).k = 0) : Go l r (onR r) ∧ (onR r).at_ = r.at_ + 1 ∧ (onR r).bad = false := by
  obtain ⟨h1, h2, _⟩ := tokR_pos h
  unfold onR
  rw [if_neg (by rw [h1]; decide)]
  exact ⟨⟨by simp, h2, fun hb => hb⟩, rfl, h1⟩
theorem isR_k {l : List Tok} {e : Int} {r : Rd} {s : ByteArray} (h : isR l e r s = true) : ¬ (tokR l e r).k = 0 := by
  unfold isR at h
  simp only [Bool.and_eq_true, Bool.or_eq_true, decide_eq_true_eq] at h
  omega
theorem go_want {l : List Tok} {e : Int} {r : Rd} {s : ByteArray} (h : r.at_ ≤ l.length) : Go l r (wantR l e r s) := by
  unfold wantR; split
  · rename_i k; exact (go_on (isR_k k)).1
  · exact go_fail h
theorem go_kind {l : List Tok} {e : Int} {r : Rd} {k : Int} (hk : ¬ k = 0) (h : r.at_ ≤ l.length) : Go l r (kindR l e r k) ∧ ((kindR l e r k).bad = false → (kindR l e r k).at_ = r.at_ + 1) := by
  unfold kindR; split
  · rename_i e1
    have := go_on (l := l) (e := e) (r := r) (by rw [e1]; exact hk)
    exact ⟨this.1, fun _ => this.2.1⟩
  · exact ⟨go_fail h, fun hb => by rw [fail_bad] at hb; cases hb⟩
theorem kindT_short {l : List Tok} {e : Int} {r : Rd} {k : Int} (h : ∀ t ∈ l, t.tx.size ≤ 32) : (kindT l e r k).tx.size ≤ 32 := by
  unfold kindT; split
  · exact tokR_short h
  · exact Nat.zero_le _
abbrev RFn (f : FuncId) (args : List Value) (F : PH) (b : Nat) (vl : Value) (e : Int) (r : Rd) (Q : Value → PH → List Value → Prop) : Prop :=
  OFn Tryd.prog f (.pointer (some ⟨b, 0, none⟩) :: args) F b 97 (rdC vl e r) Q
theorem rret {b : Nat} {vl : Value} {e : Int} {r : Rd} {ts : List ResultVar} {vs : List Value} {L : KL} {M : List Own} {F : PH} {nx : Nat} {Q : Value → PH → List Value → Prop} (hv : rvals Tryd.prog ⟨L, M, F, [], nx⟩ ts = some vs) (hM : ownF M 0 = some ⟨0, b, 97, rdC vl e r⟩) (q : Q (rval vs) F (rdC vl e r)) :
    RetOk Tryd.prog ts (fun v F' R' => ∃ cs', R' = [cell1 b 97 cs'] ∧ Q v F' cs') ⟨L, M, F, [], nx⟩ :=
  RetOk.own 0 hv hM q
theorem token (F : PH) (b : Nat) (vl : Value) (l : List Tok) (e : Int) (r : Rd) (hl : Giv F vl l) (hr : r.at_ ≤ l.length) :
    RFn 63 [] F b vl e r (fun v F' cs' => v = .agg (tokC (tokR l e r)).toArray ∧ cs' = rdC vl e r) := by
  have hl' := hl.toks
  obtain ⟨p, c, rfl, h1, h2⟩ := hl'.val
  obtain ⟨a, bad, es, en⟩ := r
  dsimp only at hr
  refine OFn.intro (n := 35) (ts := [.cell 2 99]) Tryd.func63 rfl rfl rfl rfl (by simp) fun B hB => VC.go 100 ?_
  simp only [push_cast, ↓reduceIte, Nat.reduceEqDiff, Nat.reduceAdd, Nat.reduceMul, Nat.reduceSub, Nat.reduceLT, Nat.reduceLeDiff, reduceCtorEq, Nat.reduceMod, Int.reduceEq, Int.reduceLT, Int.reduceLE, Int.reduceToNat, dite_true]
  intro b2
  refine VC.draw (.q 0 (.q 1 (.q 2 (.q 3 (.q 4 (.q 5 (.q 6 (.q 7 (.q 8 (.q 9 (.q 10 (.q 11 (.q 12 (.q 13 (.q 14 (.q 15 (.q 16 (.done)))))))))))))))))) mixed (by rfl) ?_
  cases bad with
  | true =>
    simp only [push_cast, ↓reduceIte, Nat.reduceEqDiff, Nat.reduceAdd, Nat.reduceMul, Nat.reduceSub, Nat.reduceLT, Nat.reduceLeDiff, reduceCtorEq, Nat.reduceMod, Int.reduceEq, Int.reduceLT, Int.reduceLE, Int.reduceToNat, dite_true]
    refine VC.go 100 ?_
    simp only [push_cast, ↓reduceIte, Nat.reduceEqDiff, Nat.reduceAdd, Nat.reduceMul, Nat.reduceSub, Nat.reduceLT, Nat.reduceLeDiff, reduceCtorEq, Nat.reduceMod, Int.reduceEq, Int.reduceLT, Int.reduceLE, Int.reduceToNat, dite_true]
    exact rret (r := ⟨a, true, es, en⟩) (vs := [_]) (by simp only [push_cast, ↓reduceIte, Nat.reduceEqDiff, Nat.reduceAdd, Nat.reduceMul, Nat.reduceSub, Nat.reduceLT, Nat.reduceLeDiff, reduceCtorEq, Nat.reduceMod, Int.reduceEq, Int.reduceLT, Int.reduceLE, Int.reduceToNat, dite_true, rvals, rval1] <;> rfl) rfl ⟨rfl, rfl⟩
  | false =>
  by_cases h : a < l.length
  case neg =>
    have h' : ¬ (a : Int) < (l.length : Int) := by omega
    simp only [push_cast, ↓reduceIte, Nat.reduceEqDiff, Nat.reduceAdd, Nat.reduceMul, Nat.reduceSub, Nat.reduceLT, Nat.reduceLeDiff, reduceCtorEq, Nat.reduceMod, Int.reduceEq, Int.reduceLT, Int.reduceLE, Int.reduceToNat, dite_true, h']
    refine VC.go 100 ?_
    simp only [push_cast, ↓reduceIte, Nat.reduceEqDiff, Nat.reduceAdd, Nat.reduceMul, Nat.reduceSub, Nat.reduceLT, Nat.reduceLeDiff, reduceCtorEq, Nat.reduceMod, Int.reduceEq, Int.reduceLT, Int.reduceLE, Int.reduceToNat, dite_true]
    refine rret (r := ⟨a, false, es, en⟩) (vs := [_]) (by simp only [push_cast, ↓reduceIte, Nat.reduceEqDiff, Nat.reduceAdd, Nat.reduceMul, Nat.reduceSub, Nat.reduceLT, Nat.reduceLeDiff, reduceCtorEq, Nat.reduceMod, Int.reduceEq, Int.reduceLT, Int.reduceLE, Int.reduceToNat, dite_true, rvals, rval1] <;> rfl) rfl ⟨?_, rfl⟩
    have : tokR l e ⟨a, false, es, en⟩ = ⟨0, ⟨#[]⟩, 0, e⟩ := by unfold tokR; rw [List.getElem?_eq_none (by simp; omega)]; rfl
    rw [this]; rfl
  have h' : (a : Int) < (l.length : Int) := by omega
  have h0 : (0 : Int) ≤ (a : Int) := by omega
  obtain ⟨q, _, cs, eq, _, _, kl, kr⟩ := hl'.elem (by decide) (i := a) (a := l[a]) (List.getElem?_eq_getElem h) RTok.len
  cases eq
  cases kr
  simp only [push_cast, ↓reduceIte, Nat.reduceEqDiff, Nat.reduceAdd, Nat.reduceMul, Nat.reduceSub, Nat.reduceLT, Nat.reduceLeDiff, reduceCtorEq, Nat.reduceMod, Int.reduceEq, Int.reduceLT, Int.reduceLE, Int.reduceToNat, dite_true, h']
  refine VC.go 100 ?_
  simp only [push_cast, ↓reduceIte, Nat.reduceEqDiff, Nat.reduceAdd, Nat.reduceMul, Nat.reduceSub, Nat.reduceLT, Nat.reduceLeDiff, reduceCtorEq, Nat.reduceMod, Int.reduceEq, Int.reduceLT, Int.reduceLE, Int.reduceToNat, dite_true, h']
  refine VC.draw (.q 0 (.q 1 (.q 2 (.q 3 (.q 4 (.q 5 (.q 6 (.q 7 (.q 8 (.q 9 (.e 10 (.done)))))))))))) mixed (by rfl) ?_
  simp only [push_cast, ↓reduceIte, Nat.reduceEqDiff, Nat.reduceAdd, Nat.reduceMul, Nat.reduceSub, Nat.reduceLT, Nat.reduceLeDiff, reduceCtorEq, Nat.reduceMod, Int.reduceEq, Int.reduceLT, Int.reduceLE, Int.reduceToNat, dite_true, h', h0, kl]
  refine VC.go 100 ?_
  simp only [push_cast, ↓reduceIte, Nat.reduceEqDiff, Nat.reduceAdd, Nat.reduceMul, Nat.reduceSub, Nat.reduceLT, Nat.reduceLeDiff, reduceCtorEq, Nat.reduceMod, Int.reduceEq, Int.reduceLT, Int.reduceLE, Int.reduceToNat, dite_true]
  refine rret (r := ⟨a, false, es, en⟩) (vs := [_]) (by simp only [push_cast, ↓reduceIte, Nat.reduceEqDiff, Nat.reduceAdd, Nat.reduceMul, Nat.reduceSub, Nat.reduceLT, Nat.reduceLeDiff, reduceCtorEq, Nat.reduceMod, Int.reduceEq, Int.reduceLT, Int.reduceLE, Int.reduceToNat, dite_true, rvals, rval1] <;> rfl) rfl ⟨?_, rfl⟩
  have : tokR l e ⟨a, false, es, en⟩ = l[a] := by unfold tokR; simp [List.getElem?_eq_getElem h]
  rw [this]; rfl
theorem fail (F : PH) (b : Nat) (vl : Value) (l : List Tok) (e x : Int) (r : Rd) (hl : Giv F vl l) (hr : r.at_ ≤ l.length) :
    RFn 64 [.int .i64 x] F b vl e r (fun v F' cs' => cs' = rdC vl e (failR l e r x)) := by
  have hone : vl.oneCell' = true := by obtain ⟨p, c, rfl, h1, h2⟩ := hl.toks.val; rfl
  have htok := token F b vl l e r hl hr
  obtain ⟨a, bad, es, en⟩ := r
  dsimp only at hr
  refine OFn.intro (n := 22) (ts := []) Tryd.func64 rfl rfl rfl rfl (by simp) fun B hB => VC.go 100 ?_
  cases bad with
  | true =>
    simp only [push_cast, ↓reduceIte, Nat.reduceEqDiff, Nat.reduceAdd, Nat.reduceMul, Nat.reduceSub, Nat.reduceLT, Nat.reduceLeDiff, reduceCtorEq, Nat.reduceMod, Int.reduceEq, Int.reduceLT, Int.reduceLE, Int.reduceToNat, dite_true, hone]
    exact rret (r := ⟨a, true, es, en⟩) rfl rfl rfl
  | false =>
    simp only [push_cast, ↓reduceIte, Nat.reduceEqDiff, Nat.reduceAdd, Nat.reduceMul, Nat.reduceSub, Nat.reduceLT, Nat.reduceLeDiff, reduceCtorEq, Nat.reduceMod, Int.reduceEq, Int.reduceLT, Int.reduceLE, Int.reduceToNat, dite_true, hone]
    refine CallV.own (i := 0) rfl htok ?_
    rintro _ F1 _ hF1 ⟨rfl, rfl⟩
    simp only [push_cast, ↓reduceIte, Nat.reduceEqDiff, Nat.reduceAdd, Nat.reduceMul, Nat.reduceSub, Nat.reduceLT, Nat.reduceLeDiff, reduceCtorEq, Nat.reduceMod, Int.reduceEq, Int.reduceLT, Int.reduceLE, Int.reduceToNat, dite_true, hone]
    exact rret (r := failR l e ⟨a, false, es, en⟩ x) rfl rfl rfl
theorem on (F : PH) (b : Nat) (vl : Value) (l : List Tok) (e : Int) (r : Rd) (hl : Giv F vl l) (hr : r.at_ ≤ l.length) :
    RFn 30 [] F b vl e r (fun v F' cs' => cs' = rdC vl e (onR r)) := by
  have hone : vl.oneCell' = true := by obtain ⟨p, c, rfl, h1, h2⟩ := hl.toks.val; rfl
  have hf := hl.few
  obtain ⟨a, bad, es, en⟩ := r
  dsimp only at hr
  have e2 : IntKind.i64.wrap ((a : Int) + 1) = ((a + 1 : Nat) : Int) := by rw [IntWalk.i64_in _ (by omega)]; rfl
  refine OFn.intro (n := 14) (ts := []) Tryd.func30 rfl rfl rfl rfl (by simp) fun B hB => VC.go 100 ?_
  cases bad with
  | true =>
    simp only [push_cast, ↓reduceIte, Nat.reduceEqDiff, Nat.reduceAdd, Nat.reduceMul, Nat.reduceSub, Nat.reduceLT, Nat.reduceLeDiff, reduceCtorEq, Nat.reduceMod, Int.reduceEq, Int.reduceLT, Int.reduceLE, Int.reduceToNat, dite_true, hone]
    exact rret (r := ⟨a, true, es, en⟩) rfl rfl rfl
  | false =>
    simp only [push_cast, ↓reduceIte, Nat.reduceEqDiff, Nat.reduceAdd, Nat.reduceMul, Nat.reduceSub, Nat.reduceLT, Nat.reduceLeDiff, reduceCtorEq, Nat.reduceMod, Int.reduceEq, Int.reduceLT, Int.reduceLE, Int.reduceToNat, dite_true, hone, e2]
    exact rret (r := ⟨a + 1, false, es, en⟩) rfl rfl rfl
theorem is_ (F : PH) (b : Nat) (vl : Value) (l : List Tok) (e : Int) (r : Rd) (s : ByteArray) (hl : Giv F vl l) (hr : r.at_ ≤ l.length) :
    RFn 29 [.string s] F b vl e r (fun v F' cs' => v = .bool (isR l e r s) ∧ cs' = rdC vl e r) := by
  have hone : vl.oneCell' = true := by obtain ⟨p, c, rfl, h1, h2⟩ := hl.toks.val; rfl
  refine OFn.intro (n := 22) (ts := [4]) Tryd.func29 rfl rfl rfl rfl (by simp) fun B hB => VC.go 100 ?_
  simp only [push_cast, ↓reduceIte, Nat.reduceEqDiff, Nat.reduceAdd, Nat.reduceMul, Nat.reduceSub, Nat.reduceLT, Nat.reduceLeDiff, reduceCtorEq, Nat.reduceMod, Int.reduceEq, Int.reduceLT, Int.reduceLE, Int.reduceToNat, dite_true, hone]
  refine CallV.own (i := 0) rfl (token F b vl l e r hl hr) ?_
  rintro _ F1 _ hF1 ⟨rfl, rfl⟩
  obtain ⟨t, ht⟩ : ∃ t, t = tokR l e r := ⟨_, rfl⟩
  unfold isR
  rw [← ht]
  simp only [push_cast, ↓reduceIte, Nat.reduceEqDiff, Nat.reduceAdd, Nat.reduceMul, Nat.reduceSub, Nat.reduceLT, Nat.reduceLeDiff, reduceCtorEq, Nat.reduceMod, Int.reduceEq, Int.reduceLT, Int.reduceLE, Int.reduceToNat, dite_true, hone]
  intro b5
  by_cases h1 : t.k = 5
  · simp only [push_cast, ↓reduceIte, Nat.reduceEqDiff, Nat.reduceAdd, Nat.reduceMul, Nat.reduceSub, Nat.reduceLT, Nat.reduceLeDiff, reduceCtorEq, Nat.reduceMod, Int.reduceEq, Int.reduceLT, Int.reduceLE, Int.reduceToNat, dite_true, eq_true h1]
    exact rret (r := r) rfl rfl ⟨by simp [rval, h1], rfl⟩
  by_cases h2 : t.k = 6
  · simp only [push_cast, ↓reduceIte, Nat.reduceEqDiff, Nat.reduceAdd, Nat.reduceMul, Nat.reduceSub, Nat.reduceLT, Nat.reduceLeDiff, reduceCtorEq, Nat.reduceMod, Int.reduceEq, Int.reduceLT, Int.reduceLE, Int.reduceToNat, dite_true, h1, eq_true h2]
    exact rret (r := r) rfl rfl ⟨by simp [rval, h2], rfl⟩
  · simp only [push_cast, ↓reduceIte, Nat.reduceEqDiff, Nat.reduceAdd, Nat.reduceMul, Nat.reduceSub, Nat.reduceLT, Nat.reduceLeDiff, reduceCtorEq, Nat.reduceMod, Int.reduceEq, Int.reduceLT, Int.reduceLE, Int.reduceToNat, dite_true, h1, h2]
    exact rret (r := r) rfl rfl ⟨by simp [rval, h1, h2], rfl⟩
theorem want (F : PH) (b : Nat) (vl : Value) (l : List Tok) (e : Int) (r : Rd) (s : ByteArray) (hl : Giv F vl l) (hr : r.at_ ≤ l.length) :
    RFn 32 [.string s] F b vl e r (fun v F' cs' => cs' = rdC vl e (wantR l e r s)) := by
  have hone : vl.oneCell' = true := by obtain ⟨p, c, rfl, h1, h2⟩ := hl.toks.val; rfl
  refine OFn.intro (n := 11) (ts := []) Tryd.func32 rfl rfl rfl rfl (by simp) fun B hB => VC.go 100 ?_
  simp only [push_cast, ↓reduceIte, Nat.reduceEqDiff, Nat.reduceAdd, Nat.reduceMul, Nat.reduceSub, Nat.reduceLT, Nat.reduceLeDiff, reduceCtorEq, Nat.reduceMod, Int.reduceEq, Int.reduceLT, Int.reduceLE, Int.reduceToNat, dite_true, hone]
  refine CallV.own (i := 0) rfl (is_ F b vl l e r s hl hr) ?_
  rintro _ F1 _ hF1 ⟨rfl, rfl⟩
  cases h : isR l e r s with
  | true =>
    simp only [push_cast, ↓reduceIte, Nat.reduceEqDiff, Nat.reduceAdd, Nat.reduceMul, Nat.reduceSub, Nat.reduceLT, Nat.reduceLeDiff, reduceCtorEq, Nat.reduceMod, Int.reduceEq, Int.reduceLT, Int.reduceLE, Int.reduceToNat, dite_true, hone]
    refine CallV.own (i := 0) rfl (on F1 b vl l e r (hl.mono hF1) hr) ?_
    rintro _ F2 _ hF2 rfl
    simp only [push_cast, ↓reduceIte, Nat.reduceEqDiff, Nat.reduceAdd, Nat.reduceMul, Nat.reduceSub, Nat.reduceLT, Nat.reduceLeDiff, reduceCtorEq, Nat.reduceMod, Int.reduceEq, Int.reduceLT, Int.reduceLE, Int.reduceToNat, dite_true, hone]
    exact rret (r := onR r) rfl rfl (by rw [wantR, h, if_pos rfl])
  | false =>
    simp only [push_cast, ↓reduceIte, Nat.reduceEqDiff, Nat.reduceAdd, Nat.reduceMul, Nat.reduceSub, Nat.reduceLT, Nat.reduceLeDiff, reduceCtorEq, Nat.reduceMod, Int.reduceEq, Int.reduceLT, Int.reduceLE, Int.reduceToNat, dite_true, hone]
    refine CallV.own (i := 0) rfl (fail F1 b vl l e 23 r (hl.mono hF1) hr) ?_
    rintro _ F2 _ hF2 rfl
    simp only [push_cast, ↓reduceIte, Nat.reduceEqDiff, Nat.reduceAdd, Nat.reduceMul, Nat.reduceSub, Nat.reduceLT, Nat.reduceLeDiff, reduceCtorEq, Nat.reduceMod, Int.reduceEq, Int.reduceLT, Int.reduceLE, Int.reduceToNat, dite_true, hone]
    exact rret (r := failR l e r 23) rfl rfl (by rw [wantR, h, if_neg Bool.false_ne_true])
theorem kind (F : PH) (b : Nat) (vl : Value) (l : List Tok) (e : Int) (r : Rd) (k : Int) (hl : Giv F vl l) (hr : r.at_ ≤ l.length) :
    RFn 31 [.int .i64 k] F b vl e r (fun v F' cs' => v = .agg (tokC (kindT l e r k)).toArray ∧ cs' = rdC vl e (kindR l e r k)) := by
  have hone : vl.oneCell' = true := by obtain ⟨p, c, rfl, h1, h2⟩ := hl.toks.val; rfl
  refine OFn.intro (n := 18) (ts := [.cell 4 99]) Tryd.func31 rfl rfl rfl rfl (by simp) fun B hB => VC.go 100 ?_
  simp only [push_cast, ↓reduceIte, Nat.reduceEqDiff, Nat.reduceAdd, Nat.reduceMul, Nat.reduceSub, Nat.reduceLT, Nat.reduceLeDiff, reduceCtorEq, Nat.reduceMod, Int.reduceEq, Int.reduceLT, Int.reduceLE, Int.reduceToNat, dite_true, hone]
  intro b4
  refine CallV.own (i := 0) rfl (token F b vl l e r hl hr) ?_
  rintro _ F1 _ hF1 ⟨rfl, rfl⟩
  obtain ⟨t, ht⟩ : ∃ t, t = tokR l e r := ⟨_, rfl⟩
  unfold kindT kindR
  rw [← ht]
  simp only [push_cast, ↓reduceIte, Nat.reduceEqDiff, Nat.reduceAdd, Nat.reduceMul, Nat.reduceSub, Nat.reduceLT, Nat.reduceLeDiff, reduceCtorEq, Nat.reduceMod, Int.reduceEq, Int.reduceLT, Int.reduceLE, Int.reduceToNat, dite_true, hone]
  intro b5
  by_cases h : t.k = k
  · simp only [push_cast, ↓reduceIte, Nat.reduceEqDiff, Nat.reduceAdd, Nat.reduceMul, Nat.reduceSub, Nat.reduceLT, Nat.reduceLeDiff, reduceCtorEq, Nat.reduceMod, Int.reduceEq, Int.reduceLT, Int.reduceLE, Int.reduceToNat, dite_true, hone, eq_true h]
    refine CallV.own (i := 0) rfl (on F1 b vl l e r (hl.mono hF1) hr) ?_
    rintro _ F2 _ hF2 rfl
    simp only [push_cast, ↓reduceIte, Nat.reduceEqDiff, Nat.reduceAdd, Nat.reduceMul, Nat.reduceSub, Nat.reduceLT, Nat.reduceLeDiff, reduceCtorEq, Nat.reduceMod, Int.reduceEq, Int.reduceLT, Int.reduceLE, Int.reduceToNat, dite_true, hone]
    exact rret (r := onR r) (vs := [_]) (by simp only [push_cast, ↓reduceIte, Nat.reduceEqDiff, Nat.reduceAdd, Nat.reduceMul, Nat.reduceSub, Nat.reduceLT, Nat.reduceLeDiff, reduceCtorEq, Nat.reduceMod, Int.reduceEq, Int.reduceLT, Int.reduceLE, Int.reduceToNat, dite_true, rvals, rval1] <;> rfl) rfl ⟨rfl, rfl⟩
  · simp only [push_cast, ↓reduceIte, Nat.reduceEqDiff, Nat.reduceAdd, Nat.reduceMul, Nat.reduceSub, Nat.reduceLT, Nat.reduceLeDiff, reduceCtorEq, Nat.reduceMod, Int.reduceEq, Int.reduceLT, Int.reduceLE, Int.reduceToNat, dite_true, hone, h]
    refine CallV.own (i := 0) rfl (fail F1 b vl l e 23 r (hl.mono hF1) hr) ?_
    rintro _ F2 _ hF2 rfl
    simp only [push_cast, ↓reduceIte, Nat.reduceEqDiff, Nat.reduceAdd, Nat.reduceMul, Nat.reduceSub, Nat.reduceLT, Nat.reduceLeDiff, reduceCtorEq, Nat.reduceMod, Int.reduceEq, Int.reduceLT, Int.reduceLE, Int.reduceToNat, dite_true, hone]
    exact rret (r := failR l e r 23) (vs := [_]) (by simp only [push_cast, ↓reduceIte, Nat.reduceEqDiff, Nat.reduceAdd, Nat.reduceMul, Nat.reduceSub, Nat.reduceLT, Nat.reduceLeDiff, reduceCtorEq, Nat.reduceMod, Int.reduceEq, Int.reduceLT, Int.reduceLE, Int.reduceToNat, dite_true, rvals, rval1] <;> rfl) rfl ⟨rfl, rfl⟩
end Go.Proofs.YtoepmdbicdoieaaDoor.X
/-! The reader of the definition: names, atoms; what binds, alternatives and expressions ask of one another. -/
namespace Go.Proofs.YtoepmdbicdoieaaDoor.X
open Go Go.Eng Go.Proofs Go.Proofs.YtoepmdbicdoieaaDoor.T Go.Proofs.YtoepmdbicdoieaaDoor.K
set_option linter.unusedSimpArgs false
set_option linter.unusedVariables false
set_option maxRecDepth 100000
set_option maxHeartbeats 4000000
theorem sizeS_snoc : ∀ (l : List ByteArray) (s : ByteArray), sizeS (l ++ [s]) = sizeS l + (s.size + 1)
  | [], s => by simp [sizeS]
  | x :: l, s => by simp only [List.cons_append, sizeS, sizeS_snoc l s]; omega
theorem sizeS_append : ∀ (a b : List ByteArray), sizeS (a ++ b) = sizeS a + sizeS b
  | [], b => by simp [sizeS]
  | x :: a, b => by simp only [List.cons_append, sizeS, sizeS_append a b]; omega
theorem sizeA_snoc : ∀ (l : List (ByteArray × Int)) (s : ByteArray × Int), sizeA (l ++ [s]) = sizeA l + (s.1.size + 3)
  | [], s => by simp [sizeA]
  | x :: l, s => by simp only [List.cons_append, sizeA, sizeA_snoc l s]; omega
theorem atomVals_snoc : ∀ (l : List (ByteArray × Int)) (x : ByteArray × Int), atomVals (l ++ [x]) = atomVals l ++ [.string x.1, .int .i64 x.2]
  | [], x => rfl
  | a :: l, x => by simp only [List.cons_append, atomVals, atomVals_snoc l x]
theorem atomVals_len : ∀ l : List (ByteArray × Int), (atomVals l).length = l.length * 2
  | [] => rfl
  | a :: l => by simp only [atomVals, List.length_cons, atomVals_len l]; omega
theorem names (F : PH) (b : Nat) (vl : Value) (l : List Tok) (e : Int) (r : Rd) (hl : Giv F vl l) (hr : r.at_ ≤ l.length) :
    RFn 65 [] F b vl e r (fun v F' cs' => ∃ s ns, cs' = rdC vl e s ∧ Go l r s ∧ Strs F' v ns ∧ r.at_ + ns.length ≤ s.at_ ∧ sizeS ns ≤ 33 * (s.at_ - r.at_) ∧ NamesR l e r ns s) := by
  have hone : vl.oneCell' = true := by obtain ⟨p, c, rfl, h1, h2⟩ := hl.toks.val; rfl
  have hfew := hl.few
  refine OFn.intro (n := 17) (ts := [2]) Tryd.func65 rfl rfl rfl rfl (by simp) fun B hB => VC.go 100 ?_
  simp only [push_cast, ↓reduceIte, Nat.reduceEqDiff, Nat.reduceAdd, Nat.reduceMul, Nat.reduceSub, Nat.reduceLT, Nat.reduceLeDiff, reduceCtorEq, Nat.reduceMod, Int.reduceEq, Int.reduceLT, Int.reduceLE, Int.reduceToNat, dite_true, hone]
  refine VC.emp ?_
  refine VC.loopMR (ι := Rd × Value × List ByteArray × PH × PH) (fun i => [(3, .v i.2.1), (0, .o 0 b 0)]) (fun i => [⟨0, b, 97, rdC vl e i.1⟩]) (fun i => i.2.2.2.1) (fun i => [i.2.2.2.2]) (fun i => F.le i.2.2.2.1 ∧ Go l r i.1 ∧ r.at_ + i.2.2.1.length ≤ i.1.at_ ∧ sizeS i.2.2.1 ≤ 33 * (i.1.at_ - r.at_) ∧ Row i.2.2.2.2 9 1 i.2.1 (i.2.2.1.map .string) ∧ ∀ ms t, NamesR l e i.1 ms t → NamesR l e r (i.2.2.1 ++ ms) t) (fun i => l.length - i.1.at_) (r, .slice none 0 0, [], F, PH.emp) ⟨PH.le_refl _, .refl hr, Nat.le_refl _, by simp [sizeS], Row.nil _ _, fun _ _ h => h⟩ (by simp [subk, Eng.look]) (List.Sublist.refl _) rfl (subR_refl _) ?_
  rintro ⟨s, v3, ns, F1, r3⟩ ⟨hF1, hg, hn, hsz, hr3, hnm⟩ G hG
  dsimp only at hF1 hg hn hsz hr3 hnm hG ⊢
  obtain ⟨p3, n3, c3, rfl⟩ := hr3.val
  have hl1 := hl.mono hF1
  refine VC.go 3 ?_
  simp only [push_cast, ↓reduceIte, Nat.reduceEqDiff, Nat.reduceAdd, Nat.reduceMul, Nat.reduceSub, Nat.reduceLT, Nat.reduceLeDiff, reduceCtorEq, Nat.reduceMod, Int.reduceEq, Int.reduceLT, Int.reduceLE, Int.reduceToNat, dite_true, hone]
  refine CallV.own (i := 0) rfl (token F1 b vl l e s hl1 hg.lt) ?_
  rintro _ F2 _ hF2 ⟨rfl, rfl⟩
  by_cases h : (tokR l e s).k = 1
  case neg =>
    simp only [push_cast, ↓reduceIte, Nat.reduceEqDiff, Nat.reduceAdd, Nat.reduceMul, Nat.reduceSub, Nat.reduceLT, Nat.reduceLeDiff, reduceCtorEq, Nat.reduceMod, Int.reduceEq, Int.reduceLT, Int.reduceLE, Int.reduceToNat, dite_true, hone, h]
    refine VC.freezeR (List.Perm.refl _) fun F3 hF3 hrF => ?_
    refine VC.go 100 ?_
    simp only [push_cast, ↓reduceIte, Nat.reduceEqDiff, Nat.reduceAdd, Nat.reduceMul, Nat.reduceSub, Nat.reduceLT, Nat.reduceLeDiff, reduceCtorEq, Nat.reduceMod, Int.reduceEq, Int.reduceLT, Int.reduceLE, Int.reduceToNat, dite_true, hone]
    exact rret (r := s) rfl rfl ⟨s, ns, rfl, hg, Row.strs hr3 hrF, hn, hsz, by have := hnm [] s (.done h); rwa [List.append_nil] at this⟩
  have hk : ¬ (tokR l e s).k = 0 := by rw [h]; decide
  obtain ⟨g1, g2, g3⟩ := go_on hk
  obtain ⟨_, hlt, hmem⟩ := tokR_pos hk
  have hsh := hl.short _ hmem
  have hgl := hg.le
  simp only [push_cast, ↓reduceIte, Nat.reduceEqDiff, Nat.reduceAdd, Nat.reduceMul, Nat.reduceSub, Nat.reduceLT, Nat.reduceLeDiff, reduceCtorEq, Nat.reduceMod, Int.reduceEq, Int.reduceLT, Int.reduceLE, Int.reduceToNat, dite_true, hone, eq_true h]
  refine VC.go 100 ?_
  simp only [push_cast, ↓reduceIte, Nat.reduceEqDiff, Nat.reduceAdd, Nat.reduceMul, Nat.reduceSub, Nat.reduceLT, Nat.reduceLeDiff, reduceCtorEq, Nat.reduceMod, Int.reduceEq, Int.reduceLT, Int.reduceLE, Int.reduceToNat, dite_true, hone]
  refine CallV.own (i := 0) rfl (token F2 b vl l e s (hl1.mono hF2) hg.lt) ?_
  rintro _ F3 _ hF3 ⟨rfl, rfl⟩
  simp only [push_cast, ↓reduceIte, Nat.reduceEqDiff, Nat.reduceAdd, Nat.reduceMul, Nat.reduceSub, Nat.reduceLT, Nat.reduceLeDiff, reduceCtorEq, Nat.reduceMod, Int.reduceEq, Int.reduceLT, Int.reduceLE, Int.reduceToNat, dite_true, hone]
  intro b12 F4 hF4 hb12
  refine Eff.append (xs := ns.map .string) (ys := [.string (tokR l e s).tx]) rfl rfl rfl ty44 rfl ty9 rfl (by decide) rfl rfl (List.Perm.refl _) hr3 (Src.blk hb12 rfl) (by simp [Value.oneCell']) (by simp; omega) (by decide) ?_
  intro v' r' hr'
  obtain ⟨p6, n6, c6, rfl⟩ := hr'.val
  simp only [push_cast, ↓reduceIte, Nat.reduceEqDiff, Nat.reduceAdd, Nat.reduceMul, Nat.reduceSub, Nat.reduceLT, Nat.reduceLeDiff, reduceCtorEq, Nat.reduceMod, Int.reduceEq, Int.reduceLT, Int.reduceLE, Int.reduceToNat, dite_true, hone]
  refine CallV.own (i := 0) rfl (on F4 b vl l e s (hl1.mono (PH.le_trans hF2 (PH.le_trans hF3 hF4))) hg.lt) ?_
  rintro _ F5 _ hF5 rfl
  simp only [push_cast, ↓reduceIte, Nat.reduceEqDiff, Nat.reduceAdd, Nat.reduceMul, Nat.reduceSub, Nat.reduceLT, Nat.reduceLeDiff, reduceCtorEq, Nat.reduceMod, Int.reduceEq, Int.reduceLT, Int.reduceLE, Int.reduceToNat, dite_true, hone]
  refine hG (onR s, .slice p6 n6 c6, ns ++ [(tokR l e s).tx], F5, r') _ ⟨PH.le_trans hF1 (PH.le_trans hF2 (PH.le_trans hF3 (PH.le_trans hF4 hF5))), hg.trans g1, by simp; omega, ?_, ?_, fun ms t q => by dsimp only; rw [List.append_assoc]; exact hnm _ _ (.more h q)⟩ (by simp; omega) (by simp [subk, Eng.look]) (List.Sublist.refl _) rfl (subR_refl _)
  · dsimp only; rw [sizeS_snoc]; omega
  · dsimp only; rw [List.map_append]; exact hr'
theorem atoms (F : PH) (b : Nat) (vl : Value) (l : List Tok) (e : Int) (r : Rd) (hl : Giv F vl l) (hr : r.at_ ≤ l.length) :
    RFn 103 [] F b vl e r (fun v F' cs' => ∃ s ns, cs' = rdC vl e s ∧ Go l r s ∧ Sl F' 2 v ns.length (atomVals ns) ∧ sizeA ns ≤ 35 * (s.at_ - r.at_) ∧ AtomsR l e r ns s) := by
  have hone : vl.oneCell' = true := by obtain ⟨p, c, rfl, h1, h2⟩ := hl.toks.val; rfl
  have hfew := hl.few
  refine OFn.intro (n := 28) (ts := [2]) Tryd.func103 rfl rfl rfl rfl (by simp) fun B hB => VC.go 100 ?_
  simp only [push_cast, ↓reduceIte, Nat.reduceEqDiff, Nat.reduceAdd, Nat.reduceMul, Nat.reduceSub, Nat.reduceLT, Nat.reduceLeDiff, reduceCtorEq, Nat.reduceMod, Int.reduceEq, Int.reduceLT, Int.reduceLE, Int.reduceToNat, dite_true, hone]
  refine VC.emp ?_
  refine VC.loopMR (ι := Rd × Value × List (ByteArray × Int) × PH × PH) (fun i => [(3, .v i.2.1), (0, .o 0 b 0)]) (fun i => [⟨0, b, 97, rdC vl e i.1⟩]) (fun i => i.2.2.2.1) (fun i => [i.2.2.2.2]) (fun i => F.le i.2.2.2.1 ∧ Go l r i.1 ∧ r.at_ + i.2.2.1.length ≤ i.1.at_ ∧ sizeA i.2.2.1 ≤ 35 * (i.1.at_ - r.at_) ∧ Row i.2.2.2.2 146 2 i.2.1 (atomVals i.2.2.1) ∧ ∀ ms t, AtomsR l e i.1 ms t → AtomsR l e r (i.2.2.1 ++ ms) t) (fun i => l.length - i.1.at_) (r, .slice none 0 0, [], F, PH.emp) ⟨PH.le_refl _, .refl hr, Nat.le_refl _, by simp [sizeA], Row.nil _ _, fun _ _ h => h⟩ (by simp [subk, Eng.look]) (List.Sublist.refl _) rfl (subR_refl _) ?_
  rintro ⟨s, v3, ns, F1, r3⟩ ⟨hF1, hg, hn, hsz, hr3, hnm⟩ G hG
  dsimp only at hF1 hg hn hsz hr3 hnm hG ⊢
  obtain ⟨p3, n3, c3, rfl⟩ := hr3.val
  have hl1 := hl.mono hF1
  have hal := atomVals_len ns
  have fin : ∀ F3, r3.le F3 → Sl F3 2 (.slice p3 n3 c3) ns.length (atomVals ns) := fun F3 hrF => by
    obtain ⟨m, k1, k2⟩ := hr3.sl hrF
    have : m = ns.length := by omega
    rw [← this]; exact k2
  refine VC.go 3 ?_
  simp only [push_cast, ↓reduceIte, Nat.reduceEqDiff, Nat.reduceAdd, Nat.reduceMul, Nat.reduceSub, Nat.reduceLT, Nat.reduceLeDiff, reduceCtorEq, Nat.reduceMod, Int.reduceEq, Int.reduceLT, Int.reduceLE, Int.reduceToNat, dite_true, hone]
  refine CallV.own (i := 0) rfl (token F1 b vl l e s hl1 hg.lt) ?_
  rintro _ F2 _ hF2 ⟨rfl, rfl⟩
  by_cases h : (tokR l e s).k = 1
  case pos =>
    have hk : ¬ (tokR l e s).k = 0 := by rw [h]; decide
    obtain ⟨g1, g2, g3⟩ := go_on hk
    obtain ⟨_, hlt, hmem⟩ := tokR_pos hk
    have hsh := hl.short _ hmem
    have hgl := hg.le
    simp only [push_cast, ↓reduceIte, Nat.reduceEqDiff, Nat.reduceAdd, Nat.reduceMul, Nat.reduceSub, Nat.reduceLT, Nat.reduceLeDiff, reduceCtorEq, Nat.reduceMod, Int.reduceEq, Int.reduceLT, Int.reduceLE, Int.reduceToNat, dite_true, hone, eq_true h]
    refine VC.go 100 ?_
    simp only [push_cast, ↓reduceIte, Nat.reduceEqDiff, Nat.reduceAdd, Nat.reduceMul, Nat.reduceSub, Nat.reduceLT, Nat.reduceLeDiff, reduceCtorEq, Nat.reduceMod, Int.reduceEq, Int.reduceLT, Int.reduceLE, Int.reduceToNat, dite_true, hone]
    refine CallV.own (i := 0) rfl (token F2 b vl l e s (hl1.mono hF2) hg.lt) ?_
    rintro _ F5 _ hF5 ⟨rfl, rfl⟩
    simp only [push_cast, ↓reduceIte, Nat.reduceEqDiff, Nat.reduceAdd, Nat.reduceMul, Nat.reduceSub, Nat.reduceLT, Nat.reduceLeDiff, reduceCtorEq, Nat.reduceMod, Int.reduceEq, Int.reduceLT, Int.reduceLE, Int.reduceToNat, dite_true, hone]
    intro b4
    intro b23 F6 hF6 hb23
    refine Eff.append (xs := atomVals ns) (ys := [.string (tokR l e s).tx, .int .i64 (tokR l e s).n]) rfl rfl rfl ty45 rfl ty146 rfl (by decide) rfl rfl (List.Perm.refl _) hr3 (Src.blk hb23 rfl) (by simp [Value.oneCell']) (by simp; omega) (by decide) ?_
    intro v' r' hr'
    obtain ⟨p6, n6, c6, rfl⟩ := hr'.val
    simp only [push_cast, ↓reduceIte, Nat.reduceEqDiff, Nat.reduceAdd, Nat.reduceMul, Nat.reduceSub, Nat.reduceLT, Nat.reduceLeDiff, reduceCtorEq, Nat.reduceMod, Int.reduceEq, Int.reduceLT, Int.reduceLE, Int.reduceToNat, dite_true, hone]
    refine CallV.own (i := 0) rfl (on F6 b vl l e s (hl1.mono (PH.le_trans hF2 (PH.le_trans hF5 hF6))) hg.lt) ?_
    rintro _ F7 _ hF7 rfl
    simp only [push_cast, ↓reduceIte, Nat.reduceEqDiff, Nat.reduceAdd, Nat.reduceMul, Nat.reduceSub, Nat.reduceLT, Nat.reduceLeDiff, reduceCtorEq, Nat.reduceMod, Int.reduceEq, Int.reduceLT, Int.reduceLE, Int.reduceToNat, dite_true, hone]
    refine hG (onR s, .slice p6 n6 c6, ns ++ [((tokR l e s).tx, (tokR l e s).n)], F7, r') _ ⟨PH.le_trans hF1 (PH.le_trans hF2 (PH.le_trans hF5 (PH.le_trans hF6 hF7))), hg.trans g1, by simp; omega, ?_, ?_, fun ms t q => by dsimp only; rw [List.append_assoc]; exact hnm _ _ (.more (.inl h) q)⟩ (by simp; omega) (by simp [subk, Eng.look]) (.cons_cons _ (List.nil_sublist _)) rfl (subR_refl _)
    · dsimp only; rw [sizeA_snoc]; dsimp only; omega
    · dsimp only; rw [atomVals_snoc]; exact hr'
  simp only [push_cast, ↓reduceIte, Nat.reduceEqDiff, Nat.reduceAdd, Nat.reduceMul, Nat.reduceSub, Nat.reduceLT, Nat.reduceLeDiff, reduceCtorEq, Nat.reduceMod, Int.reduceEq, Int.reduceLT, Int.reduceLE, Int.reduceToNat, dite_true, hone, h]
  refine CallV.own (i := 0) rfl (token F2 b vl l e s (hl1.mono hF2) hg.lt) ?_
  rintro _ F3 _ hF3 ⟨rfl, rfl⟩
  by_cases h4 : (tokR l e s).k = 4
  case neg =>
    simp only [push_cast, ↓reduceIte, Nat.reduceEqDiff, Nat.reduceAdd, Nat.reduceMul, Nat.reduceSub, Nat.reduceLT, Nat.reduceLeDiff, reduceCtorEq, Nat.reduceMod, Int.reduceEq, Int.reduceLT, Int.reduceLE, Int.reduceToNat, dite_true, hone, h4]
    refine VC.freezeR (List.Perm.refl _) fun F4 hF4 hrF => ?_
    refine VC.go 100 ?_
    simp only [push_cast, ↓reduceIte, Nat.reduceEqDiff, Nat.reduceAdd, Nat.reduceMul, Nat.reduceSub, Nat.reduceLT, Nat.reduceLeDiff, reduceCtorEq, Nat.reduceMod, Int.reduceEq, Int.reduceLT, Int.reduceLE, Int.reduceToNat, dite_true, hone]
    exact rret (r := s) rfl rfl ⟨s, ns, rfl, hg, fin _ hrF, hsz, by have := hnm [] s (.done (fun k => k.elim h h4)); rwa [List.append_nil] at this⟩
  have hk : ¬ (tokR l e s).k = 0 := by rw [h4]; decide
  obtain ⟨g1, g2, g3⟩ := go_on hk
  obtain ⟨_, hlt, hmem⟩ := tokR_pos hk
  have hsh := hl.short _ hmem
  have hgl := hg.le
  simp only [push_cast, ↓reduceIte, Nat.reduceEqDiff, Nat.reduceAdd, Nat.reduceMul, Nat.reduceSub, Nat.reduceLT, Nat.reduceLeDiff, reduceCtorEq, Nat.reduceMod, Int.reduceEq, Int.reduceLT, Int.reduceLE, Int.reduceToNat, dite_true, hone, eq_true h4]
  refine VC.go 100 ?_
  simp only [push_cast, ↓reduceIte, Nat.reduceEqDiff, Nat.reduceAdd, Nat.reduceMul, Nat.reduceSub, Nat.reduceLT, Nat.reduceLeDiff, reduceCtorEq, Nat.reduceMod, Int.reduceEq, Int.reduceLT, Int.reduceLE, Int.reduceToNat, dite_true, hone]
  refine CallV.own (i := 0) rfl (token F3 b vl l e s (hl1.mono (PH.le_trans hF2 hF3)) hg.lt) ?_
  rintro _ F5 _ hF5 ⟨rfl, rfl⟩
  simp only [push_cast, ↓reduceIte, Nat.reduceEqDiff, Nat.reduceAdd, Nat.reduceMul, Nat.reduceSub, Nat.reduceLT, Nat.reduceLeDiff, reduceCtorEq, Nat.reduceMod, Int.reduceEq, Int.reduceLT, Int.reduceLE, Int.reduceToNat, dite_true, hone]
  intro b4
  intro b23 F6 hF6 hb23
  refine Eff.append (xs := atomVals ns) (ys := [.string (tokR l e s).tx, .int .i64 (tokR l e s).n]) rfl rfl rfl ty45 rfl ty146 rfl (by decide) rfl rfl (List.Perm.refl _) hr3 (Src.blk hb23 rfl) (by simp [Value.oneCell']) (by simp; omega) (by decide) ?_
  intro v' r' hr'
  obtain ⟨p6, n6, c6, rfl⟩ := hr'.val
  simp only [push_cast, ↓reduceIte, Nat.reduceEqDiff, Nat.reduceAdd, Nat.reduceMul, Nat.reduceSub, Nat.reduceLT, Nat.reduceLeDiff, reduceCtorEq, Nat.reduceMod, Int.reduceEq, Int.reduceLT, Int.reduceLE, Int.reduceToNat, dite_true, hone]
  refine CallV.own (i := 0) rfl (on F6 b vl l e s (hl1.mono (PH.le_trans (PH.le_trans hF2 hF3) (PH.le_trans hF5 hF6))) hg.lt) ?_
  rintro _ F7 _ hF7 rfl
  simp only [push_cast, ↓reduceIte, Nat.reduceEqDiff, Nat.reduceAdd, Nat.reduceMul, Nat.reduceSub, Nat.reduceLT, Nat.reduceLeDiff, reduceCtorEq, Nat.reduceMod, Int.reduceEq, Int.reduceLT, Int.reduceLE, Int.reduceToNat, dite_true, hone]
  refine hG (onR s, .slice p6 n6 c6, ns ++ [((tokR l e s).tx, (tokR l e s).n)], F7, r') _ ⟨PH.le_trans hF1 (PH.le_trans (PH.le_trans hF2 hF3) (PH.le_trans hF5 (PH.le_trans hF6 hF7))), hg.trans g1, by simp; omega, ?_, ?_, fun ms t q => by dsimp only; rw [List.append_assoc]; exact hnm _ _ (.more (.inr h4) q)⟩ (by simp; omega) (by simp [subk, Eng.look]) (.cons_cons _ (List.nil_sublist _)) rfl (subR_refl _)
  · dsimp only; rw [sizeA_snoc]; dsimp only; omega
  · dsimp only; rw [atomVals_snoc]; exact hr'
end Go.Proofs.YtoepmdbicdoieaaDoor.X
/-! The reader of the definition: binds and alternatives. -/
namespace Go.Eng
open Go Go.RowKit
section
variable {P : Program} {n : Nat} {C : Cx} {k : List KItem} {S : St}
end
end Go.Eng
namespace Go.Proofs.YtoepmdbicdoieaaDoor.X
open Go Go.Eng Go.Proofs Go.Proofs.YtoepmdbicdoieaaDoor.T Go.Proofs.YtoepmdbicdoieaaDoor.K
set_option linter.unusedSimpArgs false
set_option linter.unusedVariables false
set_option maxRecDepth 100000
set_option maxHeartbeats 4000000
abbrev Cost (r s : Rd) (n : Nat) : Prop := s.bad = false → n ≤ 40 * (s.at_ - r.at_)
abbrev Onward (r s : Rd) : Prop := s.bad = false → r.at_ < s.at_
def ExpG (d : Nat) : Prop := ∀ (F : PH) (b : Nat) (vl : Value) (l : List Tok) (e : Int) (r : Rd), Giv F vl l → r.at_ ≤ l.length →
  RFn 66 [.int .i64 d] F b vl e r (fun v F' cs' => ∃ s x cs, cs' = rdC vl e s ∧ v = .agg cs.toArray ∧ Go l r s ∧ RExp F' x cs ∧ Cost r s x.size ∧ expRel (61 - d) l e r x s)
def BindG (d : Nat) : Prop := ∀ (F : PH) (b : Nat) (vl : Value) (l : List Tok) (e : Int) (r : Rd), Giv F vl l → r.at_ ≤ l.length →
  RFn 33 [.int .i64 d] F b vl e r (fun v F' cs' => ∃ s x cs, cs' = rdC vl e s ∧ v = .agg cs.toArray ∧ Go l r s ∧ RBind F' x cs ∧ Cost r s x.size ∧ Onward r s ∧ BindR (expRel (61 - d)) l e r x s)
def AltG (d : Nat) : Prop := ∀ (F : PH) (b : Nat) (vl : Value) (l : List Tok) (e : Int) (r : Rd), Giv F vl l → r.at_ ≤ l.length →
  RFn 104 [.int .i64 d] F b vl e r (fun v F' cs' => ∃ s x cs, cs' = rdC vl e s ∧ v = .agg cs.toArray ∧ Go l r s ∧ RAlt F' x cs ∧ Cost r s x.size ∧ Onward r s ∧ AltR (expRel (61 - d)) l e r x s)
abbrev expZ : List Value := [.int .i64 0, .int .i64 0, .string ⟨#[]⟩, .int .i64 0, .slice none 0 0, .slice none 0 0, .slice none 0 0, .slice none 0 0]
abbrev bindZ : List Value := .string ⟨#[]⟩ :: .int .i64 0 :: .slice none 0 0 :: expZ
abbrev altZ : List Value := .int .i64 0 :: .int .i64 0 :: .string ⟨#[]⟩ :: .int .i64 0 :: .slice none 0 0 :: expZ
theorem bind {d : Nat} (hE : ExpG d) : BindG d := by
  intro F b vl l e r hl hr
  have hone : vl.oneCell' = true := by obtain ⟨p, c, rfl, h1, h2⟩ := hl.toks.val; rfl
  have hfew := hl.few
  refine OFn.intro (n := 48) (ts := [.cell 4 53]) Tryd.func33 rfl rfl rfl rfl (by simp) fun B hB => ?_
  refine VC.go 9 ?_
  simp only [push_cast, ↓reduceIte, Nat.reduceEqDiff, Nat.reduceAdd, Nat.reduceMul, Nat.reduceSub, Nat.reduceLT, Nat.reduceLeDiff, reduceCtorEq, Nat.reduceMod, Int.reduceEq, Int.reduceLT, Int.reduceLE, Int.reduceToNat, dite_true, hone]
  intro b4
  refine CallV.own (i := 0) rfl (kind F b vl l e r 1 hl hr) ?_
  rintro _ F1 _ hF1 ⟨rfl, rfl⟩
  obtain ⟨g1, h1⟩ := go_kind (l := l) (e := e) (r := r) (k := 1) (by decide) hr
  have hts := kindT_short (l := l) (e := e) (r := r) (k := 1) hl.short
  obtain ⟨t, ht⟩ : ∃ t, t = kindT l e r 1 := ⟨_, rfl⟩
  obtain ⟨s1, hs1⟩ : ∃ s1, s1 = kindR l e r 1 := ⟨_, rfl⟩
  rw [← hs1] at g1 h1
  rw [← ht] at hts
  rw [← ht, ← hs1]
  simp only [push_cast, ↓reduceIte, Nat.reduceEqDiff, Nat.reduceAdd, Nat.reduceMul, Nat.reduceSub, Nat.reduceLT, Nat.reduceLeDiff, reduceCtorEq, Nat.reduceMod, Int.reduceEq, Int.reduceLT, Int.reduceLE, Int.reduceToNat, dite_true, hone]
  intro b5
  refine CallV.own (i := 0) rfl (want F1 b vl l e s1 ⟨#[61]⟩ (hl.mono hF1) g1.lt) ?_
  rintro _ F2 _ hF2 rfl
  have g2 := go_want (l := l) (e := e) (r := s1) (s := ⟨#[61]⟩) g1.lt
  obtain ⟨s2, hs2⟩ : ∃ s2, s2 = wantR l e s1 ⟨#[61]⟩ := ⟨_, rfl⟩
  rw [← hs2] at g2 ⊢
  simp only [push_cast, ↓reduceIte, Nat.reduceEqDiff, Nat.reduceAdd, Nat.reduceMul, Nat.reduceSub, Nat.reduceLT, Nat.reduceLeDiff, reduceCtorEq, Nat.reduceMod, Int.reduceEq, Int.reduceLT, Int.reduceLE, Int.reduceToNat, dite_true, hone]
  intro b6
  have hF02 := PH.le_trans hF1 hF2
  have g12 := g1.trans g2
  refine VC.emp ?_
  refine VC.cutMR (ι := Rd × Value × List ByteArray × PH × PH) (fun i => [(6, .o 3 b6 0), (4, .o 1 b4 0), (1, .v (.int .i64 d)), (0, .o 0 b 0)])
    (fun i => [⟨0, b, 97, rdC vl e i.1⟩, ⟨1, b4, 53, bindZ⟩, ⟨2, b5, 99, tokC t⟩, ⟨3, b6, 53, .string t.tx :: .int .i64 t.at_ :: i.2.1 :: expZ⟩])
    (fun i => i.2.2.2.1) (fun i => [i.2.2.2.2]) (fun i => F.le i.2.2.2.1 ∧ Go l r i.1 ∧ Row i.2.2.2.2 9 1 i.2.1 (i.2.2.1.map .string) ∧ (i.1.bad = false → r.at_ < i.1.at_ ∧ t.tx.size + 1 + sizeS i.2.2.1 ≤ 33 * (i.1.at_ - r.at_)) ∧ ArgsR l e s2 i.2.2.1 i.1) ?_ ?_
  · intro G hG
    refine VC.go 100 ?_
    simp only [push_cast, ↓reduceIte, Nat.reduceEqDiff, Nat.reduceAdd, Nat.reduceMul, Nat.reduceSub, Nat.reduceLT, Nat.reduceLeDiff, reduceCtorEq, Nat.reduceMod, Int.reduceEq, Int.reduceLT, Int.reduceLE, Int.reduceToNat, dite_true, hone]
    refine CallV.own (i := 0) rfl (is_ F2 b vl l e s2 ⟨#[92]⟩ (hl.mono hF02) g2.lt) ?_
    rintro _ F3 _ hF3 ⟨rfl, rfl⟩
    have hF03 := PH.le_trans hF02 hF3
    have h2 : s2.bad = false → s1.bad = false := g2.good
    have hle2 := g2.le
    cases hk : isR l e s2 ⟨#[92]⟩ with
    | false =>
      simp only [push_cast, ↓reduceIte, Nat.reduceEqDiff, Nat.reduceAdd, Nat.reduceMul, Nat.reduceSub, Nat.reduceLT, Nat.reduceLeDiff, reduceCtorEq, Nat.reduceMod, Int.reduceEq, Int.reduceLT, Int.reduceLE, Int.reduceToNat, dite_true, hone]
      refine hG (s2, .slice none 0 0, [], F3, PH.emp) _ ⟨hF03, g12, Row.nil _ _, fun hb => ?_, by unfold ArgsR; rw [if_neg (by rw [hk]; decide)]; exact ⟨rfl, rfl⟩⟩ (by simp [subk, Eng.look]) (List.Sublist.refl _) rfl (subR_refl _)
      have := h1 (h2 hb)
      dsimp only [sizeS]
      omega
    | true =>
      simp only [push_cast, ↓reduceIte, Nat.reduceEqDiff, Nat.reduceAdd, Nat.reduceMul, Nat.reduceSub, Nat.reduceLT, Nat.reduceLeDiff, reduceCtorEq, Nat.reduceMod, Int.reduceEq, Int.reduceLT, Int.reduceLE, Int.reduceToNat, dite_true, hone]
      refine CallV.own (i := 0) rfl (on F3 b vl l e s2 (hl.mono hF03) g2.lt) ?_
      rintro _ F4 _ hF4 rfl
      obtain ⟨g3, h3, h3b⟩ := go_on (isR_k hk)
      have hF04 := PH.le_trans hF03 hF4
      simp only [push_cast, ↓reduceIte, Nat.reduceEqDiff, Nat.reduceAdd, Nat.reduceMul, Nat.reduceSub, Nat.reduceLT, Nat.reduceLeDiff, reduceCtorEq, Nat.reduceMod, Int.reduceEq, Int.reduceLT, Int.reduceLE, Int.reduceToNat, dite_true, hone]
      refine VC.draw (.q 0 (.q 1 (.q 2 (.q 3 (.es 4 [0, 1, 2, 3] (.q 5 (.e 6 (.e 7 (.q 8 (.q 9 (.es 10 [8] (.done)))))))))))) mixed (by rfl) ?_
      simp only [push_cast, ↓reduceIte, Nat.reduceEqDiff, Nat.reduceAdd, Nat.reduceMul, Nat.reduceSub, Nat.reduceLT, Nat.reduceLeDiff, reduceCtorEq, Nat.reduceMod, Int.reduceEq, Int.reduceLT, Int.reduceLE, Int.reduceToNat, dite_true, hone]
      refine CallV.own (i := 0) rfl (kind F4 b vl l e (onR s2) 1 (hl.mono hF04) g3.lt) ?_
      rintro _ F5 _ hF5 ⟨rfl, rfl⟩
      obtain ⟨g4, h4⟩ := go_kind (l := l) (e := e) (r := onR s2) (k := 1) (by decide) g3.lt
      have hts2 := kindT_short (l := l) (e := e) (r := onR s2) (k := 1) hl.short
      obtain ⟨t2, ht2⟩ : ∃ t2, t2 = kindT l e (onR s2) 1 := ⟨_, rfl⟩
      obtain ⟨s4, hs4⟩ : ∃ s4, s4 = kindR l e (onR s2) 1 := ⟨_, rfl⟩
      rw [← hs4] at g4 h4
      rw [← ht2] at hts2
      rw [← ht2, ← hs4]
      have hF05 := PH.le_trans hF04 hF5
      simp only [push_cast, ↓reduceIte, Nat.reduceEqDiff, Nat.reduceAdd, Nat.reduceMul, Nat.reduceSub, Nat.reduceLT, Nat.reduceLeDiff, reduceCtorEq, Nat.reduceMod, Int.reduceEq, Int.reduceLT, Int.reduceLE, Int.reduceToNat, dite_true, hone]
      intro b26 F6 hF6 hb26
      refine Eff.append (xs := []) (ys := [.string t2.tx]) rfl rfl rfl ty44 rfl ty9 rfl (by decide) rfl rfl (List.Perm.refl _) (Row.nil _ _) (Src.blk hb26 rfl) (by simp [Value.oneCell']) (by simp) (by decide) ?_
      intro v7 r7 hr7
      rw [List.nil_append] at hr7
      have hr7 : Row r7 9 1 v7 (([t2.tx] : List ByteArray).map .string) := hr7
      obtain ⟨p7, n7, c7, rfl⟩ := hr7.val
      have hF06 := PH.le_trans hF05 hF6
      simp only [push_cast, ↓reduceIte, Nat.reduceEqDiff, Nat.reduceAdd, Nat.reduceMul, Nat.reduceSub, Nat.reduceLT, Nat.reduceLeDiff, reduceCtorEq, Nat.reduceMod, Int.reduceEq, Int.reduceLT, Int.reduceLE, Int.reduceToNat, dite_true, hone]
      refine VC.go 100 ?_
      refine VC.draw (.q 0 (.q 1 (.q 2 (.q 3 (.es 4 [0, 1, 2, 3] (.e 5 (.q 6 (.q 7 (.es 8 [6] (.done)))))))))) mixed (by rfl) ?_
      simp only [push_cast, ↓reduceIte, Nat.reduceEqDiff, Nat.reduceAdd, Nat.reduceMul, Nat.reduceSub, Nat.reduceLT, Nat.reduceLeDiff, reduceCtorEq, Nat.reduceMod, Int.reduceEq, Int.reduceLT, Int.reduceLE, Int.reduceToNat, dite_true, hone]
      refine CallV.own (i := 0) rfl (names F6 b vl l e s4 (hl.mono hF06) g4.lt) ?_
      rintro _ F7 _ hF7 ⟨s5, ns, rfl, g5, hns, hlen, hsz, hnr⟩
      have hns' := hns
      obtain ⟨p8, c8, rfl, _, _, hsrc⟩ := hns
      have hF07 := PH.le_trans hF06 hF7
      have g5l := g5.lt
      simp only [push_cast, ↓reduceIte, Nat.reduceEqDiff, Nat.reduceAdd, Nat.reduceMul, Nat.reduceSub, Nat.reduceLT, Nat.reduceLeDiff, reduceCtorEq, Nat.reduceMod, Int.reduceEq, Int.reduceLT, Int.reduceLE, Int.reduceToNat, dite_true, hone]
      refine Eff.append (xs := ([t2.tx] : List ByteArray).map .string) (ys := ns.map .string) rfl rfl rfl ty44 rfl ty9 rfl (by decide) rfl rfl (List.Perm.refl _) hr7 hsrc (by simp [Value.oneCell']) (by simp; omega) (by decide) ?_
      intro v8 r8 hr8
      rw [← List.map_append] at hr8
      obtain ⟨p9, n9, c9, rfl⟩ := hr8.val
      simp only [push_cast, ↓reduceIte, Nat.reduceEqDiff, Nat.reduceAdd, Nat.reduceMul, Nat.reduceSub, Nat.reduceLT, Nat.reduceLeDiff, reduceCtorEq, Nat.reduceMod, Int.reduceEq, Int.reduceLT, Int.reduceLE, Int.reduceToNat, dite_true, hone]
      refine VC.go 100 ?_
      simp only [push_cast, ↓reduceIte, Nat.reduceEqDiff, Nat.reduceAdd, Nat.reduceMul, Nat.reduceSub, Nat.reduceLT, Nat.reduceLeDiff, reduceCtorEq, Nat.reduceMod, Int.reduceEq, Int.reduceLT, Int.reduceLE, Int.reduceToNat, dite_true, hone]
      refine CallV.own (i := 0) rfl (want F7 b vl l e s5 ⟨#[45, 62]⟩ (hl.mono hF07) g5.lt) ?_
      rintro _ F8 _ hF8 rfl
      have g6 := go_want (l := l) (e := e) (r := s5) (s := ⟨#[45, 62]⟩) g5.lt
      simp only [push_cast, ↓reduceIte, Nat.reduceEqDiff, Nat.reduceAdd, Nat.reduceMul, Nat.reduceSub, Nat.reduceLT, Nat.reduceLeDiff, reduceCtorEq, Nat.reduceMod, Int.reduceEq, Int.reduceLT, Int.reduceLE, Int.reduceToNat, dite_true, hone]
      refine hG (wantR l e s5 ⟨#[45, 62]⟩, .slice p9 n9 c9, [t2.tx] ++ ns, F8, r8) _ ⟨PH.le_trans hF07 hF8, g12.trans (g3.trans (g4.trans (g5.trans g6))), hr8, fun hb => ?_, by unfold ArgsR; rw [if_pos hk, ← hs4, ← ht2]; exact ⟨ns, s5, hnr, rfl, rfl⟩⟩ (by simp [subk, Eng.look]) (List.Sublist.refl _) rfl (subR_refl _)
      have q5 := g6.good hb
      have q4 := g5.good q5
      have q3 := h4 q4
      have q1 := h1 (h2 (g3.good (g4.good q4)))
      have e6 := g6.le
      dsimp only at hb ⊢
      rw [sizeS_append]
      simp only [sizeS]
      omega
  rintro ⟨s3, v3, ns, F3, r3⟩ ⟨hF3, g3, hr3, hc3, har⟩
  dsimp only at hF3 g3 hr3 hc3 har ⊢
  refine VC.freezeR (List.Perm.refl _) fun F4 hF4 hrF => ?_
  have hF04 := PH.le_trans hF3 hF4
  have hst := Row.strs hr3 hrF
  obtain ⟨p3, n3, c3, rfl⟩ := hr3.val
  refine VC.go 100 ?_
  simp only [push_cast, ↓reduceIte, Nat.reduceEqDiff, Nat.reduceAdd, Nat.reduceMul, Nat.reduceSub, Nat.reduceLT, Nat.reduceLeDiff, reduceCtorEq, Nat.reduceMod, Int.reduceEq, Int.reduceLT, Int.reduceLE, Int.reduceToNat, dite_true, hone]
  refine CallV.own (i := 0) rfl (hE F4 b vl l e s3 (hl.mono hF04) g3.lt) ?_
  rintro _ F5 _ hF5 ⟨s4, x, cs, rfl, rfl, g4, hx, hc4, hxr⟩
  have hx' := hx
  obtain ⟨xa, xb, xe, xl, rfl, hX⟩ := RExp_iff.1 hx
  obtain ⟨_, _, _, _, _, _, _, _, rfl, rfl, rfl, rfl⟩ := hX.slices
  simp only [push_cast, ↓reduceIte, Nat.reduceEqDiff, Nat.reduceAdd, Nat.reduceMul, Nat.reduceSub, Nat.reduceLT, Nat.reduceLeDiff, reduceCtorEq, Nat.reduceMod, Int.reduceEq, Int.reduceLT, Int.reduceLE, Int.reduceToNat, dite_true, hone]
  refine CallV.own (i := 0) rfl (want F5 b vl l e s4 ⟨#[59]⟩ (hl.mono (PH.le_trans hF04 hF5)) g4.lt) ?_
  rintro _ F6 _ hF6 rfl
  have g5 := go_want (l := l) (e := e) (r := s4) (s := ⟨#[59]⟩) g4.lt
  simp only [push_cast, ↓reduceIte, Nat.reduceEqDiff, Nat.reduceAdd, Nat.reduceMul, Nat.reduceSub, Nat.reduceLT, Nat.reduceLeDiff, reduceCtorEq, Nat.reduceMod, Int.reduceEq, Int.reduceLT, Int.reduceLE, Int.reduceToNat, dite_true, hone]
  have hgood : (wantR l e s4 ⟨#[59]⟩).bad = false → r.at_ < s3.at_ ∧ t.tx.size + 1 + sizeS ns + x.size ≤ 40 * ((wantR l e s4 ⟨#[59]⟩).at_ - r.at_) := fun hb => by
    have k4 := g5.good hb
    have k3 := hc3 (g4.good k4)
    have k5 := hc4 k4
    have e4 := g4.le
    have e5 := g5.le
    omega
  refine rret (r := wantR l e s4 ⟨#[59]⟩) (vs := [_]) (by simp only [push_cast, ↓reduceIte, Nat.reduceEqDiff, Nat.reduceAdd, Nat.reduceMul, Nat.reduceSub, Nat.reduceLT, Nat.reduceLeDiff, reduceCtorEq, Nat.reduceMod, Int.reduceEq, Int.reduceLT, Int.reduceLE, Int.reduceToNat, dite_true, rvals, rval1] <;> rfl) rfl ⟨_, .mk t.tx t.at_ ns x, _, rfl, rfl, g3.trans (g4.trans g5), RBind_iff.2 ⟨_, _, rfl, hst.mono (PH.le_trans hF5 hF6), hx'.mono hF6⟩, fun hb => ?_, fun hb => ?_, ns, s3, x, s4, by rw [← hs1, ← hs2]; exact har, hxr, by rw [← ht], rfl⟩
  · exact (hgood hb).2
  · have := (hgood hb).1
    have e4 := g4.le
    have e5 := g5.le
    omega
theorem alt {d : Nat} (hE : ExpG d) : AltG d := by
  intro F b vl l e r hl hr
  have hone : vl.oneCell' = true := by obtain ⟨p, c, rfl, h1, h2⟩ := hl.toks.val; rfl
  have hfew := hl.few
  refine OFn.intro (n := 52) (ts := [.cell 4 148]) Tryd.func104 rfl rfl rfl rfl (by simp) fun B hB => ?_
  refine VC.go 7 ?_
  simp only [push_cast, ↓reduceIte, Nat.reduceEqDiff, Nat.reduceAdd, Nat.reduceMul, Nat.reduceSub, Nat.reduceLT, Nat.reduceLeDiff, reduceCtorEq, Nat.reduceMod, Int.reduceEq, Int.reduceLT, Int.reduceLE, Int.reduceToNat, dite_true, hone]
  intro b4
  refine CallV.own (i := 0) rfl (token F b vl l e r hl hr) ?_
  rintro _ F1 _ hF1 ⟨rfl, rfl⟩
  have hts := tokR_short (l := l) (e := e) (r := r) hl.short
  have hon := fun h => go_on (l := l) (e := e) (r := r) h
  obtain ⟨t, ht⟩ : ∃ t, t = tokR l e r := ⟨_, rfl⟩
  rw [← ht] at hts hon
  rw [← ht]
  simp only [push_cast, ↓reduceIte, Nat.reduceEqDiff, Nat.reduceAdd, Nat.reduceMul, Nat.reduceSub, Nat.reduceLT, Nat.reduceLeDiff, reduceCtorEq, Nat.reduceMod, Int.reduceEq, Int.reduceLT, Int.reduceLE, Int.reduceToNat, dite_true, hone]
  intro b5 b6
  have hl1 := hl.mono hF1
  refine VC.cutM (ι := Rd × Int × ByteArray × Int × Value × List ByteArray × PH) (fun i => [(6, .o 3 b6 0), (4, .o 1 b4 0), (1, .v (.int .i64 d)), (0, .o 0 b 0)])
    (fun i => [⟨0, b, 97, rdC vl e i.1⟩, ⟨1, b4, 148, altZ⟩, ⟨2, b5, 99, tokC t⟩, ⟨3, b6, 148, .int .i64 i.2.1 :: .int .i64 t.at_ :: .string i.2.2.1 :: .int .i64 i.2.2.2.1 :: i.2.2.2.2.1 :: expZ⟩])
    (fun i => i.2.2.2.2.2.2) (fun i => F.le i.2.2.2.2.2.2 ∧ Go l r i.1 ∧ Strs i.2.2.2.2.2.2 i.2.2.2.2.1 i.2.2.2.2.2.1 ∧ (i.1.bad = false → r.at_ < i.1.at_ ∧ i.2.2.1.size + 1 + sizeS i.2.2.2.2.2.1 ≤ 33 * (i.1.at_ - r.at_)) ∧ HeadR l e r i.2.1 i.2.2.1 i.2.2.2.1 i.2.2.2.2.2.1 i.1) ?_ ?_
  · intro G hG
    refine VC.go 100 ?_
    by_cases k2 : t.k = 2
    case pos =>
      obtain ⟨g1, g2, g3⟩ := hon (by rw [k2]; decide)
      simp only [push_cast, ↓reduceIte, Nat.reduceEqDiff, Nat.reduceAdd, Nat.reduceMul, Nat.reduceSub, Nat.reduceLT, Nat.reduceLeDiff, reduceCtorEq, Nat.reduceMod, Int.reduceEq, Int.reduceLT, Int.reduceLE, Int.reduceToNat, dite_true, hone, eq_true k2]
      refine CallV.own (i := 0) rfl (on F1 b vl l e r hl1 hr) ?_
      rintro _ F2 _ hF2 rfl
      simp only [push_cast, ↓reduceIte, Nat.reduceEqDiff, Nat.reduceAdd, Nat.reduceMul, Nat.reduceSub, Nat.reduceLT, Nat.reduceLeDiff, reduceCtorEq, Nat.reduceMod, Int.reduceEq, Int.reduceLT, Int.reduceLE, Int.reduceToNat, dite_true, hone]
      refine CallV.own (i := 0) rfl (names F2 b vl l e (onR r) (hl1.mono hF2) g1.lt) ?_
      rintro _ F3 _ hF3 ⟨s2, ns, rfl, g4, hns, hlen, hsz, hnr⟩
      have hns' := hns
      obtain ⟨p8, c8, rfl, _, _, hsrc⟩ := hns
      simp only [push_cast, ↓reduceIte, Nat.reduceEqDiff, Nat.reduceAdd, Nat.reduceMul, Nat.reduceSub, Nat.reduceLT, Nat.reduceLeDiff, reduceCtorEq, Nat.reduceMod, Int.reduceEq, Int.reduceLT, Int.reduceLE, Int.reduceToNat, dite_true, hone]
      refine hG (s2, 1, t.tx, 0, .slice p8 ns.length c8, ns, F3) _ ⟨PH.le_trans hF1 (PH.le_trans hF2 hF3), g1.trans g4, hns', fun hb => ?_, by unfold HeadR; rw [← ht, if_pos k2]; exact ⟨rfl, rfl, rfl, hnr⟩⟩ (by simp [subk, Eng.look]) (List.Sublist.refl _) rfl rfl
      dsimp only
      omega
    by_cases k4 : t.k = 4
    case pos =>
      obtain ⟨g1, g2, g3⟩ := hon (by rw [k4]; decide)
      simp only [push_cast, ↓reduceIte, Nat.reduceEqDiff, Nat.reduceAdd, Nat.reduceMul, Nat.reduceSub, Nat.reduceLT, Nat.reduceLeDiff, reduceCtorEq, Nat.reduceMod, Int.reduceEq, Int.reduceLT, Int.reduceLE, Int.reduceToNat, dite_true, hone, k2, eq_true k4]
      refine CallV.own (i := 0) rfl (on F1 b vl l e r hl1 hr) ?_
      rintro _ F2 _ hF2 rfl
      simp only [push_cast, ↓reduceIte, Nat.reduceEqDiff, Nat.reduceAdd, Nat.reduceMul, Nat.reduceSub, Nat.reduceLT, Nat.reduceLeDiff, reduceCtorEq, Nat.reduceMod, Int.reduceEq, Int.reduceLT, Int.reduceLE, Int.reduceToNat, dite_true, hone]
      refine hG (onR r, 2, ⟨#[]⟩, t.n, .slice none 0 0, [], F2) _ ⟨PH.le_trans hF1 hF2, g1, nil_strs _, fun hb => ?_, by unfold HeadR; rw [← ht, if_neg k2, if_pos k4]; exact ⟨rfl, rfl, rfl, rfl, rfl⟩⟩ (by simp [subk, Eng.look]) (List.Sublist.refl _) rfl rfl
      have : (⟨#[]⟩ : ByteArray).size = 0 := rfl
      dsimp only [sizeS]
      omega
    by_cases k1 : t.k = 1
    case pos =>
      obtain ⟨g1, g2, g3⟩ := hon (by rw [k1]; decide)
      simp only [push_cast, ↓reduceIte, Nat.reduceEqDiff, Nat.reduceAdd, Nat.reduceMul, Nat.reduceSub, Nat.reduceLT, Nat.reduceLeDiff, reduceCtorEq, Nat.reduceMod, Int.reduceEq, Int.reduceLT, Int.reduceLE, Int.reduceToNat, dite_true, hone, k2, k4, eq_true k1]
      refine CallV.own (i := 0) rfl (on F1 b vl l e r hl1 hr) ?_
      rintro _ F2 _ hF2 rfl
      simp only [push_cast, ↓reduceIte, Nat.reduceEqDiff, Nat.reduceAdd, Nat.reduceMul, Nat.reduceSub, Nat.reduceLT, Nat.reduceLeDiff, reduceCtorEq, Nat.reduceMod, Int.reduceEq, Int.reduceLT, Int.reduceLE, Int.reduceToNat, dite_true, hone]
      refine hG (onR r, 3, t.tx, 0, .slice none 0 0, [], F2) _ ⟨PH.le_trans hF1 hF2, g1, nil_strs _, fun hb => ?_, by unfold HeadR; rw [← ht, if_neg k2, if_neg k4, if_pos k1]; exact ⟨rfl, rfl, rfl, rfl, rfl⟩⟩ (by simp [subk, Eng.look]) (List.Sublist.refl _) rfl rfl
      dsimp only [sizeS]
      omega
    simp only [push_cast, ↓reduceIte, Nat.reduceEqDiff, Nat.reduceAdd, Nat.reduceMul, Nat.reduceSub, Nat.reduceLT, Nat.reduceLeDiff, reduceCtorEq, Nat.reduceMod, Int.reduceEq, Int.reduceLT, Int.reduceLE, Int.reduceToNat, dite_true, hone, k2, k4, k1]
    refine CallV.own (i := 0) rfl (fail F1 b vl l e 23 r hl1 hr) ?_
    rintro _ F2 _ hF2 rfl
    simp only [push_cast, ↓reduceIte, Nat.reduceEqDiff, Nat.reduceAdd, Nat.reduceMul, Nat.reduceSub, Nat.reduceLT, Nat.reduceLeDiff, reduceCtorEq, Nat.reduceMod, Int.reduceEq, Int.reduceLT, Int.reduceLE, Int.reduceToNat, dite_true, hone]
    refine hG (failR l e r 23, 0, ⟨#[]⟩, 0, .slice none 0 0, [], F2) _ ⟨PH.le_trans hF1 hF2, go_fail hr, nil_strs _, fun hb => ?_, by unfold HeadR; rw [← ht, if_neg k2, if_neg k4, if_neg k1]; exact ⟨rfl, rfl, rfl, rfl, rfl⟩⟩ (by simp [subk, Eng.look]) (List.Sublist.refl _) rfl rfl
    dsimp only at hb
    rw [fail_bad] at hb
    cases hb
  rintro ⟨s1, k, nm, nv, v, ns, F2⟩ ⟨hF2, g1, hst, hc1, hhd⟩
  dsimp only at hF2 g1 hst hc1 hhd ⊢
  have hst' := hst
  obtain ⟨p3, c3, rfl, _, _, _⟩ := hst
  refine VC.go 100 ?_
  simp only [push_cast, ↓reduceIte, Nat.reduceEqDiff, Nat.reduceAdd, Nat.reduceMul, Nat.reduceSub, Nat.reduceLT, Nat.reduceLeDiff, reduceCtorEq, Nat.reduceMod, Int.reduceEq, Int.reduceLT, Int.reduceLE, Int.reduceToNat, dite_true, hone]
  refine CallV.own (i := 0) rfl (want F2 b vl l e s1 ⟨#[45, 62]⟩ (hl.mono hF2) g1.lt) ?_
  rintro _ F3 _ hF3 rfl
  have g2 := go_want (l := l) (e := e) (r := s1) (s := ⟨#[45, 62]⟩) g1.lt
  obtain ⟨s2, hs2⟩ : ∃ s2, s2 = wantR l e s1 ⟨#[45, 62]⟩ := ⟨_, rfl⟩
  rw [← hs2] at g2 ⊢
  have hF03 := PH.le_trans hF2 hF3
  simp only [push_cast, ↓reduceIte, Nat.reduceEqDiff, Nat.reduceAdd, Nat.reduceMul, Nat.reduceSub, Nat.reduceLT, Nat.reduceLeDiff, reduceCtorEq, Nat.reduceMod, Int.reduceEq, Int.reduceLT, Int.reduceLE, Int.reduceToNat, dite_true, hone]
  refine CallV.own (i := 0) rfl (hE F3 b vl l e s2 (hl.mono hF03) g2.lt) ?_
  rintro _ F5 _ hF5 ⟨s4, x, cs, rfl, rfl, g4, hx, hc4, hxr⟩
  have hx' := hx
  obtain ⟨xa, xb, xe, xl, rfl, hX⟩ := RExp_iff.1 hx
  obtain ⟨_, _, _, _, _, _, _, _, rfl, rfl, rfl, rfl⟩ := hX.slices
  simp only [push_cast, ↓reduceIte, Nat.reduceEqDiff, Nat.reduceAdd, Nat.reduceMul, Nat.reduceSub, Nat.reduceLT, Nat.reduceLeDiff, reduceCtorEq, Nat.reduceMod, Int.reduceEq, Int.reduceLT, Int.reduceLE, Int.reduceToNat, dite_true, hone]
  refine CallV.own (i := 0) rfl (want F5 b vl l e s4 ⟨#[59]⟩ (hl.mono (PH.le_trans hF03 hF5)) g4.lt) ?_
  rintro _ F6 _ hF6 rfl
  have g5 := go_want (l := l) (e := e) (r := s4) (s := ⟨#[59]⟩) g4.lt
  simp only [push_cast, ↓reduceIte, Nat.reduceEqDiff, Nat.reduceAdd, Nat.reduceMul, Nat.reduceSub, Nat.reduceLT, Nat.reduceLeDiff, reduceCtorEq, Nat.reduceMod, Int.reduceEq, Int.reduceLT, Int.reduceLE, Int.reduceToNat, dite_true, hone]
  have hgood : (wantR l e s4 ⟨#[59]⟩).bad = false → r.at_ < s1.at_ ∧ nm.size + 1 + sizeS ns + x.size ≤ 40 * ((wantR l e s4 ⟨#[59]⟩).at_ - r.at_) := fun hb => by
    have k4 := g5.good hb
    have k3 := hc1 (g2.good (g4.good k4))
    have k5 := hc4 k4
    have e2 := g2.le
    have e4 := g4.le
    have e5 := g5.le
    omega
  refine rret (r := wantR l e s4 ⟨#[59]⟩) (vs := [_]) (by simp only [push_cast, ↓reduceIte, Nat.reduceEqDiff, Nat.reduceAdd, Nat.reduceMul, Nat.reduceSub, Nat.reduceLT, Nat.reduceLeDiff, reduceCtorEq, Nat.reduceMod, Int.reduceEq, Int.reduceLT, Int.reduceLE, Int.reduceToNat, dite_true, rvals, rval1] <;> rfl) rfl ⟨_, .mk k t.at_ nm nv ns x, _, rfl, rfl, g1.trans (g2.trans (g4.trans g5)), RAlt_iff.2 ⟨_, _, rfl, hst'.mono (PH.le_trans hF3 (PH.le_trans hF5 hF6)), hx'.mono hF6⟩, fun hb => ?_, fun hb => ?_, k, nm, nv, ns, s1, x, s4, hhd, by rw [← hs2]; exact hxr, by rw [← ht], rfl⟩
  · exact (hgood hb).2
  · have := (hgood hb).1
    have e2 := g2.le
    have e4 := g4.le
    have e5 := g5.le
    omega
end Go.Proofs.YtoepmdbicdoieaaDoor.X
